/- Decompiled by a program: functions as plain data see them, part 2. -/
import Derived.Test.YtefidjmkfefilaaDoorH71
namespace Go.Proofs.Tryd
set_option linter.unusedSimpArgs false
set_option linter.unusedVariables false
set_option maxHeartbeats 4000000
open Go Go.Vs
noncomputable section
inductive R_F78 where
  | k0
  | k1 (x0 : Bool) (x1 : List SetD) (x2 : List Bool) (x3 x4 x5 x6 : Int)
  | k2
def F78_v (a1 : ProdD) (a2 : GramD) (a3 : List Int) (a4 : List Bool) (a5 : List SetD) (a6 : List Bool) (a7 a8 : Nat) (a9 : List SetD) (a10 : List Bool) (r : R_F78) : AV := match r with | .k0 => (vb false) | .k1 x0 x1 x2 x3 x4 x5 x6 => (vb x0) | .k2 => (vb false)
def F78_h (a1 : ProdD) (a2 : GramD) (a3 : List Int) (a4 : List Bool) (a5 : List SetD) (a6 : List Bool) (a7 a8 : Nat) (a9 : List SetD) (a10 : List Bool) (r : R_F78) : List AB := match r with | .k0 => [.cells 89 [(.ro (eOp a2 a3 a4))], bS [], bB [], bS [], .cells 63 [ls 4 eSet a5], .cells 100 [(.fn 77 [.ptr 0 0])], .cells 100 [(.fn 77 [.ptr 0 0])], bB [], bB a6, bB [], .cells 56 [.sl 8 0 1 0 a7], bB [], .cells 56 [.sl 8 0 1 0 a8], bS a9, bB a10, bS [], .cells 63 [.sl 13 0 4 0 a7], bB [], .cells 56 [.sl 14 0 1 0 a7], yY0, bP a1, bP a1, bP a1] | .k1 x0 x1 x2 x3 x4 x5 x6 => [.cells 89 [(.ro (eOp a2 a3 a4))], bS [], bB [], bS [], .cells 63 [ls 4 eSet a5], .cells 100 [(.fn 77 [.ptr 0 0])], .cells 100 [(.fn 77 [.ptr 0 0])], bB [], bB a6, bB [], .cells 56 [.sl 8 0 1 0 a7], bB [], .cells 56 [.sl 8 0 1 0 a8], bS x1, bB x2, bS [], .cells 63 [.sl 13 0 4 0 a7], bB [], .cells 56 [.sl 14 0 1 0 a7], yY0, bP a1, bP a1, bP a1, .cells 46 [vi .u64 x3, vi .u64 x4, vi .u64 x5, vi .u64 x6]] | .k2 => [.cells 89 [(.ro (eOp a2 a3 a4))], bS [], bB [], bS [], .cells 63 [ls 4 eSet a5], .cells 100 [(.fn 77 [.ptr 0 0])], .cells 100 [(.fn 77 [.ptr 0 0])], bB [], bB a6, bB [], .cells 56 [.sl 8 0 1 0 a7], bB [], .cells 56 [.sl 8 0 1 0 a8], bS a9, bB a10, bS [], .cells 63 [.sl 13 0 4 0 a7], bB [], .cells 56 [.sl 14 0 1 0 a7], yY0, bP a1, bP a1]
def F78 (a1 : ProdD) (a2 : GramD) (a3 : List Int) (a4 : List Bool) (a5 : List SetD) (a6 : List Bool) (a7 a8 : Nat) (a9 : List SetD) (a10 : List Bool) : Option R_F78 :=
  ((ixN a8 a1.left).bind fun x1 => ((a6[x1]?).bind fun x2 => (bif x2 then ((F77_2 a1 a3).bind fun x4 => (bif x4 then ((getI a3 a2.start).bind fun x6 => (bif (decide (x6 < 0)) then (some (.k0)) else ((ixN a7 a1.left).bind fun x8 => ((a9[x8]?).bind fun x9 => ((a10[x8]?).bind fun x10 => (bif x10 then ((runL (fun s => L78_0 a4 a5 a7 a1 s.1 s.2.1 s.2.2.1 s.2.2.2.1 s.2.2.2.2.1 s.2.2.2.2.2.1 s.2.2.2.2.2.2.1 s.2.2.2.2.2.2.2.1 s.2.2.2.2.2.2.2.2) (false, true, (IntKind.wrap .i64 ((a1.right.length : Int) - 1)), a9, a10, x9.a, x9.b, x9.c, x9.d)).bind fun r12 => match r12 with | .k0 x12_0 x12_1 x12_2 x12_3 x12_4 x12_5 x12_6 => (some (.k1 x12_0 x12_1 x12_2 x12_3 x12_4 x12_5 x12_6))) else ((runL (fun s => L78_0 a4 a5 a7 a1 s.1 s.2.1 s.2.2.1 s.2.2.2.1 s.2.2.2.2.1 s.2.2.2.2.2.1 s.2.2.2.2.2.2.1 s.2.2.2.2.2.2.2.1 s.2.2.2.2.2.2.2.2) (false, false, (IntKind.wrap .i64 ((a1.right.length : Int) - 1)), a9, a10, x9.a, x9.b, x9.c, x9.d)).bind fun r12 => match r12 with | .k0 x12_0 x12_1 x12_2 x12_3 x12_4 x12_5 x12_6 => (some (.k1 x12_0 x12_1 x12_2 x12_3 x12_4 x12_5 x12_6))))))))) else (some (.k0)))) else (some (.k2)))))
abbrev F78_d0 (a2 : GramD) (a3 : List Int) (a4 : List Bool) (a5 : List SetD) (a6 : List Bool) (a7 a8 : Nat) (a9 : List SetD) (a10 : List Bool) (a1 : ProdD) : List AB := [.cells 89 [(.ro (eOp a2 a3 a4))], bS [], bB [], bS [], .cells 63 [ls 4 eSet a5], .cells 100 [(.fn 77 [.ptr 0 0])], .cells 100 [(.fn 77 [.ptr 0 0])], bB [], bB a6, bB [], .cells 56 [.sl 8 0 1 0 a7], bB [], .cells 56 [.sl 8 0 1 0 a8], bS a9, bB a10, bS [], .cells 63 [.sl 13 0 4 0 a7], bB [], .cells 56 [.sl 14 0 1 0 a7], yY0, bP a1, bP a1]
abbrev F78_d1 (a2 : GramD) (a3 : List Int) (a4 : List Bool) (a5 : List SetD) (a6 : List Bool) (a7 a8 : Nat) (a9 : List SetD) (a10 : List Bool) (a1 : ProdD) : List AB := [.cells 89 [(.ro (eOp a2 a3 a4))], bS [], bB [], bS [], .cells 63 [ls 4 eSet a5], .cells 100 [(.fn 77 [.ptr 0 0])], .cells 100 [(.fn 77 [.ptr 0 0])], bB [], bB a6, bB [], .cells 56 [.sl 8 0 1 0 a7], bB [], .cells 56 [.sl 8 0 1 0 a8], bS a9, bB a10, bS [], .cells 63 [.sl 13 0 4 0 a7], bB [], .cells 56 [.sl 14 0 1 0 a7], yY0, bP a1, bP a1, bP a1]
abbrev F78_d2 (a2 : GramD) (a3 : List Int) (a4 : List Bool) (a5 : List SetD) (a6 : List Bool) (a7 a8 : Nat) (a9 : List SetD) (a10 : List Bool) (a1 : ProdD) : List AB := [.cells 89 [(.ro (eOp a2 a3 a4))], bS [], bB [], bS [], .cells 63 [ls 4 eSet a5], .cells 100 [(.fn 77 [.ptr 0 0])], .cells 100 [(.fn 77 [.ptr 0 0])], bB [], bB a6, bB [], .cells 56 [.sl 8 0 1 0 a7], bB [], .cells 56 [.sl 8 0 1 0 a8], bS a9, bB a10, bS [], .cells 63 [.sl 13 0 4 0 a7], bB [], .cells 56 [.sl 14 0 1 0 a7], yY0, bP a1, bP a1, bP a1, .hole]
abbrev F78_d3 (g12 : Nat → AV) (x12_0 : Bool) (a2 : GramD) (a3 : List Int) (a4 : List Bool) (a5 : List SetD) (a6 : List Bool) (a7 a8 : Nat) (x12_1 : List SetD) (x12_2 : List Bool) (a1 : ProdD) (x12_3 x12_4 x12_5 x12_6 : Int) : St := ⟨fr 132 g12 [(3, .ptr 0 0), (4, .ptr 16 0), (5, .ptr 18 0), (7, .ptr 21 0), (9, vb x12_0), (10, .ptr 23 0)], [.cells 89 [(.ro (eOp a2 a3 a4))], bS [], bB [], bS [], .cells 63 [ls 4 eSet a5], .cells 100 [(.fn 77 [.ptr 0 0])], .cells 100 [(.fn 77 [.ptr 0 0])], bB [], bB a6, bB [], .cells 56 [.sl 8 0 1 0 a7], bB [], .cells 56 [.sl 8 0 1 0 a8], bS x12_1, bB x12_2, bS [], .cells 63 [.sl 13 0 4 0 a7], bB [], .cells 56 [.sl 14 0 1 0 a7], yY0, bP a1, bP a1, bP a1, .cells 46 [vi .u64 x12_3, vi .u64 x12_4, vi .u64 x12_5, vi .u64 x12_6]]⟩
theorem F78_ok (a1 : ProdD) (a2 : GramD) (a3 : List Int) (a4 : List Bool) (a5 : List SetD) (a6 : List Bool) (a7 a8 : Nat) (a9 : List SetD) (a10 : List Bool) {r : R_F78} (h : F78 a1 a2 a3 a4 a5 a6 a7 a8 a9 a10 = some r) : CS prg 78 [aP a1, .ptr 12 0, .ptr 5 0, .ptr 0 0, .ptr 16 0, .ptr 18 0, .ptr 4 0] [.cells 89 [(.ro (eOp a2 a3 a4))], bS [], bB [], bS [], .cells 63 [ls 4 eSet a5], .cells 100 [(.fn 77 [.ptr 0 0])], .cells 100 [(.fn 77 [.ptr 0 0])], bB [], bB a6, bB [], .cells 56 [.sl 8 0 1 0 a7], bB [], .cells 56 [.sl 8 0 1 0 a8], bS a9, bB a10, bS [], .cells 63 [.sl 13 0 4 0 a7], bB [], .cells 56 [.sl 14 0 1 0 a7], yY0, bP a1] = some (F78_v a1 a2 a3 a4 a5 a6 a7 a8 a9 a10 r, F78_h a1 a2 a3 a4 a5 a6 a7 a8 a9 a10 r) := by
 unfold F78 at h
 apply bn h; intro x1 h1 h
 have q0 := ((idx_sl h1) : idxA 1 (.sl 8 0 1 0 a8) (i6 a1.left) = some (.rp 8 0 1 x1 0))
 apply bn h; intro x2 h2 h
 apply bi h <;> intro h3 h
 ·
  have q1 := (((ld_row (V := vb x2) rfl h2 rfl).trans (congrArg (fun z => some (vb z)) h3)) : ldA (F78_d0 a2 a3 a4 a5 a6 a7 a8 a9 a10 a1) .false 1 (.rp 8 0 1 x1 0) = some (vb true))
  have k2 := ka [(18, .v (.rp 8 0 1 x1 0)), (19, .v (vb true))] (apc q0 (apc q1 apn))
  apply bn h; intro x4 h4 h
  apply bi h <;> intro h5 h
  ·
   have q3 := (((F77_2_ok a1 a2 a3 a4 a5 a6 a7 a8 a9 a10 h4).trans (congrArg (fun z => some (vb z, ((F78_d1 a2 a3 a4 a5 a6 a7 a8 a9 a10 a1) : List AB))) h5)) : CS prg 77 [aP a1, .ptr 0 0] (F78_d0 a2 a3 a4 a5 a6 a7 a8 a9 a10 a1) = some (vb true, F78_d1 a2 a3 a4 a5 a6 a7 a8 a9 a10 a1))
   have k4 := k2.a [(24, .r (vb true) (F78_d1 a2 a3 a4 a5 a6 a7 a8 a9 a10 a1))] (apc q3 apn)
   apply bn h; intro x6 h6 h
   have k5 := k4.a [(37, .v (.ro [.val (.int .i64 x6)]))] (apc (ig eI64 1 .i64 h6) apn)
   apply bi h <;> intro h7 h
   ·
    rw [← sj h]
    exact fc ([(39, .d true)] ++ kH k5) (k5.b (av h7 apn))
   ·
    apply bn h; intro x8 h8 h
    have q6 := ((idx_sl h8) : idxA 4 (.sl 13 0 4 0 a7) (i6 a1.left) = some (.rp 13 0 4 x8 0))
    have q7 := ((idx_sl h8) : idxA 1 (.sl 14 0 1 0 a7) (i6 a1.left) = some (.rp 14 0 1 x8 0))
    have k8 := k5.a [(39, .d false), (44, .v (.rp 13 0 4 x8 0))] (av h7 (apc q6 apn))
    apply bn h; intro x9 h9 h
    have q9 := ((ld_row rfl h9 rfl) : ldA (F78_d2 a2 a3 a4 a5 a6 a7 a8 a9 a10 a1) .true 4 (.rp 13 0 4 x8 0) = some (.agg ((eSet x9).map .p)))
    have k10 := k8.a [(45, .v (.agg ((eSet x9).map .p))), (49, .v (.rp 14 0 1 x8 0))] (apc q9 (apc q7 apn))
    apply bn h; intro x10 h10 h
    apply bi h <;> intro h11 h
    ·
     apply bn h; intro r12 h12 h
     cases r12 with
     | k0 x12_0 x12_1 x12_2 x12_3 x12_4 x12_5 x12_6 =>
      obtain ⟨g12, e12⟩ := L78_0_run a2 a3 a4 a5 a6 a7 a8 a1 (false, true, (w6 ((a1.right.length : Int) - 1)), a9, a10, x9.a, x9.b, x9.c, x9.d) _ h12
      rw [← sj h]
      exact fc ([(50, .v (vb true)), (53, .v (i6 (a1.right.length : Int))), (2000, .l (.brk 0) (F78_d3 g12 x12_0 a2 a3 a4 a5 a6 a7 a8 x12_1 x12_2 a1 x12_3 x12_4 x12_5 x12_6)), (6000, .d true)] ++ kH k10) (k10.b (apc (((ld_row (V := vb x10) rfl h10 rfl).trans (congrArg (fun z => some (vb z)) h11)) : ldA (F78_d2 a2 a3 a4 a5 a6 a7 a8 a9 a10 a1) .false 1 (.rp 14 0 1 x8 0) = some (vb true)) (apc (lg a1.right eSym 6) (apc (L78_0_k a2 a3 a4 a5 a6 a7 a8 a1 false true (w6 ((a1.right.length : Int) - 1)) a9 a10 x9.a x9.b x9.c x9.d) (apc (e12 : L78_0_e a2 a3 a4 a5 a6 a7 a8 a1 false true (w6 ((a1.right.length : Int) - 1)) a9 a10 x9.a x9.b x9.c x9.d = some ((.brk 0), F78_d3 g12 x12_0 a2 a3 a4 a5 a6 a7 a8 x12_1 x12_2 a1 x12_3 x12_4 x12_5 x12_6)) apn)))))
    ·
     apply bn h; intro r12 h12 h
     cases r12 with
     | k0 x12_0 x12_1 x12_2 x12_3 x12_4 x12_5 x12_6 =>
      obtain ⟨g12, e12⟩ := L78_0_run a2 a3 a4 a5 a6 a7 a8 a1 (false, false, (w6 ((a1.right.length : Int) - 1)), a9, a10, x9.a, x9.b, x9.c, x9.d) _ h12
      rw [← sj h]
      exact fc ([(50, .v (vb false)), (53, .v (i6 (a1.right.length : Int))), (2000, .l (.brk 0) (F78_d3 g12 x12_0 a2 a3 a4 a5 a6 a7 a8 x12_1 x12_2 a1 x12_3 x12_4 x12_5 x12_6)), (6000, .d true)] ++ kH k10) (k10.b (apc (((ld_row (V := vb x10) rfl h10 rfl).trans (congrArg (fun z => some (vb z)) h11)) : ldA (F78_d2 a2 a3 a4 a5 a6 a7 a8 a9 a10 a1) .false 1 (.rp 14 0 1 x8 0) = some (vb false)) (apc (lg a1.right eSym 6) (apc (L78_0_k a2 a3 a4 a5 a6 a7 a8 a1 false false (w6 ((a1.right.length : Int) - 1)) a9 a10 x9.a x9.b x9.c x9.d) (apc (e12 : L78_0_e a2 a3 a4 a5 a6 a7 a8 a1 false false (w6 ((a1.right.length : Int) - 1)) a9 a10 x9.a x9.b x9.c x9.d = some ((.brk 0), F78_d3 g12 x12_0 a2 a3 a4 a5 a6 a7 a8 x12_1 x12_2 a1 x12_3 x12_4 x12_5 x12_6)) apn)))))
  ·
   rw [← sj h]
   exact fc ([(24, .r (vb false) (F78_d1 a2 a3 a4 a5 a6 a7 a8 a9 a10 a1))] ++ kH k2) (k2.b (apc (((F77_2_ok a1 a2 a3 a4 a5 a6 a7 a8 a9 a10 h4).trans (congrArg (fun z => some (vb z, ((F78_d1 a2 a3 a4 a5 a6 a7 a8 a9 a10 a1) : List AB))) h5)) : CS prg 77 [aP a1, .ptr 0 0] (F78_d0 a2 a3 a4 a5 a6 a7 a8 a9 a10 a1) = some (vb false, F78_d1 a2 a3 a4 a5 a6 a7 a8 a9 a10 a1)) apn))
 ·
  rw [← sj h]
  exact fc [(18, .v (.rp 8 0 1 x1 0)), (19, .v (vb false))] (apc q0 (apc (((ld_row (V := vb x2) rfl h2 rfl).trans (congrArg (fun z => some (vb z)) h3)) : ldA (F78_d0 a2 a3 a4 a5 a6 a7 a8 a9 a10 a1) .false 1 (.rp 8 0 1 x1 0) = some (vb false)) apn))
inductive E_L46_0_11 where
  | k0 (x0 : Bool) (x1 : List SetD) (x2 : List Bool)
section
variable (a1 : GramD) (a2 : List Int) (a3 : List Bool) (a4 : Int) (a5 : List SetD) (a6 : List Bool) (a7 a8 : Nat)
abbrev L46_0_11_p (l : List AB) : List AB := .cells 89 [(.ro (eOp a1 a2 a3))] :: bS [] :: bB [] :: bS [] :: .cells 63 [ls 4 eSet a5] :: .cells 100 [(.fn 77 [.ptr 0 0])] :: .cells 100 [(.fn 77 [.ptr 0 0])] :: bB [] :: bB a6 :: bB [] :: .cells 56 [.sl 8 0 1 0 a7] :: bB [] :: .cells 56 [.sl 8 0 1 0 a8] :: l
def L46_0_11 (v1 : Bool) (v2 : Int) (v3 : List SetD) (v4 : List Bool) : Option (E_L46_0_11 ⊕ (Bool × Int × (List SetD) × (List Bool))) :=
  (bif (decide (v2 < a4)) then ((getI a1.prods v2).bind fun x2 => ((F54 x2).bind fun x3 => (bif x3 then ((F78 x2 a1 a2 a3 a5 a6 a7 a8 v3 v4).bind fun r5 => match r5 with | .k0 => (some (.inr (v1, (IntKind.wrap .i64 (v2 + 1)), v3, v4))) | .k1 x5_0 x5_1 x5_2 x5_3 x5_4 x5_5 x5_6 => (bif x5_0 then (some (.inr (true, (IntKind.wrap .i64 (v2 + 1)), x5_1, x5_2))) else (some (.inr (v1, (IntKind.wrap .i64 (v2 + 1)), x5_1, x5_2)))) | .k2 => (some (.inr (v1, (IntKind.wrap .i64 (v2 + 1)), v3, v4)))) else (some (.inr (v1, (IntKind.wrap .i64 (v2 + 1)), v3, v4)))))) else (some (.inl (.k0 v1 v3 v4))))
def L46_0_11_s (v1 : Bool) (v2 : Int) (v3 : List SetD) (v4 : List Bool) : St := ⟨fr 27 ug [(0, (.ro (eOp a1 a2 a3))), (1, (.fn 78 [.ptr 12 0, .ptr 5 0, .ptr 0 0, .ptr 16 0, .ptr 18 0, .ptr 4 0])), (4, vb v1), (11, ls 7 eProd a1.prods), (12, i6 a4), (13, i6 v2)], (L46_0_11_p a1 a2 a3 a5 a6 a7 a8 [bS v3, bB v4, bS [], .cells 63 [.sl 13 0 4 0 a7], bB [], .cells 56 [.sl 14 0 1 0 a7]])⟩
theorem L46_0_11_k (v1 : Bool) (v2 : Int) (v3 : List SetD) (v4 : List Bool) : okT 19 (L46_0_11_s a1 a2 a3 a4 a5 a6 a7 a8 v1 v2 v3 v4).h = true := (okT_of rfl (ac (ar (ar (ar (ac (ac (ac (ar (ar (ar (ac (ar (ac (ar (ar (ar (ac (ar (ac rfl))))))))))))))))))))
abbrev L46_0_11_e (v1 : Bool) (v2 : Int) (v3 : List SetD) (v4 : List Bool) := evH prg 19 [0, 1, 4, 11, 12, 13] ir46_l0 (L46_0_11_s a1 a2 a3 a4 a5 a6 a7 a8 v1 v2 v3 v4)
def L46_0_11_x (e : E_L46_0_11) (r : Option (Out × St)) : Prop := match e with | .k0 x0 x1 x2 => ∃ g, r = some ((.brk 2), ⟨fr 27 g [(0, (.ro (eOp a1 a2 a3))), (1, (.fn 78 [.ptr 12 0, .ptr 5 0, .ptr 0 0, .ptr 16 0, .ptr 18 0, .ptr 4 0])), (4, vb x0), (11, ls 7 eProd a1.prods)], (L46_0_11_p a1 a2 a3 a5 a6 a7 a8 [bS x1, bB x2, bS [], .cells 63 [.sl 13 0 4 0 a7], bB [], .cells 56 [.sl 14 0 1 0 a7]])⟩)
abbrev L46_0_11_d0 (v3 : List SetD) (v4 : List Bool) (x2 : ProdD) : List AB := (L46_0_11_p a1 a2 a3 a5 a6 a7 a8 [bS v3, bB v4, bS [], .cells 63 [.sl 13 0 4 0 a7], bB [], .cells 56 [.sl 14 0 1 0 a7], yY0, bP x2])
abbrev L46_0_11_d1 (v3 : List SetD) (v4 : List Bool) (x2 : ProdD) : List AB := (L46_0_11_p a1 a2 a3 a5 a6 a7 a8 [bS v3, bB v4, bS [], .cells 63 [.sl 13 0 4 0 a7], bB [], .cells 56 [.sl 14 0 1 0 a7], yY0, bP x2, bP x2, bP x2])
abbrev L46_0_11_d2 (x5_1 : List SetD) (x5_2 : List Bool) (x2 : ProdD) (x5_3 x5_4 x5_5 x5_6 : Int) : List AB := (L46_0_11_p a1 a2 a3 a5 a6 a7 a8 [bS x5_1, bB x5_2, bS [], .cells 63 [.sl 13 0 4 0 a7], bB [], .cells 56 [.sl 14 0 1 0 a7], yY0, bP x2, bP x2, bP x2, .cells 46 [vi .u64 x5_3, vi .u64 x5_4, vi .u64 x5_5, vi .u64 x5_6]])
abbrev L46_0_11_d3 (v3 : List SetD) (v4 : List Bool) (x2 : ProdD) : List AB := (L46_0_11_p a1 a2 a3 a5 a6 a7 a8 [bS v3, bB v4, bS [], .cells 63 [.sl 13 0 4 0 a7], bB [], .cells 56 [.sl 14 0 1 0 a7], yY0, bP x2, bP x2])
theorem L46_0_11_ok (v1 : Bool) (v2 : Int) (v3 : List SetD) (v4 : List Bool) {r : E_L46_0_11 ⊕ (Bool × Int × (List SetD) × (List Bool))} (h : L46_0_11 a1 a2 a3 a4 a5 a6 a7 a8 v1 v2 v3 v4 = some r) : OkR (fun e => L46_0_11_x a1 a2 a3 a5 a6 a7 a8 e (L46_0_11_e a1 a2 a3 a4 a5 a6 a7 a8 v1 v2 v3 v4)) (fun s => L46_0_11_e a1 a2 a3 a4 a5 a6 a7 a8 v1 v2 v3 v4 = L46_0_11_e a1 a2 a3 a4 a5 a6 a7 a8 s.1 s.2.1 s.2.2.1 s.2.2.2) r := by
 unfold L46_0_11 at h
 have q0 := (L46_0_11_k a1 a2 a3 a4 a5 a6 a7 a8 v1 (w6 (v2 + 1)) v3 v4)
 apply bi h <;> intro h1 h
 ·
  apply bn h; intro x2 h2 h
  have k1 := ka [(14, .d true), (15, .v (.ro (eProd x2)))] (av h1 (apc (ig eProd 7 .i64 h2) apn))
  apply bn h; intro x3 h3 h
  apply bi h <;> intro h4 h
  ·
   have q2 := ((((F54_ok x2 h3).cp rfl _).trans (congrArg (fun z => some (vb z)) h4)) : CP prg 54 [aP x2] (L46_0_11_d0 a1 a2 a3 a5 a6 a7 a8 v3 v4 x2) = some (vb true))
   apply bn h; intro r5 h5 h
   cases r5 with
   | k0 =>
    rw [← sj h]
    exact rn ([(18, .v (vb true)), (22, .r (vb false) (L46_0_11_d1 a1 a2 a3 a5 a6 a7 a8 v3 v4 x2)), (6000, .d true)] ++ kH k1) (k1.b (apc q2 (apc ((F78_ok x2 a1 a2 a3 a5 a6 a7 a8 v3 v4 h5) : CS prg 78 [aP x2, .ptr 12 0, .ptr 5 0, .ptr 0 0, .ptr 16 0, .ptr 18 0, .ptr 4 0] (L46_0_11_d0 a1 a2 a3 a5 a6 a7 a8 v3 v4 x2) = some ((vb false), L46_0_11_d1 a1 a2 a3 a5 a6 a7 a8 v3 v4 x2)) (apc q0 apn))))
   | k1 x5_0 x5_1 x5_2 x5_3 x5_4 x5_5 x5_6 =>
    apply bi h <;> intro h6 h
    ·
     rw [← sj h]
     exact rn ([(18, .v (vb true)), (22, .r (vb true) (L46_0_11_d2 a1 a2 a3 a5 a6 a7 a8 x5_1 x5_2 x2 x5_3 x5_4 x5_5 x5_6)), (6000, .d true)] ++ kH k1) (k1.b (apc q2 (apc (((F78_ok x2 a1 a2 a3 a5 a6 a7 a8 v3 v4 h5).trans (congrArg (fun z => some (vb z, ((L46_0_11_d2 a1 a2 a3 a5 a6 a7 a8 x5_1 x5_2 x2 x5_3 x5_4 x5_5 x5_6) : List AB))) h6)) : CS prg 78 [aP x2, .ptr 12 0, .ptr 5 0, .ptr 0 0, .ptr 16 0, .ptr 18 0, .ptr 4 0] (L46_0_11_d0 a1 a2 a3 a5 a6 a7 a8 v3 v4 x2) = some (vb true, L46_0_11_d2 a1 a2 a3 a5 a6 a7 a8 x5_1 x5_2 x2 x5_3 x5_4 x5_5 x5_6)) (apc (L46_0_11_k a1 a2 a3 a4 a5 a6 a7 a8 true (w6 (v2 + 1)) x5_1 x5_2) apn))))
    ·
     rw [← sj h]
     exact rn ([(18, .v (vb true)), (22, .r (vb false) (L46_0_11_d2 a1 a2 a3 a5 a6 a7 a8 x5_1 x5_2 x2 x5_3 x5_4 x5_5 x5_6)), (6000, .d true)] ++ kH k1) (k1.b (apc q2 (apc (((F78_ok x2 a1 a2 a3 a5 a6 a7 a8 v3 v4 h5).trans (congrArg (fun z => some (vb z, ((L46_0_11_d2 a1 a2 a3 a5 a6 a7 a8 x5_1 x5_2 x2 x5_3 x5_4 x5_5 x5_6) : List AB))) h6)) : CS prg 78 [aP x2, .ptr 12 0, .ptr 5 0, .ptr 0 0, .ptr 16 0, .ptr 18 0, .ptr 4 0] (L46_0_11_d0 a1 a2 a3 a5 a6 a7 a8 v3 v4 x2) = some (vb false, L46_0_11_d2 a1 a2 a3 a5 a6 a7 a8 x5_1 x5_2 x2 x5_3 x5_4 x5_5 x5_6)) (apc (L46_0_11_k a1 a2 a3 a4 a5 a6 a7 a8 v1 (w6 (v2 + 1)) x5_1 x5_2) apn))))
   | k2 =>
    rw [← sj h]
    exact rn ([(18, .v (vb true)), (22, .r (vb false) (L46_0_11_d3 a1 a2 a3 a5 a6 a7 a8 v3 v4 x2)), (6000, .d true)] ++ kH k1) (k1.b (apc q2 (apc ((F78_ok x2 a1 a2 a3 a5 a6 a7 a8 v3 v4 h5) : CS prg 78 [aP x2, .ptr 12 0, .ptr 5 0, .ptr 0 0, .ptr 16 0, .ptr 18 0, .ptr 4 0] (L46_0_11_d0 a1 a2 a3 a5 a6 a7 a8 v3 v4 x2) = some ((vb false), L46_0_11_d3 a1 a2 a3 a5 a6 a7 a8 v3 v4 x2)) (apc q0 apn))))
  ·
   rw [← sj h]
   exact rn ([(18, .v (vb false)), (6000, .d true)] ++ kH k1) (k1.b (apc ((((F54_ok x2 h3).cp rfl _).trans (congrArg (fun z => some (vb z)) h4)) : CP prg 54 [aP x2] (L46_0_11_d0 a1 a2 a3 a5 a6 a7 a8 v3 v4 x2) = some (vb false)) (apc q0 apn)))
 ·
  rw [← sj h]
  exact xb [(14, .d false), (6000, .d true)] (av h1 apn)
theorem L46_0_11_run (s0 : Bool × Int × (List SetD) × (List Bool)) (e : E_L46_0_11) (h : runL (fun s => L46_0_11 a1 a2 a3 a4 a5 a6 a7 a8 s.1 s.2.1 s.2.2.1 s.2.2.2) s0 = some e) : L46_0_11_x a1 a2 a3 a5 a6 a7 a8 e (L46_0_11_e a1 a2 a3 a4 a5 a6 a7 a8 s0.1 s0.2.1 s0.2.2.1 s0.2.2.2) := by
  have q := @loop_sound' (Bool × Int × (List SetD) × (List Bool)) E_L46_0_11 (fun s => L46_0_11 a1 a2 a3 a4 a5 a6 a7 a8 s.1 s.2.1 s.2.2.1 s.2.2.2) (fun s => L46_0_11_e a1 a2 a3 a4 a5 a6 a7 a8 s.1 s.2.1 s.2.2.1 s.2.2.2) (L46_0_11_x a1 a2 a3 a5 a6 a7 a8) (fun s r h => L46_0_11_ok a1 a2 a3 a4 a5 a6 a7 a8 s.1 s.2.1 s.2.2.1 s.2.2.2 h) s0 e h
  exact q
end
inductive E_L46_1_7 where
  | k0 (x0 : List SetD) (x1 : List Bool)
section
variable (a1 : GramD) (a2 : List Int) (a3 : List Bool) (a4 : List SetD) (a5 : List Bool) (a6 a7 : Nat)
abbrev L46_1_7_p (l : List AB) : List AB := .cells 89 [(.ro (eOp a1 a2 a3))] :: bS [] :: bB [] :: bS [] :: .cells 63 [ls 4 eSet a4] :: .cells 100 [(.fn 77 [.ptr 0 0])] :: .cells 100 [(.fn 77 [.ptr 0 0])] :: bB [] :: bB a5 :: bB [] :: .cells 56 [.sl 8 0 1 0 a6] :: bB [] :: .cells 56 [.sl 8 0 1 0 a7] :: l
def L46_1_7 (v1 : List SetD) (v2 : List Bool) : Option (E_L46_1_7 ⊕ ((List SetD) × (List Bool))) :=
  ((runL (fun s => L46_0_11 a1 a2 a3 (a1.prods.length : Int) a4 a5 a6 a7 s.1 s.2.1 s.2.2.1 s.2.2.2) (false, 0, v1, v2)).bind fun r1 => match r1 with | .k0 x1_0 x1_1 x1_2 => (bif x1_0 then (some (.inr (x1_1, x1_2))) else (some (.inl (.k0 x1_1 x1_2)))))
def L46_1_7_s (v1 : List SetD) (v2 : List Bool) : St := ⟨fr 27 ug [(0, (.ro (eOp a1 a2 a3))), (1, (.fn 78 [.ptr 12 0, .ptr 5 0, .ptr 0 0, .ptr 16 0, .ptr 18 0, .ptr 4 0]))], (L46_1_7_p a1 a2 a3 a4 a5 a6 a7 [bS v1, bB v2, bS [], .cells 63 [.sl 13 0 4 0 a6], bB [], .cells 56 [.sl 14 0 1 0 a6]])⟩
theorem L46_1_7_k (v1 : List SetD) (v2 : List Bool) : okT 19 (L46_1_7_s a1 a2 a3 a4 a5 a6 a7 v1 v2).h = true := (okT_of rfl (ac (ar (ar (ar (ac (ac (ac (ar (ar (ar (ac (ar (ac (ar (ar (ar (ac (ar (ac rfl))))))))))))))))))))
abbrev L46_1_7_e (v1 : List SetD) (v2 : List Bool) := evH prg 19 [0, 1] ir46_l1 (L46_1_7_s a1 a2 a3 a4 a5 a6 a7 v1 v2)
def L46_1_7_x (e : E_L46_1_7) (r : Option (Out × St)) : Prop := match e with | .k0 x0 x1 => ∃ g, r = some ((.brk 0), ⟨fr 27 g [(0, (.ro (eOp a1 a2 a3))), (1, (.fn 78 [.ptr 12 0, .ptr 5 0, .ptr 0 0, .ptr 16 0, .ptr 18 0, .ptr 4 0]))], (L46_1_7_p a1 a2 a3 a4 a5 a6 a7 [bS x0, bB x1, bS [], .cells 63 [.sl 13 0 4 0 a6], bB [], .cells 56 [.sl 14 0 1 0 a6]])⟩)
abbrev L46_1_7_d0 (g1 : Nat → AV) (x1_0 : Bool) (x1_1 : List SetD) (x1_2 : List Bool) : St := ⟨fr 27 g1 [(0, (.ro (eOp a1 a2 a3))), (1, (.fn 78 [.ptr 12 0, .ptr 5 0, .ptr 0 0, .ptr 16 0, .ptr 18 0, .ptr 4 0])), (4, vb x1_0), (11, ls 7 eProd a1.prods)], (L46_1_7_p a1 a2 a3 a4 a5 a6 a7 [bS x1_1, bB x1_2, bS [], .cells 63 [.sl 13 0 4 0 a6], bB [], .cells 56 [.sl 14 0 1 0 a6]])⟩
theorem L46_1_7_ok (v1 : List SetD) (v2 : List Bool) {r : E_L46_1_7 ⊕ ((List SetD) × (List Bool))} (h : L46_1_7 a1 a2 a3 a4 a5 a6 a7 v1 v2 = some r) : OkR (fun e => L46_1_7_x a1 a2 a3 a4 a5 a6 a7 e (L46_1_7_e a1 a2 a3 a4 a5 a6 a7 v1 v2)) (fun s => L46_1_7_e a1 a2 a3 a4 a5 a6 a7 v1 v2 = L46_1_7_e a1 a2 a3 a4 a5 a6 a7 s.1 s.2) r := by
 unfold L46_1_7 at h
 have q0 := (L46_0_11_k a1 a2 a3 (lP a1) a4 a5 a6 a7 false 0 v1 v2)
 have k1 := ka [(12, .v (i6 (lP a1)))] (apc (lg a1.prods eProd 7) apn)
 apply bn h; intro r1 h1 h
 cases r1 with
 | k0 x1_0 x1_1 x1_2 =>
  obtain ⟨g1, e1⟩ := L46_0_11_run a1 a2 a3 (lP a1) a4 a5 a6 a7 (false, 0, v1, v2) _ h1
  have q2 := (e1 : L46_0_11_e a1 a2 a3 (lP a1) a4 a5 a6 a7 false 0 v1 v2 = some ((.brk 2), L46_1_7_d0 a1 a2 a3 a4 a5 a6 a7 g1 x1_0 x1_1 x1_2))
  have k3 := k1.a [(2002, .l (.brk 2) (L46_1_7_d0 a1 a2 a3 a4 a5 a6 a7 g1 x1_0 x1_1 x1_2))] (apc q0 (apc q2 apn))
  apply bi h <;> intro h2 h
  ·
   rw [← sj h]
   exact rn ([(25, .d true), (6000, .d true)] ++ kH k3) (k3.b (av h2 (apc (L46_1_7_k a1 a2 a3 a4 a5 a6 a7 x1_1 x1_2) apn)))
  ·
   rw [← sj h]
   exact xb ([(25, .d false), (6000, .d true)] ++ kH k3) (k3.b (av h2 apn))
theorem L46_1_7_run (s0 : (List SetD) × (List Bool)) (e : E_L46_1_7) (h : runL (fun s => L46_1_7 a1 a2 a3 a4 a5 a6 a7 s.1 s.2) s0 = some e) : L46_1_7_x a1 a2 a3 a4 a5 a6 a7 e (L46_1_7_e a1 a2 a3 a4 a5 a6 a7 s0.1 s0.2) := by
  have q := @loop_sound' ((List SetD) × (List Bool)) E_L46_1_7 (fun s => L46_1_7 a1 a2 a3 a4 a5 a6 a7 s.1 s.2) (fun s => L46_1_7_e a1 a2 a3 a4 a5 a6 a7 s.1 s.2) (L46_1_7_x a1 a2 a3 a4 a5 a6 a7) (fun s r h => L46_1_7_ok a1 a2 a3 a4 a5 a6 a7 s.1 s.2 h) s0 e h
  exact q
end
inductive E_L46_2_6 where
  | k0 (x0 : List SetD) (x1 : List Bool)
section
variable (a1 : GramD) (a2 : List Int) (a3 : List Bool) (a4 : List SetD) (a5 : List Bool) (a6 a7 : Nat) (a8 : List SetD) (a9 : List Bool)
abbrev L46_2_6_p (l : List AB) : List AB := .cells 89 [(.ro (eOp a1 a2 a3))] :: bS [] :: bB [] :: bS [] :: .cells 63 [ls 4 eSet a4] :: .cells 100 [(.fn 77 [.ptr 0 0])] :: .cells 100 [(.fn 77 [.ptr 0 0])] :: bB [] :: bB a5 :: bB [] :: .cells 56 [.sl 8 0 1 0 a6] :: bB [] :: .cells 56 [.sl 8 0 1 0 a7] :: l
def L46_2_6 : Option (E_L46_2_6 ⊕ (Unit)) :=
  ((runL (fun s => L46_1_7 a1 a2 a3 a4 a5 a6 a7 s.1 s.2) (a8, a9)).bind fun r1 => match r1 with | .k0 x1_0 x1_1 => (some (.inl (.k0 x1_0 x1_1))))
def L46_2_6_s : St := ⟨fr 27 ug [(0, (.ro (eOp a1 a2 a3))), (1, (.fn 78 [.ptr 12 0, .ptr 5 0, .ptr 0 0, .ptr 16 0, .ptr 18 0, .ptr 4 0]))], (L46_2_6_p a1 a2 a3 a4 a5 a6 a7 [bS a8, bB a9, bS [], .cells 63 [.sl 13 0 4 0 a6], bB [], .cells 56 [.sl 14 0 1 0 a6]])⟩
theorem L46_2_6_k : okT 19 (L46_2_6_s a1 a2 a3 a4 a5 a6 a7 a8 a9).h = true := (okT_of rfl (ac (ar (ar (ar (ac (ac (ac (ar (ar (ar (ac (ar (ac (ar (ar (ar (ac (ar (ac rfl))))))))))))))))))))
abbrev L46_2_6_e := evH prg 19 [0, 1] ir46_l2 (L46_2_6_s a1 a2 a3 a4 a5 a6 a7 a8 a9)
def L46_2_6_x (e : E_L46_2_6) (r : Option (Out × St)) : Prop := match e with | .k0 x0 x1 => ∃ g, r = some ((.brk 2000000), ⟨fr 27 g [], (L46_2_6_p a1 a2 a3 a4 a5 a6 a7 [bS x0, bB x1, bS [], .cells 63 [.sl 13 0 4 0 a6], bB [], .cells 56 [.sl 14 0 1 0 a6]])⟩)
abbrev L46_2_6_d0 (g1 : Nat → AV) (x1_0 : List SetD) (x1_1 : List Bool) : St := ⟨fr 27 g1 [(0, (.ro (eOp a1 a2 a3))), (1, (.fn 78 [.ptr 12 0, .ptr 5 0, .ptr 0 0, .ptr 16 0, .ptr 18 0, .ptr 4 0]))], (L46_2_6_p a1 a2 a3 a4 a5 a6 a7 [bS x1_0, bB x1_1, bS [], .cells 63 [.sl 13 0 4 0 a6], bB [], .cells 56 [.sl 14 0 1 0 a6]])⟩
theorem L46_2_6_ok {r : E_L46_2_6 ⊕ (Unit)} (h : L46_2_6 a1 a2 a3 a4 a5 a6 a7 a8 a9 = some r) : OkR (fun e => L46_2_6_x a1 a2 a3 a4 a5 a6 a7 e (L46_2_6_e a1 a2 a3 a4 a5 a6 a7 a8 a9)) (fun s => L46_2_6_e a1 a2 a3 a4 a5 a6 a7 a8 a9 = L46_2_6_e a1 a2 a3 a4 a5 a6 a7 a8 a9) r := by
 unfold L46_2_6 at h
 apply bn h; intro r1 h1 h
 cases r1 with
 | k0 x1_0 x1_1 =>
  obtain ⟨g1, e1⟩ := L46_1_7_run a1 a2 a3 a4 a5 a6 a7 (a8, a9) _ h1
  rw [← sj h]
  exact xb [(2000, .l (.brk 0) (L46_2_6_d0 a1 a2 a3 a4 a5 a6 a7 g1 x1_0 x1_1)), (6000, .d true)] (apc (L46_1_7_k a1 a2 a3 a4 a5 a6 a7 a8 a9) (apc (e1 : L46_1_7_e a1 a2 a3 a4 a5 a6 a7 a8 a9 = some ((.brk 0), L46_2_6_d0 a1 a2 a3 a4 a5 a6 a7 g1 x1_0 x1_1)) apn))
theorem L46_2_6_run (s0 : Unit) (e : E_L46_2_6) (h : runL (fun s => L46_2_6 a1 a2 a3 a4 a5 a6 a7 a8 a9) s0 = some e) : L46_2_6_x a1 a2 a3 a4 a5 a6 a7 e (L46_2_6_e a1 a2 a3 a4 a5 a6 a7 a8 a9) := by
  have q := @loop_sound' (Unit) E_L46_2_6 (fun s => L46_2_6 a1 a2 a3 a4 a5 a6 a7 a8 a9) (fun s => L46_2_6_e a1 a2 a3 a4 a5 a6 a7 a8 a9) (L46_2_6_x a1 a2 a3 a4 a5 a6 a7) (fun s r h => L46_2_6_ok a1 a2 a3 a4 a5 a6 a7 a8 a9 h) s0 e h
  exact q
end
inductive R_F46_7 where
  | k0 (x0 : List SetD) (x1 : List Bool)
def F46_7_v (a1 : GramD) (a2 : List Int) (a3 : List Bool) (a4 : List SetD) (a5 : List Bool) (a6 a7 : Nat) (a8 : List SetD) (a9 : List Bool) (r : R_F46_7) : AV := match r with | .k0 x0 x1 => (.tup [])
def F46_7_h (a1 : GramD) (a2 : List Int) (a3 : List Bool) (a4 : List SetD) (a5 : List Bool) (a6 a7 : Nat) (a8 : List SetD) (a9 : List Bool) (r : R_F46_7) : List AB := match r with | .k0 x0 x1 => [.cells 89 [(.ro (eOp a1 a2 a3))], bS [], bB [], bS [], .cells 63 [ls 4 eSet a4], .cells 100 [(.fn 77 [.ptr 0 0])], .cells 100 [(.fn 77 [.ptr 0 0])], bB [], bB a5, bB [], .cells 56 [.sl 8 0 1 0 a6], bB [], .cells 56 [.sl 8 0 1 0 a7], bS x0, bB x1, bS [], .cells 63 [.sl 13 0 4 0 a6], bB [], .cells 56 [.sl 14 0 1 0 a6]]
def F46_7 (a1 : GramD) (a2 : List Int) (a3 : List Bool) (a4 : List SetD) (a5 : List Bool) (a6 a7 : Nat) (a8 : List SetD) (a9 : List Bool) : Option R_F46_7 :=
  ((runL (fun s => L46_2_6 a1 a2 a3 a4 a5 a6 a7 a8 a9) ()).bind fun r1 => match r1 with | .k0 x1_0 x1_1 => (some (.k0 x1_0 x1_1)))
abbrev F46_7_d0 (g1 : Nat → AV) (a1 : GramD) (a2 : List Int) (a3 : List Bool) (a4 : List SetD) (a5 : List Bool) (a6 a7 : Nat) (x1_0 : List SetD) (x1_1 : List Bool) : St := ⟨fr 27 g1 [], [.cells 89 [(.ro (eOp a1 a2 a3))], bS [], bB [], bS [], .cells 63 [ls 4 eSet a4], .cells 100 [(.fn 77 [.ptr 0 0])], .cells 100 [(.fn 77 [.ptr 0 0])], bB [], bB a5, bB [], .cells 56 [.sl 8 0 1 0 a6], bB [], .cells 56 [.sl 8 0 1 0 a7], bS x1_0, bB x1_1, bS [], .cells 63 [.sl 13 0 4 0 a6], bB [], .cells 56 [.sl 14 0 1 0 a6]]⟩
theorem F46_7_ok (a1 : GramD) (a2 : List Int) (a3 : List Bool) (a4 : List SetD) (a5 : List Bool) (a6 a7 : Nat) (a8 : List SetD) (a9 : List Bool) {r : R_F46_7} (h : F46_7 a1 a2 a3 a4 a5 a6 a7 a8 a9 = some r) : CS prg 46 [(.ro (eOp a1 a2 a3)), (.fn 78 [.ptr 12 0, .ptr 5 0, .ptr 0 0, .ptr 16 0, .ptr 18 0, .ptr 4 0])] [.cells 89 [(.ro (eOp a1 a2 a3))], bS [], bB [], bS [], .cells 63 [ls 4 eSet a4], .cells 100 [(.fn 77 [.ptr 0 0])], .cells 100 [(.fn 77 [.ptr 0 0])], bB [], bB a5, bB [], .cells 56 [.sl 8 0 1 0 a6], bB [], .cells 56 [.sl 8 0 1 0 a7], bS a8, bB a9, bS [], .cells 63 [.sl 13 0 4 0 a6], bB [], .cells 56 [.sl 14 0 1 0 a6]] = some (F46_7_v a1 a2 a3 a4 a5 a6 a7 a8 a9 r, F46_7_h a1 a2 a3 a4 a5 a6 a7 a8 a9 r) := by
 unfold F46_7 at h
 apply bn h; intro r1 h1 h
 cases r1 with
 | k0 x1_0 x1_1 =>
  obtain ⟨g1, e1⟩ := L46_2_6_run a1 a2 a3 a4 a5 a6 a7 a8 a9 () _ h1
  rw [← sj h]
  exact fc [(2002000, .l (.brk 2000000) (F46_7_d0 g1 a1 a2 a3 a4 a5 a6 a7 x1_0 x1_1)), (6000, .d true)] (apc (L46_2_6_k a1 a2 a3 a4 a5 a6 a7 a8 a9) (apc (e1 : L46_2_6_e a1 a2 a3 a4 a5 a6 a7 a8 a9 = some ((.brk 2000000), F46_7_d0 g1 a1 a2 a3 a4 a5 a6 a7 x1_0 x1_1)) apn))
inductive R_F62_2 where
  | k0 (x0 : List SetD) (x1 : List Bool)
def F62_2_v (a1 : GramD) (a2 : List Int) (a3 : List Bool) (r : R_F62_2) : AV := match r with | .k0 x0 x1 => (.tup [ls 4 eSet x0, ls 1 eBool x1])
def F62_2 (a1 : GramD) (a2 : List Int) (a3 : List Bool) : Option R_F62_2 :=
  ((F61_2 a1 a2 a3).bind fun x1 => ((F53_3 a1 a2).bind fun r2 => match r2 with | .k0 x2_0 x2_1 => (bif (mkOk (a1.sorts.length : Int) 32) then (bif (mkOk (a1.sorts.length : Int) 1) then ((getI a2 a1.start).bind fun x5 => ((ixN (Int.toNat (a1.sorts.length : Int)) a1.start).bind fun x6 => (((List.replicate (Int.toNat (a1.sorts.length : Int)) false)[x6]?).bind fun x7 => ((F46_7 a1 a2 a3 x1 x2_1 (Int.toNat (a1.sorts.length : Int)) x2_0 (List.replicate (Int.toNat (a1.sorts.length : Int)) (⟨0, 0, 0, 0⟩ : SetD)) ((List.replicate (Int.toNat (a1.sorts.length : Int)) false).set x6 (decide (x5 ≥ 0)))).bind fun r8 => match r8 with | .k0 x8_0 x8_1 => (bif (decide ((Int.toNat (a1.sorts.length : Int)) ≤ x8_0.length)) then (bif (decide ((Int.toNat (a1.sorts.length : Int)) ≤ x8_1.length)) then (some (.k0 (x8_0.take (Int.toNat (a1.sorts.length : Int))) (x8_1.take (Int.toNat (a1.sorts.length : Int))))) else none) else none))))) else none) else none)))
abbrev F62_2_d0 (a1 : GramD) (a2 : List Int) (a3 : List Bool) (x1 : List SetD) (x2_1 : List Bool) : List AB := [.cells 89 [(.ro (eOp a1 a2 a3))], bS [], bB [], bS [], .cells 63 [ls 4 eSet x1], .cells 100 [(.fn 77 [.ptr 0 0])], .cells 100 [(.fn 77 [.ptr 0 0])], bB [], bB x2_1, bB [], .cells 56 [(.sl 8 0 1 0 (tS a1))]]
abbrev F62_2_d1 (a1 : GramD) (a2 : List Int) (a3 : List Bool) (x1 : List SetD) (x2_1 : List Bool) (x2_0 x6 : Nat) (x5 : Int) : List AB := [.cells 89 [(.ro (eOp a1 a2 a3))], bS [], bB [], bS [], .cells 63 [ls 4 eSet x1], .cells 100 [(.fn 77 [.ptr 0 0])], .cells 100 [(.fn 77 [.ptr 0 0])], bB [], bB x2_1, bB [], .cells 56 [(.sl 8 0 1 0 (tS a1))], bB [], .cells 56 [.sl 8 0 1 0 x2_0], bS (List.replicate (tS a1) (⟨0, 0, 0, 0⟩ : SetD)), bB ((List.replicate (tS a1) false).set x6 (decide (x5 ≥ 0))), bS [], .cells 63 [(.sl 13 0 4 0 (tS a1))], bB [], .cells 56 [(.sl 14 0 1 0 (tS a1))]]
abbrev F62_2_d2 (a1 : GramD) (a2 : List Int) (a3 : List Bool) (x1 : List SetD) (x2_1 : List Bool) (x2_0 : Nat) (x8_0 : List SetD) (x8_1 : List Bool) : List AB := [.cells 89 [(.ro (eOp a1 a2 a3))], bS [], bB [], bS [], .cells 63 [ls 4 eSet x1], .cells 100 [(.fn 77 [.ptr 0 0])], .cells 100 [(.fn 77 [.ptr 0 0])], bB [], bB x2_1, bB [], .cells 56 [(.sl 8 0 1 0 (tS a1))], bB [], .cells 56 [.sl 8 0 1 0 x2_0], bS x8_0, bB x8_1, bS [], .cells 63 [(.sl 13 0 4 0 (tS a1))], bB [], .cells 56 [(.sl 14 0 1 0 (tS a1))]]
theorem F62_2_ok (a1 : GramD) (a2 : List Int) (a3 : List Bool) {r : R_F62_2} (h : F62_2 a1 a2 a3 = some r) : PR2 prg 62 [(.ro (eOp a1 a2 a3))] (F62_2_v a1 a2 a3 r) := by
 unfold F62_2 at h
 apply bn h; intro x1 h1 h
 have q0 := (((F61_2_ok a1 a2 a3 h1).cp rfl _) : CP prg 61 [(.ro (eOp a1 a2 a3))] [.cells 89 [(.ro (eOp a1 a2 a3))], bS [], bB []] = some (ls 4 eSet x1))
 apply bn h; intro r2 h2 h
 cases r2 with
 | k0 x2_0 x2_1 =>
  have q1 := ((F53_3_ok a1 a2 a3 x1 h2) : CS prg 53 [(.ro (eOp a1 a2 a3)), (.fn 77 [.ptr 0 0])] [.cells 89 [(.ro (eOp a1 a2 a3))], bS [], bB [], bS [], .cells 63 [ls 4 eSet x1], .cells 100 [(.fn 77 [.ptr 0 0])]] = some ((.sl 8 0 1 0 x2_0), F62_2_d0 a1 a2 a3 x1 x2_1))
  have k2 := ka [(10, .v (ls 4 eSet x1)), (14, .r (.sl 8 0 1 0 x2_0) (F62_2_d0 a1 a2 a3 x1 x2_1)), (20, .v (i6 (lS a1)))] (apc q0 (apc q1 (apc (lg a1.sorts eStr 1) apn)))
  apply bi h <;> intro h3 h
  ·
   have q3 := ((mk_row (e := eSet) (z := (⟨0, 0, 0, 0⟩ : SetD)) h3 rfl) : mkA 46 4 32 [.val (.int .u64 0), .val (.int .u64 0), .val (.int .u64 0), .val (.int .u64 0)] (i6 (lS a1)) (i6 (lS a1)) 13 = some ((.sl 13 0 4 0 (tS a1)), bS (List.replicate (tS a1) (⟨0, 0, 0, 0⟩ : SetD))))
   have k4 := k2.a [(21, .r (.sl 13 0 4 0 (tS a1)) [bS (List.replicate (tS a1) (⟨0, 0, 0, 0⟩ : SetD))]), (27, .v (i6 (lS a1)))] (apc q3 (apc (lg a1.sorts eStr 1) apn))
   apply bi h <;> intro h4 h
   ·
    have q5 := ((mk_row (e := eBool) (z := false) h4 rfl) : mkA 4 1 1 [.val (.bool false)] (i6 (lS a1)) (i6 (lS a1)) 14 = some ((.sl 14 0 1 0 (tS a1)), bB (List.replicate (tS a1) false)))
    have k6 := k4.a [(28, .r (.sl 14 0 1 0 (tS a1)) [bB (List.replicate (tS a1) false)])] (apc q5 apn)
    apply bn h; intro x5 h5 h
    have k7 := k6.a [(44, .v (.ro [.val (.int .i64 x5)]))] (apc (ig eI64 1 .i64 h5) apn)
    apply bn h; intro x6 h6 h
    have q8 := ((idx_sl h6) : idxA 1 (.sl 14 0 1 0 (tS a1)) (i6 a1.start) = some (.rp 14 0 1 x6 0))
    apply bn h; intro x7 h7 h
    have q9 := (⟨st_row (v' := (decide (x5 ≥ 0))) rfl h7 rfl rfl (Nat.le_of_ble_eq_true rfl) rfl, rfl⟩ : stA [.cells 89 [(.ro (eOp a1 a2 a3))], bS [], bB [], bS [], .cells 63 [ls 4 eSet x1], .cells 100 [(.fn 77 [.ptr 0 0])], .cells 100 [(.fn 77 [.ptr 0 0])], bB [], bB x2_1, bB [], .cells 56 [(.sl 8 0 1 0 (tS a1))], bB [], .cells 56 [.sl 8 0 1 0 x2_0], bS (List.replicate (tS a1) (⟨0, 0, 0, 0⟩ : SetD)), bB (List.replicate (tS a1) false), bS [], .cells 63 [(.sl 13 0 4 0 (tS a1))], bB [], .cells 56 [(.sl 14 0 1 0 (tS a1))]] 1 (.rp 14 0 1 x6 0) (vb (decide (x5 ≥ 0))) = some (F62_2_d1 a1 a2 a3 x1 x2_1 x2_0 x6 x5) ∧ ud = ud)
    have k10 := k7.a [(47, .v (.rp 14 0 1 x6 0)), (1047, .r ud (F62_2_d1 a1 a2 a3 x1 x2_1 x2_0 x6 x5))] (apc q8 (apc q9 apn))
    apply bn h; intro r8 h8 h
    cases r8 with
    | k0 x8_0 x8_1 =>
     have q11 := ((F46_7_ok a1 a2 a3 x1 x2_1 (tS a1) x2_0 (List.replicate (tS a1) (⟨0, 0, 0, 0⟩ : SetD)) ((List.replicate (tS a1) false).set x6 (decide (x5 ≥ 0))) h8) : CS prg 46 [(.ro (eOp a1 a2 a3)), (.fn 78 [.ptr 12 0, .ptr 5 0, .ptr 0 0, .ptr 16 0, .ptr 18 0, .ptr 4 0])] (F62_2_d1 a1 a2 a3 x1 x2_1 x2_0 x6 x5) = some ((.tup []), F62_2_d2 a1 a2 a3 x1 x2_1 x2_0 x8_0 x8_1))
     have k12 := k10.a [(50, .r (.tup []) (F62_2_d2 a1 a2 a3 x1 x2_1 x2_0 x8_0 x8_1))] (apc q11 apn)
     apply bi h <;> intro h9 h
     ·
      apply bi h <;> intro h10 h
      ·
       rw [← sj h]
       exact fpn (v := (.tup [(.sl 13 0 4 0 (tS a1)), (.sl 14 0 1 0 (tS a1))])) (h' := (F62_2_d2 a1 a2 a3 x1 x2_1 x2_0 x8_0 x8_1)) (kH k12) (k12.b apn) (purA_tup (purAs_cons (purA_sl (e := eSet) rfl h9) (purAs_cons (purA_sl (e := eBool) rfl h10) purAs_nil))) rfl (purA_tup (purAs_cons (purA_sl (e := eSet) (getq rfl (nols_ra (fun _ => rfl))) h9) (purAs_cons (purA_sl (e := eBool) (getq rfl (nols_ra (fun _ => rfl))) h10) purAs_nil))) (by kernel_rfl)
      ·
       cases h
     ·
      cases h
   ·
    cases h
  ·
   cases h
inductive R_F32 where
  | k0 (x0 : List SetD) (x1 : Int)
def F32_v (a1 : GramD) (r : R_F32) : AV := match r with | .k0 x0 x1 => (.tup [ls 4 eSet x0, i6 x1])
def F32 (a1 : GramD) : Option R_F32 :=
  ((F45 a1).bind fun r1 => match r1 with | .k0 x1_0 => (bif (x1_0 != 0) then (some (.k0 ([]) x1_0)) else none) | .k1 x1_0 x1_1 x1_2 x1_3 x1_4 x1_5 x1_6 => ((F62_2 (⟨x1_0, x1_1, x1_2, x1_3, x1_4⟩ : GramD) x1_5 x1_6).bind fun r2 => match r2 with | .k0 x2_0 x2_1 => (some (.k0 x2_0 0))))
theorem F32_ok (a1 : GramD) {r : R_F32} (h : F32 a1 = some r) : PR1 prg 32 [aG a1] (F32_v a1 r) := by
 unfold F32 at h
 apply bn h; intro r1 h1 h
 cases r1 with
 | k0 x1_0 =>
  have q0 := (((F45_ok a1 h1).cp rfl _) : CP prg 45 [aG a1] [bG a1, bS []] = some (.tup [(.p (.val (.pointer .none))), i6 x1_0]))
  have k1 := ka [(10, .v (.tup [(.p (.val (.pointer .none))), i6 x1_0]))] (apc q0 apn)
  apply bi h <;> intro h2 h
  ·
   rw [← sj h]
   exact fpo (v := (.tup [.sl 2 0 4 0 0, i6 x1_0])) (h' := [bG a1, bS [], bS []]) ([(14, .d true)] ++ kH k1) (k1.b (av h2 apn)) (purA_tup (purAs_cons (purA_sl (e := eSet) (xs := []) rfl rfl) (purAs_cons rfl purAs_nil))) (by kernel_rfl)
  ·
   cases h
 | k1 x1_0 x1_1 x1_2 x1_3 x1_4 x1_5 x1_6 =>
  apply bn h; intro r2 h2 h
  cases r2 with
  | k0 x2_0 x2_1 =>
   rw [← sj h]
   exact fq [(10, .v (.tup [(.ro [.lst 1 (x1_0.map eStr), .lst 7 (x1_1.map eProd), .val (.int .i64 x1_2), .lst 3 (x1_3.map eForb), .lst 5 (x1_4.map eFoll), .lst 1 (x1_5.map eI64), .lst 1 (x1_6.map eBool)]), i6 0])), (18, .v (.tup [ls 4 eSet x2_0, ls 1 eBool x2_1]))] (apc (((F45_ok a1 h1).cp rfl _) : CP prg 45 [aG a1] [bG a1, bS []] = some (.tup [(.ro [.lst 1 (x1_0.map eStr), .lst 7 (x1_1.map eProd), .val (.int .i64 x1_2), .lst 3 (x1_3.map eForb), .lst 5 (x1_4.map eFoll), .lst 1 (x1_5.map eI64), .lst 1 (x1_6.map eBool)]), i6 0])) (apc (((F62_2_ok (⟨x1_0, x1_1, x1_2, x1_3, x1_4⟩ : GramD) x1_5 x1_6 h2).cp rfl _) : CP prg 62 [(.ro [.lst 1 (x1_0.map eStr), .lst 7 (x1_1.map eProd), .val (.int .i64 x1_2), .lst 3 (x1_3.map eForb), .lst 5 (x1_4.map eFoll), .lst 1 (x1_5.map eI64), .lst 1 (x1_6.map eBool)])] [bG a1, bS []] = some (.tup [ls 4 eSet x2_0, ls 1 eBool x2_1])) apn))
inductive R_F13 where
  | k0 (x0 : List Int) (x1 : Int)
def F13_v (a1 : GramD) (r : R_F13) : AV := match r with | .k0 x0 x1 => (.tup [ls 1 eI64 x0, i6 x1])
def F13 (a1 : GramD) : Option R_F13 :=
  ((F45 a1).bind fun r1 => match r1 with | .k0 x1_0 => (bif (x1_0 != 0) then (some (.k0 ([]) x1_0)) else none) | .k1 x1_0 x1_1 x1_2 x1_3 x1_4 x1_5 x1_6 => (some (.k0 x1_5 0)))
theorem F13_ok (a1 : GramD) {r : R_F13} (h : F13 a1 = some r) : PR1 prg 13 [aG a1] (F13_v a1 r) := by
 unfold F13 at h
 apply bn h; intro r1 h1 h
 cases r1 with
 | k0 x1_0 =>
  have q0 := (((F45_ok a1 h1).cp rfl _) : CP prg 45 [aG a1] [bG a1, bI []] = some (.tup [(.p (.val (.pointer .none))), i6 x1_0]))
  have k1 := ka [(8, .v (.tup [(.p (.val (.pointer .none))), i6 x1_0]))] (apc q0 apn)
  apply bi h <;> intro h2 h
  ·
   rw [← sj h]
   exact fpo (v := (.tup [.sl 2 0 1 0 0, i6 x1_0])) (h' := [bG a1, bI [], bI []]) ([(12, .d true)] ++ kH k1) (k1.b (av h2 apn)) (purA_tup (purAs_cons (purA_sl (e := eI64) (xs := []) rfl rfl) (purAs_cons rfl purAs_nil))) (by kernel_rfl)
  ·
   cases h
 | k1 x1_0 x1_1 x1_2 x1_3 x1_4 x1_5 x1_6 =>
  rw [← sj h]
  exact fq [(8, .v (.tup [(.ro [.lst 1 (x1_0.map eStr), .lst 7 (x1_1.map eProd), .val (.int .i64 x1_2), .lst 3 (x1_3.map eForb), .lst 5 (x1_4.map eFoll), .lst 1 (x1_5.map eI64), .lst 1 (x1_6.map eBool)]), i6 0]))] (apc (((F45_ok a1 h1).cp rfl _) : CP prg 45 [aG a1] [bG a1, bI []] = some (.tup [(.ro [.lst 1 (x1_0.map eStr), .lst 7 (x1_1.map eProd), .val (.int .i64 x1_2), .lst 3 (x1_3.map eForb), .lst 5 (x1_4.map eFoll), .lst 1 (x1_5.map eI64), .lst 1 (x1_6.map eBool)]), i6 0])) apn)
inductive E_L23_5 where
  | k0
section
variable (a1 : GramD) (a2 a3 : Int) (a4 : ProdD) (a5 : Int)
abbrev L23_5_p (l : List AB) : List AB := bG a1 :: bB [] :: .map [] :: yY0 :: bP a4 :: l
def L23_5 (v1 : Int) : Option (E_L23_5 ⊕ (Int)) :=
  (bif (decide (v1 < a5)) then ((getI a4.right v1).bind fun x2 => ((F54 a4).bind fun x3 => (bif x3 then (bif (x2.kind != 1) then (some (.inr ((IntKind.wrap .i64 (v1 + 1))))) else none) else (some (.inr ((IntKind.wrap .i64 (v1 + 1)))))))) else (some (.inl (.k0))))
def L23_5_s (v1 : Int) : St := ⟨fr 150 ug [(1, .ptr 0 0), (4, (.p (.val (.pointer .none)))), (6, .mp 2), (8, .ptr 4 0), (29, ls 7 eProd a1.prods), (30, i6 a2), (31, i6 a3), (36, ls 6 eSym a4.right), (37, i6 a5), (38, i6 v1)], (L23_5_p a1 a4 [])⟩
theorem L23_5_k (v1 : Int) : okT 5 (L23_5_s a1 a2 a3 a4 a5 v1).h = true := (okT_of rfl (ac (ar (ac (ar (ac rfl))))))
abbrev L23_5_e (v1 : Int) := evH prg 5 [1, 4, 6, 8, 29, 30, 31, 36, 37, 38] ir23_l5 (L23_5_s a1 a2 a3 a4 a5 v1)
def L23_5_x (e : E_L23_5) (r : Option (Out × St)) : Prop := match e with | .k0 => ∃ g, r = some ((.brk 2), ⟨fr 150 g [(1, .ptr 0 0), (4, (.p (.val (.pointer .none)))), (6, .mp 2), (8, .ptr 4 0), (29, ls 7 eProd a1.prods), (30, i6 a2), (31, i6 a3), (36, ls 6 eSym a4.right)], (L23_5_p a1 a4 [])⟩)
abbrev L23_5_d0 (x2 : SymD) : List AB := (L23_5_p a1 a4 [.cells 48 ((eSym x2).map .p)])
theorem L23_5_ok (v1 : Int) {r : E_L23_5 ⊕ (Int)} (h : L23_5 a4 a5 v1 = some r) : OkR (fun e => L23_5_x a1 a2 a3 a4 e (L23_5_e a1 a2 a3 a4 a5 v1)) (fun s => L23_5_e a1 a2 a3 a4 a5 v1 = L23_5_e a1 a2 a3 a4 a5 s) r := by
 unfold L23_5 at h
 apply bi h <;> intro h1 h
 ·
  apply bn h; intro x2 h2 h
  have k0 := ka [(39, .d true), (41, .v (.ro (eSym x2)))] (av h1 (apc (ig eSym 6 .i64 h2) apn))
  apply bn h; intro x3 h3 h
  apply bi h <;> intro h4 h
  ·
   have q1 := ((((F54_ok a4 h3).cp rfl _).trans (congrArg (fun z => some (vb z)) h4)) : CP prg 54 [aP a4] (L23_5_d0 a1 a4 x2) = some (vb true))
   apply bi h <;> intro h5 h
   ·
    rw [← sj h]
    exact rn ([(44, .v (vb true)), (49, .d true), (6000, .d true)] ++ kH k0) (k0.b (apc q1 (av h5 (apc (L23_5_k a1 a2 a3 a4 a5 (w6 (v1 + 1))) apn))))
   ·
    cases h
  ·
   rw [← sj h]
   exact rn ([(44, .v (vb false)), (6000, .d true)] ++ kH k0) (k0.b (apc ((((F54_ok a4 h3).cp rfl _).trans (congrArg (fun z => some (vb z)) h4)) : CP prg 54 [aP a4] (L23_5_d0 a1 a4 x2) = some (vb false)) (apc (L23_5_k a1 a2 a3 a4 a5 (w6 (v1 + 1))) apn)))
 ·
  rw [← sj h]
  exact xb [(39, .d false), (6000, .d true)] (av h1 apn)
theorem L23_5_run (s0 : Int) (e : E_L23_5) (h : runL (fun s => L23_5 a4 a5 s) s0 = some e) : L23_5_x a1 a2 a3 a4 e (L23_5_e a1 a2 a3 a4 a5 s0) := by
  have q := @loop_sound' (Int) E_L23_5 (fun s => L23_5 a4 a5 s) (fun s => L23_5_e a1 a2 a3 a4 a5 s) (L23_5_x a1 a2 a3 a4) (fun s r h => L23_5_ok a1 a2 a3 a4 a5 s h) s0 e h
  exact q
end
inductive E_L23_6 where
  | k0
section
variable (a1 : GramD) (a2 : Int)
abbrev L23_6_p (l : List AB) : List AB := bG a1 :: bB [] :: .map [] :: l
def L23_6 (v1 : Int) : Option (E_L23_6 ⊕ (Int)) :=
  (bif (decide (v1 < a2)) then ((getI a1.prods v1).bind fun x2 => ((runL (fun s => L23_5 x2 (x2.right.length : Int) s) 0).bind fun r3 => match r3 with | .k0 => (some (.inr ((IntKind.wrap .i64 (v1 + 1))))))) else (some (.inl (.k0))))
def L23_6_s (v1 : Int) : St := ⟨fr 150 ug [(1, .ptr 0 0), (4, (.p (.val (.pointer .none)))), (6, .mp 2), (29, ls 7 eProd a1.prods), (30, i6 a2), (31, i6 v1)], (L23_6_p a1 [])⟩
theorem L23_6_k (v1 : Int) : okT 3 (L23_6_s a1 a2 v1).h = true := (okT_of rfl (ac (ar (ac rfl))))
abbrev L23_6_e (v1 : Int) := evH prg 3 [1, 4, 6, 29, 30, 31] ir23_l6 (L23_6_s a1 a2 v1)
def L23_6_x (e : E_L23_6) (r : Option (Out × St)) : Prop := match e with | .k0 => ∃ g, r = some ((.brk 0), ⟨fr 150 g [(1, .ptr 0 0), (6, .mp 2), (29, ls 7 eProd a1.prods)], (L23_6_p a1 [])⟩)
abbrev L23_6_d0 (g3 : Nat → AV) (v1 : Int) (x2 : ProdD) : St := ⟨fr 150 g3 [(1, .ptr 0 0), (4, (.p (.val (.pointer .none)))), (6, .mp 2), (8, .ptr 4 0), (29, ls 7 eProd a1.prods), (30, i6 a2), (31, i6 v1), (36, ls 6 eSym x2.right)], (L23_6_p a1 [yY0, bP x2])⟩
theorem L23_6_ok (v1 : Int) {r : E_L23_6 ⊕ (Int)} (h : L23_6 a1 a2 v1 = some r) : OkR (fun e => L23_6_x a1 e (L23_6_e a1 a2 v1)) (fun s => L23_6_e a1 a2 v1 = L23_6_e a1 a2 s) r := by
 unfold L23_6 at h
 apply bi h <;> intro h1 h
 ·
  apply bn h; intro x2 h2 h
  apply bn h; intro r3 h3 h
  cases r3 with
  | k0 =>
   obtain ⟨g3, e3⟩ := L23_5_run a1 a2 v1 x2 (x2.right.length : Int) 0 _ h3
   rw [← sj h]
   exact rn [(32, .d true), (33, .v (.ro (eProd x2))), (37, .v (i6 (x2.right.length : Int))), (2002, .l (.brk 2) (L23_6_d0 a1 a2 g3 v1 x2)), (6000, .d true)] (av h1 (apc (ig eProd 7 .i64 h2) (apc (lg x2.right eSym 6) (apc (L23_5_k a1 a2 v1 x2 (x2.right.length : Int) 0) (apc (e3 : L23_5_e a1 a2 v1 x2 (x2.right.length : Int) 0 = some ((.brk 2), L23_6_d0 a1 a2 g3 v1 x2)) (apc (L23_6_k a1 a2 (w6 (v1 + 1))) apn))))))
 ·
  rw [← sj h]
  exact xb [(32, .d false), (6000, .d true)] (av h1 apn)
theorem L23_6_run (s0 : Int) (e : E_L23_6) (h : runL (fun s => L23_6 a1 a2 s) s0 = some e) : L23_6_x a1 e (L23_6_e a1 a2 s0) := by
  have q := @loop_sound' (Int) E_L23_6 (fun s => L23_6 a1 a2 s) (fun s => L23_6_e a1 a2 s) (L23_6_x a1) (fun s r h => L23_6_ok a1 a2 s h) s0 e h
  exact q
end
inductive E_L23_1 where
  | k0 (x0 : List ((Int × Int) × Int))
section
variable (a1 a2 a3 a4 a5 : Int) (a6 : GramD)
abbrev L23_1_p (l : List AB) : List AB := bG a6 :: bB [] :: l
def L23_1 (v1 : Int) (v2 : List ((Int × Int) × Int)) : Option (E_L23_1 ⊕ (Int × (List ((Int × Int) × Int)))) :=
  (bif (decide (v1 < a5)) then (bif (decide ((mget 0 v2 (a2, a1)) > 0)) then (bif (decide ((mget 0 v2 (a1, v1)) > 0)) then (some (.inr ((IntKind.wrap .i64 (v1 + 1)), (mput (a2, v1) 1 v2)))) else (some (.inr ((IntKind.wrap .i64 (v1 + 1)), v2)))) else (some (.inr ((IntKind.wrap .i64 (v1 + 1)), v2)))) else (some (.inl (.k0 v2))))
def L23_1_s (v1 : Int) (v2 : List ((Int × Int) × Int)) : St := ⟨fr 150 ug [(1, .ptr 0 0), (6, .mp 2), (14, i6 a1), (15, i6 a2), (93, i6 a3), (94, i6 a1), (99, i6 a4), (100, i6 a2), (105, i6 a5), (106, i6 v1)], (L23_1_p a6 [.map (mrow (fun n => .agg [vi .i64 n.1, vi .i64 n.2]) (fun n => vi .i64 n) v2)])⟩
theorem L23_1_k (v1 : Int) (v2 : List ((Int × Int) × Int)) : okT 3 (L23_1_s a1 a2 a3 a4 a5 a6 v1 v2).h = true := (okT_of rfl (ac (ar (abl_cons (abl_map (fun _ => rfl) (fun _ => rfl)) rfl))))
abbrev L23_1_e (v1 : Int) (v2 : List ((Int × Int) × Int)) := evH prg 3 [1, 6, 14, 15, 93, 94, 99, 100, 105, 106] ir23_l1 (L23_1_s a1 a2 a3 a4 a5 a6 v1 v2)
def L23_1_x (e : E_L23_1) (r : Option (Out × St)) : Prop := match e with | .k0 x0 => ∃ g, r = some ((.brk 10), ⟨fr 150 g [(1, .ptr 0 0), (6, .mp 2), (14, i6 a1), (93, i6 a3), (94, i6 a1), (99, i6 a4), (100, i6 a2)], (L23_1_p a6 [.map (mrow (fun n => .agg [vi .i64 n.1, vi .i64 n.2]) (fun n => vi .i64 n) x0)])⟩)
abbrev L23_1_d0 (v2 : List ((Int × Int) × Int)) : List AB := (L23_1_p a6 [.map (mrow (fun n => .agg [vi .i64 n.1, vi .i64 n.2]) (fun n => vi .i64 n) v2)])
abbrev L23_1_d1 (v1 : Int) (v2 : List ((Int × Int) × Int)) : List AB := (L23_1_p a6 [.map (mrow (fun n => .agg [vi .i64 n.1, vi .i64 n.2]) (fun n => vi .i64 n) (mput (a2, v1) 1 v2))])
theorem L23_1_ok (v1 : Int) (v2 : List ((Int × Int) × Int)) {r : E_L23_1 ⊕ (Int × (List ((Int × Int) × Int)))} (h : L23_1 a1 a2 a5 v1 v2 = some r) : OkR (fun e => L23_1_x a1 a2 a3 a4 a6 e (L23_1_e a1 a2 a3 a4 a5 a6 v1 v2)) (fun s => L23_1_e a1 a2 a3 a4 a5 a6 v1 v2 = L23_1_e a1 a2 a3 a4 a5 a6 s.1 s.2) r := by
 unfold L23_1 at h
 have q0 := ((lk_row key_int2 (es := v2) (k := (a2, a1)) (z := 0) rfl rfl) : lkA (L23_1_d0 a6 v2) [1, 1] .true .false [(.val (.int .i64 0))] .false (.mp 2) (.agg [i6 a2, i6 a1]) = some (i6 (mget 0 v2 (a2, a1))))
 have q1 := ((lk_row key_int2 (es := v2) (k := (a1, v1)) (z := 0) rfl rfl) : lkA (L23_1_d0 a6 v2) [1, 1] .true .false [(.val (.int .i64 0))] .false (.mp 2) (.agg [i6 a1, i6 v1]) = some (i6 (mget 0 v2 (a1, v1))))
 apply bi h <;> intro h1 h
 ·
  have k2 := ka [(107, .d true), (113, .v (i6 (mget 0 v2 (a2, a1))))] (av h1 (apc q0 apn))
  apply bi h <;> intro h2 h
  ·
   have k3 := k2.a [(114, .d true), (120, .v (i6 (mget 0 v2 (a1, v1))))] (av h2 (apc q1 apn))
   apply bi h <;> intro h3 h
   ·
    rw [← sj h]
    exact rn ([(121, .d true), (5000, .r ud (L23_1_d1 a2 a6 v1 v2)), (6000, .d true)] ++ kH k3) (k3.b (av h3 (apc (⟨up_row key_int2 (es := v2) (k := (a2, v1)) (v := 1) rfl, rfl⟩ : upA (L23_1_d0 a6 v2) [1, 1] .true (.mp 2) (.agg [i6 a2, i6 v1]) (i6 1) = some (L23_1_d1 a2 a6 v1 v2) ∧ ud = ud) (apc (L23_1_k a1 a2 a3 a4 a5 a6 (w6 (v1 + 1)) (mput (a2, v1) 1 v2)) apn))))
   ·
    rw [← sj h]
    exact rn ([(121, .d false), (6000, .d true)] ++ kH k3) (k3.b (av h3 (apc (L23_1_k a1 a2 a3 a4 a5 a6 (w6 (v1 + 1)) v2) apn)))
  ·
   rw [← sj h]
   exact rn ([(114, .d false), (6000, .d true)] ++ kH k2) (k2.b (av h2 (apc (L23_1_k a1 a2 a3 a4 a5 a6 (w6 (v1 + 1)) v2) apn)))
 ·
  rw [← sj h]
  exact xb [(107, .d false), (6000, .d true)] (av h1 apn)
theorem L23_1_run (s0 : Int × (List ((Int × Int) × Int))) (e : E_L23_1) (h : runL (fun s => L23_1 a1 a2 a5 s.1 s.2) s0 = some e) : L23_1_x a1 a2 a3 a4 a6 e (L23_1_e a1 a2 a3 a4 a5 a6 s0.1 s0.2) := by
  have q := @loop_sound' (Int × (List ((Int × Int) × Int))) E_L23_1 (fun s => L23_1 a1 a2 a5 s.1 s.2) (fun s => L23_1_e a1 a2 a3 a4 a5 a6 s.1 s.2) (L23_1_x a1 a2 a3 a4 a6) (fun s r h => L23_1_ok a1 a2 a3 a4 a5 a6 s.1 s.2 h) s0 e h
  exact q
end
inductive E_L23_2 where
  | k0 (x0 : List ((Int × Int) × Int))
section
variable (a1 a2 a3 : Int) (a4 : GramD)
def L23_2 (v1 : Int) (v2 : List ((Int × Int) × Int)) : Option (E_L23_2 ⊕ (Int × (List ((Int × Int) × Int)))) :=
  (bif (decide (v1 < a3)) then ((runL (fun s => L23_1 a1 v1 (a4.sorts.length : Int) s.1 s.2) (0, v2)).bind fun r2 => match r2 with | .k0 x2_0 => (some (.inr ((IntKind.wrap .i64 (v1 + 1)), x2_0)))) else (some (.inl (.k0 v2))))
def L23_2_s (v1 : Int) (v2 : List ((Int × Int) × Int)) : St := ⟨fr 150 ug [(1, .ptr 0 0), (6, .mp 2), (14, i6 a1), (93, i6 a2), (94, i6 a1), (99, i6 a3), (100, i6 v1)], [bG a4, bB [], .map (mrow (fun n => .agg [vi .i64 n.1, vi .i64 n.2]) (fun n => vi .i64 n) v2)]⟩
theorem L23_2_k (v1 : Int) (v2 : List ((Int × Int) × Int)) : okT 3 (L23_2_s a1 a2 a3 a4 v1 v2).h = true := (okT_of rfl (ac (ar (abl_cons (abl_map (fun _ => rfl) (fun _ => rfl)) rfl))))
abbrev L23_2_e (v1 : Int) (v2 : List ((Int × Int) × Int)) := evH prg 3 [1, 6, 14, 93, 94, 99, 100] ir23_l2 (L23_2_s a1 a2 a3 a4 v1 v2)
def L23_2_x (e : E_L23_2) (r : Option (Out × St)) : Prop := match e with | .k0 x0 => ∃ g, r = some ((.brk 8), ⟨fr 150 g [(1, .ptr 0 0), (6, .mp 2), (93, i6 a2), (94, i6 a1)], [bG a4, bB [], .map (mrow (fun n => .agg [vi .i64 n.1, vi .i64 n.2]) (fun n => vi .i64 n) x0)]⟩)
abbrev L23_2_d0 (g2 : Nat → AV) (v1 : Int) (x2_0 : List ((Int × Int) × Int)) : St := ⟨fr 150 g2 [(1, .ptr 0 0), (6, .mp 2), (14, i6 a1), (93, i6 a2), (94, i6 a1), (99, i6 a3), (100, i6 v1)], [bG a4, bB [], .map (mrow (fun n => .agg [vi .i64 n.1, vi .i64 n.2]) (fun n => vi .i64 n) x2_0)]⟩
theorem L23_2_ok (v1 : Int) (v2 : List ((Int × Int) × Int)) {r : E_L23_2 ⊕ (Int × (List ((Int × Int) × Int)))} (h : L23_2 a1 a3 a4 v1 v2 = some r) : OkR (fun e => L23_2_x a1 a2 a4 e (L23_2_e a1 a2 a3 a4 v1 v2)) (fun s => L23_2_e a1 a2 a3 a4 v1 v2 = L23_2_e a1 a2 a3 a4 s.1 s.2) r := by
 unfold L23_2 at h
 apply bi h <;> intro h1 h
 ·
  apply bn h; intro r2 h2 h
  cases r2 with
  | k0 x2_0 =>
   obtain ⟨g2, e2⟩ := L23_1_run a1 v1 a2 a3 (lS a4) a4 (0, v2) _ h2
   rw [← sj h]
   exact rn [(101, .d true), (105, .v (i6 (lS a4))), (2010, .l (.brk 10) (L23_2_d0 a1 a2 a3 a4 g2 v1 x2_0)), (6000, .d true)] (av h1 (apc (lg a4.sorts eStr 1) (apc (L23_1_k a1 v1 a2 a3 (lS a4) a4 0 v2) (apc (e2 : L23_1_e a1 v1 a2 a3 (lS a4) a4 0 v2 = some ((.brk 10), L23_2_d0 a1 a2 a3 a4 g2 v1 x2_0)) (apc (L23_2_k a1 a2 a3 a4 (w6 (v1 + 1)) x2_0) apn)))))
 ·
  rw [← sj h]
  exact xb [(101, .d false), (6000, .d true)] (av h1 apn)
theorem L23_2_run (s0 : Int × (List ((Int × Int) × Int))) (e : E_L23_2) (h : runL (fun s => L23_2 a1 a3 a4 s.1 s.2) s0 = some e) : L23_2_x a1 a2 a4 e (L23_2_e a1 a2 a3 a4 s0.1 s0.2) := by
  have q := @loop_sound' (Int × (List ((Int × Int) × Int))) E_L23_2 (fun s => L23_2 a1 a3 a4 s.1 s.2) (fun s => L23_2_e a1 a2 a3 a4 s.1 s.2) (L23_2_x a1 a2 a4) (fun s r h => L23_2_ok a1 a2 a3 a4 s.1 s.2 h) s0 e h
  exact q
end
inductive E_L23_3 where
  | k0 (x0 : List ((Int × Int) × Int))
section
variable (a1 : Int) (a2 : GramD)
def L23_3 (v1 : Int) (v2 : List ((Int × Int) × Int)) : Option (E_L23_3 ⊕ (Int × (List ((Int × Int) × Int)))) :=
  (bif (decide (v1 < a1)) then ((runL (fun s => L23_2 v1 (a2.sorts.length : Int) a2 s.1 s.2) (0, v2)).bind fun r2 => match r2 with | .k0 x2_0 => (some (.inr ((IntKind.wrap .i64 (v1 + 1)), x2_0)))) else (some (.inl (.k0 v2))))
def L23_3_s (v1 : Int) (v2 : List ((Int × Int) × Int)) : St := ⟨fr 150 ug [(1, .ptr 0 0), (6, .mp 2), (93, i6 a1), (94, i6 v1)], [bG a2, bB [], .map (mrow (fun n => .agg [vi .i64 n.1, vi .i64 n.2]) (fun n => vi .i64 n) v2)]⟩
theorem L23_3_k (v1 : Int) (v2 : List ((Int × Int) × Int)) : okT 3 (L23_3_s a1 a2 v1 v2).h = true := (okT_of rfl (ac (ar (abl_cons (abl_map (fun _ => rfl) (fun _ => rfl)) rfl))))
abbrev L23_3_e (v1 : Int) (v2 : List ((Int × Int) × Int)) := evH prg 3 [1, 6, 93, 94] ir23_l3 (L23_3_s a1 a2 v1 v2)
def L23_3_x (e : E_L23_3) (r : Option (Out × St)) : Prop := match e with | .k0 x0 => ∃ g, r = some ((.brk 6), ⟨fr 150 g [(1, .ptr 0 0), (6, .mp 2)], [bG a2, bB [], .map (mrow (fun n => .agg [vi .i64 n.1, vi .i64 n.2]) (fun n => vi .i64 n) x0)]⟩)
abbrev L23_3_d0 (g2 : Nat → AV) (v1 : Int) (x2_0 : List ((Int × Int) × Int)) : St := ⟨fr 150 g2 [(1, .ptr 0 0), (6, .mp 2), (93, i6 a1), (94, i6 v1)], [bG a2, bB [], .map (mrow (fun n => .agg [vi .i64 n.1, vi .i64 n.2]) (fun n => vi .i64 n) x2_0)]⟩
theorem L23_3_ok (v1 : Int) (v2 : List ((Int × Int) × Int)) {r : E_L23_3 ⊕ (Int × (List ((Int × Int) × Int)))} (h : L23_3 a1 a2 v1 v2 = some r) : OkR (fun e => L23_3_x a2 e (L23_3_e a1 a2 v1 v2)) (fun s => L23_3_e a1 a2 v1 v2 = L23_3_e a1 a2 s.1 s.2) r := by
 unfold L23_3 at h
 apply bi h <;> intro h1 h
 ·
  apply bn h; intro r2 h2 h
  cases r2 with
  | k0 x2_0 =>
   obtain ⟨g2, e2⟩ := L23_2_run v1 a1 (lS a2) a2 (0, v2) _ h2
   rw [← sj h]
   exact rn [(95, .d true), (99, .v (i6 (lS a2))), (2008, .l (.brk 8) (L23_3_d0 a1 a2 g2 v1 x2_0)), (6000, .d true)] (av h1 (apc (lg a2.sorts eStr 1) (apc (L23_2_k v1 a1 (lS a2) a2 0 v2) (apc (e2 : L23_2_e v1 a1 (lS a2) a2 0 v2 = some ((.brk 8), L23_3_d0 a1 a2 g2 v1 x2_0)) (apc (L23_3_k a1 a2 (w6 (v1 + 1)) x2_0) apn)))))
 ·
  rw [← sj h]
  exact xb [(95, .d false), (6000, .d true)] (av h1 apn)
theorem L23_3_run (s0 : Int × (List ((Int × Int) × Int))) (e : E_L23_3) (h : runL (fun s => L23_3 a1 a2 s.1 s.2) s0 = some e) : L23_3_x a2 e (L23_3_e a1 a2 s0.1 s0.2) := by
  have q := @loop_sound' (Int × (List ((Int × Int) × Int))) E_L23_3 (fun s => L23_3 a1 a2 s.1 s.2) (fun s => L23_3_e a1 a2 s.1 s.2) (L23_3_x a2) (fun s r h => L23_3_ok a1 a2 s.1 s.2 h) s0 e h
  exact q
end
inductive E_L23_0 where
  | k0 (x0 : List Bool)
section
variable (a1 : Nat) (a2 : Int) (a3 : GramD) (a4 : List ((Int × Int) × Int))
abbrev L23_0_p (l : List AB) : List AB := bG a3 :: bB [] :: .map (mrow (fun n => .agg [vi .i64 n.1, vi .i64 n.2]) (fun n => vi .i64 n) a4) :: l
def L23_0 (v1 : Int) (v2 : List Bool) : Option (E_L23_0 ⊕ (Int × (List Bool))) :=
  (bif (decide (v1 < a2)) then ((ixN a1 v1).bind fun x2 => ((v2[x2]?).bind fun x3 => (some (.inr ((IntKind.wrap .i64 (v1 + 1)), (v2.set x2 (decide ((mget 0 a4 (v1, v1)) > 0)))))))) else (some (.inl (.k0 v2))))
def L23_0_s (v1 : Int) (v2 : List Bool) : St := ⟨fr 150 ug [(6, .mp 2), (17, .sl 3 0 1 0 a1), (135, i6 a2), (136, i6 v1)], (L23_0_p a3 a4 [bB v2])⟩
theorem L23_0_k (v1 : Int) (v2 : List Bool) : okT 4 (L23_0_s a1 a2 a3 a4 v1 v2).h = true := (okT_of rfl (ac (ar (abl_cons (abl_map (fun _ => rfl) (fun _ => rfl)) (ar rfl)))))
abbrev L23_0_e (v1 : Int) (v2 : List Bool) := evH prg 4 [6, 17, 135, 136] ir23_l0 (L23_0_s a1 a2 a3 a4 v1 v2)
def L23_0_x (e : E_L23_0) (r : Option (Out × St)) : Prop := match e with | .k0 x0 => ∃ g, r = some ((.brk 12), ⟨fr 150 g [(6, .mp 2), (17, .sl 3 0 1 0 a1)], (L23_0_p a3 a4 [bB x0])⟩)
abbrev L23_0_d0 (v2 : List Bool) (x2 : Nat) (v1 : Int) : List AB := (L23_0_p a3 a4 [bB (v2.set x2 (decide ((mget 0 a4 (v1, v1)) > 0)))])
abbrev L23_0_d1 (v2 : List Bool) : List AB := (L23_0_p a3 a4 [bB v2])
theorem L23_0_ok (v1 : Int) (v2 : List Bool) {r : E_L23_0 ⊕ (Int × (List Bool))} (h : L23_0 a1 a2 a4 v1 v2 = some r) : OkR (fun e => L23_0_x a1 a3 a4 e (L23_0_e a1 a2 a3 a4 v1 v2)) (fun s => L23_0_e a1 a2 a3 a4 v1 v2 = L23_0_e a1 a2 a3 a4 s.1 s.2) r := by
 unfold L23_0 at h
 apply bi h <;> intro h1 h
 ·
  apply bn h; intro x2 h2 h
  apply bn h; intro x3 h3 h
  rw [← sj h]
  exact rn [(137, .d true), (145, .v (i6 (mget 0 a4 (v1, v1)))), (147, .v (.rp 3 0 1 x2 0)), (1147, .r ud (L23_0_d0 a3 a4 v2 x2 v1)), (6000, .d true)] (av h1 (apc ((lk_row key_int2 (es := a4) (k := (v1, v1)) (z := 0) rfl rfl) : lkA (L23_0_d1 a3 a4 v2) [1, 1] .true .false [(.val (.int .i64 0))] .false (.mp 2) (.agg [i6 v1, i6 v1]) = some (i6 (mget 0 a4 (v1, v1)))) (apc ((idx_sl h2) : idxA 1 (.sl 3 0 1 0 a1) (i6 v1) = some (.rp 3 0 1 x2 0)) (apc (⟨st_row (v' := (decide ((mget 0 a4 (v1, v1)) > 0))) rfl h3 rfl rfl (Nat.le_of_ble_eq_true rfl) rfl, rfl⟩ : stA (L23_0_d1 a3 a4 v2) 1 (.rp 3 0 1 x2 0) (vb (decide ((mget 0 a4 (v1, v1)) > 0))) = some (L23_0_d0 a3 a4 v2 x2 v1) ∧ ud = ud) (apc (L23_0_k a1 a2 a3 a4 (w6 (v1 + 1)) (v2.set x2 (decide ((mget 0 a4 (v1, v1)) > 0)))) apn)))))
 ·
  rw [← sj h]
  exact xb [(137, .d false), (6000, .d true)] (av h1 apn)
theorem L23_0_run (s0 : Int × (List Bool)) (e : E_L23_0) (h : runL (fun s => L23_0 a1 a2 a4 s.1 s.2) s0 = some e) : L23_0_x a1 a3 a4 e (L23_0_e a1 a2 a3 a4 s0.1 s0.2) := by
  have q := @loop_sound' (Int × (List Bool)) E_L23_0 (fun s => L23_0 a1 a2 a4 s.1 s.2) (fun s => L23_0_e a1 a2 a3 a4 s.1 s.2) (L23_0_x a1 a3 a4) (fun s r h => L23_0_ok a1 a2 a3 a4 s.1 s.2 h) s0 e h
  exact q
end
inductive E_L23_4 where
  | k0 (x0 : Bool)
section
variable (a1 : List ByteArray) (a2 : List ProdD) (a3 : Int) (a4 : List ForbD) (a5 : List FollD) (a6 : List Int) (a7 : List Bool) (a8 : Int) (a9 : GramD) (a10 a11 : Int) (a12 : ProdD) (a13 a14 : Int) (a15 : List ((Int × Int) × Int)) (a16 : SymD)
abbrev L23_4_p (l : List AB) : List AB := bG a9 :: bB [] :: .map (mrow (fun n => .agg [vi .i64 n.1, vi .i64 n.2]) (fun n => vi .i64 n) a15) :: yY0 :: bP a12 :: .cells 48 ((eSym a16).map .p) :: l
def L23_4 (v1 : Bool) (v2 : Int) : Option (E_L23_4 ⊕ (Bool × Int)) :=
  (bif (decide (v2 < a14)) then ((getI a12.right v2).bind fun x2 => (bif v1 then (bif (v2 == a8) then (some (.inr (true, (IntKind.wrap .i64 (v2 + 1))))) else ((F55 a7 x2).bind fun x5 => (bif x5 then (some (.inr (true, (IntKind.wrap .i64 (v2 + 1))))) else (some (.inr (false, (IntKind.wrap .i64 (v2 + 1)))))))) else (some (.inr (false, (IntKind.wrap .i64 (v2 + 1))))))) else (some (.inl (.k0 v1))))
def L23_4_s (v1 : Bool) (v2 : Int) : St := ⟨fr 150 ug [(1, .ptr 0 0), (4, (.ro [.lst 1 (a1.map eStr), .lst 7 (a2.map eProd), .val (.int .i64 a3), .lst 3 (a4.map eForb), .lst 5 (a5.map eFoll), .lst 1 (a6.map eI64), .lst 1 (a7.map eBool)])), (6, .mp 2), (8, .ptr 4 0), (9, i6 a8), (10, .ptr 5 0), (11, vb v1), (29, ls 7 eProd a9.prods), (30, i6 a10), (31, i6 a11), (36, ls 6 eSym a12.right), (37, i6 a13), (38, i6 a8), (63, ls 6 eSym a12.right), (64, i6 a14), (65, i6 v2)], (L23_4_p a9 a12 a15 a16 [])⟩
theorem L23_4_k (v1 : Bool) (v2 : Int) : okT 6 (L23_4_s a1 a2 a3 a4 a5 a6 a7 a8 a9 a10 a11 a12 a13 a14 a15 a16 v1 v2).h = true := (okT_of rfl (ac (ar (abl_cons (abl_map (fun _ => rfl) (fun _ => rfl)) (ar (ac (ac rfl)))))))
abbrev L23_4_e (v1 : Bool) (v2 : Int) := evH prg 6 [1, 4, 6, 8, 9, 10, 11, 29, 30, 31, 36, 37, 38, 63, 64, 65] ir23_l4 (L23_4_s a1 a2 a3 a4 a5 a6 a7 a8 a9 a10 a11 a12 a13 a14 a15 a16 v1 v2)
def L23_4_x (e : E_L23_4) (r : Option (Out × St)) : Prop := match e with | .k0 x0 => ∃ g, r = some ((.brk 4), ⟨fr 150 g [(1, .ptr 0 0), (4, (.ro [.lst 1 (a1.map eStr), .lst 7 (a2.map eProd), .val (.int .i64 a3), .lst 3 (a4.map eForb), .lst 5 (a5.map eFoll), .lst 1 (a6.map eI64), .lst 1 (a7.map eBool)])), (6, .mp 2), (8, .ptr 4 0), (10, .ptr 5 0), (11, vb x0), (29, ls 7 eProd a9.prods), (30, i6 a10), (31, i6 a11), (36, ls 6 eSym a12.right), (37, i6 a13), (38, i6 a8), (63, ls 6 eSym a12.right)], (L23_4_p a9 a12 a15 a16 [])⟩)
abbrev L23_4_d0 (x2 : SymD) : List AB := (L23_4_p a9 a12 a15 a16 [.cells 48 ((eSym x2).map .p)])
theorem L23_4_ok (v1 : Bool) (v2 : Int) {r : E_L23_4 ⊕ (Bool × Int)} (h : L23_4 a7 a8 a12 a14 v1 v2 = some r) : OkR (fun e => L23_4_x a1 a2 a3 a4 a5 a6 a7 a8 a9 a10 a11 a12 a13 a15 a16 e (L23_4_e a1 a2 a3 a4 a5 a6 a7 a8 a9 a10 a11 a12 a13 a14 a15 a16 v1 v2)) (fun s => L23_4_e a1 a2 a3 a4 a5 a6 a7 a8 a9 a10 a11 a12 a13 a14 a15 a16 v1 v2 = L23_4_e a1 a2 a3 a4 a5 a6 a7 a8 a9 a10 a11 a12 a13 a14 a15 a16 s.1 s.2) r := by
 unfold L23_4 at h
 have q0 := (L23_4_k a1 a2 a3 a4 a5 a6 a7 a8 a9 a10 a11 a12 a13 a14 a15 a16 true (w6 (v2 + 1)))
 have q1 := (L23_4_k a1 a2 a3 a4 a5 a6 a7 a8 a9 a10 a11 a12 a13 a14 a15 a16 false (w6 (v2 + 1)))
 apply bi h <;> intro h1 h
 ·
  apply bn h; intro x2 h2 h
  have k2 := ka [(66, .d true), (68, .v (.ro (eSym x2)))] (av h1 (apc (ig eSym 6 .i64 h2) apn))
  apply bi h <;> intro h3 h
  ·
   apply bi h <;> intro h4 h
   ·
    rw [← sj h]
    exact rn ([(70, .d true), (74, .d true), (6000, .d true)] ++ kH k2) (k2.b (av h3 (av h4 (apc q0 apn))))
   ·
    have k3 := k2.a [(70, .d true), (74, .d false)] (av h3 (av h4 apn))
    apply bn h; intro x5 h5 h
    apply bi h <;> intro h6 h
    ·
     rw [← sj h]
     exact rn ([(78, .v (vb true)), (6000, .d true)] ++ kH k3) (k3.b (apc ((((F55_ok (⟨a1, a2, a3, a4, a5⟩ : GramD) a6 a7 x2 h5).cp rfl _).trans (congrArg (fun z => some (vb z)) h6)) : CP prg 55 [(.ro [.lst 1 (a1.map eStr), .lst 7 (a2.map eProd), .val (.int .i64 a3), .lst 3 (a4.map eForb), .lst 5 (a5.map eFoll), .lst 1 (a6.map eI64), .lst 1 (a7.map eBool)]), (.agg ((eSym x2).map .p))] (L23_4_d0 a9 a12 a15 a16 x2) = some (vb true)) (apc q0 apn)))
    ·
     rw [← sj h]
     exact rn ([(78, .v (vb false)), (6000, .d true)] ++ kH k3) (k3.b (apc ((((F55_ok (⟨a1, a2, a3, a4, a5⟩ : GramD) a6 a7 x2 h5).cp rfl _).trans (congrArg (fun z => some (vb z)) h6)) : CP prg 55 [(.ro [.lst 1 (a1.map eStr), .lst 7 (a2.map eProd), .val (.int .i64 a3), .lst 3 (a4.map eForb), .lst 5 (a5.map eFoll), .lst 1 (a6.map eI64), .lst 1 (a7.map eBool)]), (.agg ((eSym x2).map .p))] (L23_4_d0 a9 a12 a15 a16 x2) = some (vb false)) (apc q1 apn)))
  ·
   rw [← sj h]
   exact rn ([(70, .d false), (6000, .d true)] ++ kH k2) (k2.b (av h3 (apc q1 apn)))
 ·
  rw [← sj h]
  exact xb [(66, .d false), (6000, .d true)] (av h1 apn)
theorem L23_4_run (s0 : Bool × Int) (e : E_L23_4) (h : runL (fun s => L23_4 a7 a8 a12 a14 s.1 s.2) s0 = some e) : L23_4_x a1 a2 a3 a4 a5 a6 a7 a8 a9 a10 a11 a12 a13 a15 a16 e (L23_4_e a1 a2 a3 a4 a5 a6 a7 a8 a9 a10 a11 a12 a13 a14 a15 a16 s0.1 s0.2) := by
  have q := @loop_sound' (Bool × Int) E_L23_4 (fun s => L23_4 a7 a8 a12 a14 s.1 s.2) (fun s => L23_4_e a1 a2 a3 a4 a5 a6 a7 a8 a9 a10 a11 a12 a13 a14 a15 a16 s.1 s.2) (L23_4_x a1 a2 a3 a4 a5 a6 a7 a8 a9 a10 a11 a12 a13 a15 a16) (fun s r h => L23_4_ok a1 a2 a3 a4 a5 a6 a7 a8 a9 a10 a11 a12 a13 a14 a15 a16 s.1 s.2 h) s0 e h
  exact q
end
inductive E_L23_5_2 where
  | k0 (x0 : List ((Int × Int) × Int))
section
variable (a1 : List ByteArray) (a2 : List ProdD) (a3 : Int) (a4 : List ForbD) (a5 : List FollD) (a6 : List Int) (a7 : List Bool) (a8 : GramD) (a9 a10 : Int) (a11 : ProdD) (a12 : Int)
abbrev L23_5_2_p (l : List AB) : List AB := bG a8 :: bB [] :: l
def L23_5_2 (v1 : Int) (v2 : List ((Int × Int) × Int)) : Option (E_L23_5_2 ⊕ (Int × (List ((Int × Int) × Int)))) :=
  (bif (decide (v1 < a12)) then ((getI a11.right v1).bind fun x2 => ((F54 a11).bind fun x3 => (bif x3 then (bif (x2.kind != 1) then (some (.inr ((IntKind.wrap .i64 (v1 + 1)), v2))) else ((getI a6 x2.sort).bind fun x6 => (bif (decide (x6 < 0)) then (some (.inr ((IntKind.wrap .i64 (v1 + 1)), v2))) else ((runL (fun s => L23_4 a7 v1 a11 (a11.right.length : Int) s.1 s.2) (true, 0)).bind fun r8 => match r8 with | .k0 x8_0 => (bif x8_0 then (some (.inr ((IntKind.wrap .i64 (v1 + 1)), (mput (a11.left, x2.sort) 1 v2)))) else (some (.inr ((IntKind.wrap .i64 (v1 + 1)), v2)))))))) else (some (.inr ((IntKind.wrap .i64 (v1 + 1)), v2)))))) else (some (.inl (.k0 v2))))
def L23_5_2_s (v1 : Int) (v2 : List ((Int × Int) × Int)) : St := ⟨fr 150 ug [(1, .ptr 0 0), (4, (.ro [.lst 1 (a1.map eStr), .lst 7 (a2.map eProd), .val (.int .i64 a3), .lst 3 (a4.map eForb), .lst 5 (a5.map eFoll), .lst 1 (a6.map eI64), .lst 1 (a7.map eBool)])), (6, .mp 2), (8, .ptr 4 0), (29, ls 7 eProd a8.prods), (30, i6 a9), (31, i6 a10), (36, ls 6 eSym a11.right), (37, i6 a12), (38, i6 v1)], (L23_5_2_p a8 [.map (mrow (fun n => .agg [vi .i64 n.1, vi .i64 n.2]) (fun n => vi .i64 n) v2), yY0, bP a11])⟩
theorem L23_5_2_k (v1 : Int) (v2 : List ((Int × Int) × Int)) : okT 5 (L23_5_2_s a1 a2 a3 a4 a5 a6 a7 a8 a9 a10 a11 a12 v1 v2).h = true := (okT_of rfl (ac (ar (abl_cons (abl_map (fun _ => rfl) (fun _ => rfl)) (ar (ac rfl))))))
abbrev L23_5_2_e (v1 : Int) (v2 : List ((Int × Int) × Int)) := evH prg 5 [1, 4, 6, 8, 29, 30, 31, 36, 37, 38] ir23_l5 (L23_5_2_s a1 a2 a3 a4 a5 a6 a7 a8 a9 a10 a11 a12 v1 v2)
def L23_5_2_x (e : E_L23_5_2) (r : Option (Out × St)) : Prop := match e with | .k0 x0 => ∃ g, r = some ((.brk 2), ⟨fr 150 g [(1, .ptr 0 0), (4, (.ro [.lst 1 (a1.map eStr), .lst 7 (a2.map eProd), .val (.int .i64 a3), .lst 3 (a4.map eForb), .lst 5 (a5.map eFoll), .lst 1 (a6.map eI64), .lst 1 (a7.map eBool)])), (6, .mp 2), (8, .ptr 4 0), (29, ls 7 eProd a8.prods), (30, i6 a9), (31, i6 a10), (36, ls 6 eSym a11.right)], (L23_5_2_p a8 [.map (mrow (fun n => .agg [vi .i64 n.1, vi .i64 n.2]) (fun n => vi .i64 n) x0), yY0, bP a11])⟩)
abbrev L23_5_2_d0 (v2 : List ((Int × Int) × Int)) (x2 : SymD) : List AB := (L23_5_2_p a8 [.map (mrow (fun n => .agg [vi .i64 n.1, vi .i64 n.2]) (fun n => vi .i64 n) v2), yY0, bP a11, .cells 48 ((eSym x2).map .p)])
abbrev L23_5_2_d1 (g8 : Nat → AV) (x8_0 : Bool) (v1 : Int) (v2 : List ((Int × Int) × Int)) (x2 : SymD) : St := ⟨fr 150 g8 [(1, .ptr 0 0), (4, (.ro [.lst 1 (a1.map eStr), .lst 7 (a2.map eProd), .val (.int .i64 a3), .lst 3 (a4.map eForb), .lst 5 (a5.map eFoll), .lst 1 (a6.map eI64), .lst 1 (a7.map eBool)])), (6, .mp 2), (8, .ptr 4 0), (10, .ptr 5 0), (11, vb x8_0), (29, ls 7 eProd a8.prods), (30, i6 a9), (31, i6 a10), (36, ls 6 eSym a11.right), (37, i6 a12), (38, i6 v1), (63, ls 6 eSym a11.right)], (L23_5_2_p a8 [.map (mrow (fun n => .agg [vi .i64 n.1, vi .i64 n.2]) (fun n => vi .i64 n) v2), yY0, bP a11, .cells 48 ((eSym x2).map .p)])⟩
abbrev L23_5_2_d2 (x2 : SymD) (v2 : List ((Int × Int) × Int)) : List AB := (L23_5_2_p a8 [.map (mrow (fun n => .agg [vi .i64 n.1, vi .i64 n.2]) (fun n => vi .i64 n) (mput (a11.left, x2.sort) 1 v2)), yY0, bP a11, .cells 48 ((eSym x2).map .p)])
theorem L23_5_2_ok (v1 : Int) (v2 : List ((Int × Int) × Int)) {r : E_L23_5_2 ⊕ (Int × (List ((Int × Int) × Int)))} (h : L23_5_2 a6 a7 a11 a12 v1 v2 = some r) : OkR (fun e => L23_5_2_x a1 a2 a3 a4 a5 a6 a7 a8 a9 a10 a11 e (L23_5_2_e a1 a2 a3 a4 a5 a6 a7 a8 a9 a10 a11 a12 v1 v2)) (fun s => L23_5_2_e a1 a2 a3 a4 a5 a6 a7 a8 a9 a10 a11 a12 v1 v2 = L23_5_2_e a1 a2 a3 a4 a5 a6 a7 a8 a9 a10 a11 a12 s.1 s.2) r := by
 unfold L23_5_2 at h
 have q0 := (L23_5_2_k a1 a2 a3 a4 a5 a6 a7 a8 a9 a10 a11 a12 (w6 (v1 + 1)) v2)
 apply bi h <;> intro h1 h
 ·
  apply bn h; intro x2 h2 h
  have q1 := (L23_4_k a1 a2 a3 a4 a5 a6 a7 v1 a8 a9 a10 a11 a12 (a11.right.length : Int) v2 x2 true 0)
  have k2 := ka [(39, .d true), (41, .v (.ro (eSym x2)))] (av h1 (apc (ig eSym 6 .i64 h2) apn))
  apply bn h; intro x3 h3 h
  apply bi h <;> intro h4 h
  ·
   have q3 := ((((F54_ok a11 h3).cp rfl _).trans (congrArg (fun z => some (vb z)) h4)) : CP prg 54 [aP a11] (L23_5_2_d0 a8 a11 v2 x2) = some (vb true))
   apply bi h <;> intro h5 h
   ·
    rw [← sj h]
    exact rn ([(44, .v (vb true)), (49, .d true), (6000, .d true)] ++ kH k2) (k2.b (apc q3 (av h5 (apc q0 apn))))
   ·
    have k4 := k2.a [(44, .v (vb true)), (49, .d false)] (apc q3 (av h5 apn))
    apply bn h; intro x6 h6 h
    have k5 := k4.a [(58, .v (.ro [.val (.int .i64 x6)]))] (apc (ig eI64 1 .i64 h6) apn)
    apply bi h <;> intro h7 h
    ·
     rw [← sj h]
     exact rn ([(60, .d true), (6000, .d true)] ++ kH k5) (k5.b (av h7 (apc q0 apn)))
    ·
     have k6 := k5.a [(60, .d false), (64, .v (i6 (a11.right.length : Int)))] (av h7 (apc (lg a11.right eSym 6) apn))
     apply bn h; intro r8 h8 h
     cases r8 with
     | k0 x8_0 =>
      obtain ⟨g8, e8⟩ := L23_4_run a1 a2 a3 a4 a5 a6 a7 v1 a8 a9 a10 a11 a12 (a11.right.length : Int) v2 x2 (true, 0) _ h8
      have q7 := (e8 : L23_4_e a1 a2 a3 a4 a5 a6 a7 v1 a8 a9 a10 a11 a12 (a11.right.length : Int) v2 x2 true 0 = some ((.brk 4), L23_5_2_d1 a1 a2 a3 a4 a5 a6 a7 a8 a9 a10 a11 a12 g8 x8_0 v1 v2 x2))
      have k8 := k6.a [(2004, .l (.brk 4) (L23_5_2_d1 a1 a2 a3 a4 a5 a6 a7 a8 a9 a10 a11 a12 g8 x8_0 v1 v2 x2))] (apc q1 (apc q7 apn))
      apply bi h <;> intro h9 h
      ·
       rw [← sj h]
       exact rn ([(82, .d true), (5000, .r ud (L23_5_2_d2 a8 a11 x2 v2)), (6000, .d true)] ++ kH k8) (k8.b (av h9 (apc (⟨up_row key_int2 (es := v2) (k := (a11.left, x2.sort)) (v := 1) rfl, rfl⟩ : upA (L23_5_2_d0 a8 a11 v2 x2) [1, 1] .true (.mp 2) (.agg [i6 a11.left, i6 x2.sort]) (i6 1) = some (L23_5_2_d2 a8 a11 x2 v2) ∧ ud = ud) (apc (L23_5_2_k a1 a2 a3 a4 a5 a6 a7 a8 a9 a10 a11 a12 (w6 (v1 + 1)) (mput (a11.left, x2.sort) 1 v2)) apn))))
      ·
       rw [← sj h]
       exact rn ([(82, .d false), (6000, .d true)] ++ kH k8) (k8.b (av h9 (apc q0 apn)))
  ·
   rw [← sj h]
   exact rn ([(44, .v (vb false)), (6000, .d true)] ++ kH k2) (k2.b (apc ((((F54_ok a11 h3).cp rfl _).trans (congrArg (fun z => some (vb z)) h4)) : CP prg 54 [aP a11] (L23_5_2_d0 a8 a11 v2 x2) = some (vb false)) (apc q0 apn)))
 ·
  rw [← sj h]
  exact xb [(39, .d false), (6000, .d true)] (av h1 apn)
theorem L23_5_2_run (s0 : Int × (List ((Int × Int) × Int))) (e : E_L23_5_2) (h : runL (fun s => L23_5_2 a6 a7 a11 a12 s.1 s.2) s0 = some e) : L23_5_2_x a1 a2 a3 a4 a5 a6 a7 a8 a9 a10 a11 e (L23_5_2_e a1 a2 a3 a4 a5 a6 a7 a8 a9 a10 a11 a12 s0.1 s0.2) := by
  have q := @loop_sound' (Int × (List ((Int × Int) × Int))) E_L23_5_2 (fun s => L23_5_2 a6 a7 a11 a12 s.1 s.2) (fun s => L23_5_2_e a1 a2 a3 a4 a5 a6 a7 a8 a9 a10 a11 a12 s.1 s.2) (L23_5_2_x a1 a2 a3 a4 a5 a6 a7 a8 a9 a10 a11) (fun s r h => L23_5_2_ok a1 a2 a3 a4 a5 a6 a7 a8 a9 a10 a11 a12 s.1 s.2 h) s0 e h
  exact q
end
inductive E_L23_6_2 where
  | k0 (x0 : List ((Int × Int) × Int))
section
variable (a1 : List ByteArray) (a2 : List ProdD) (a3 : Int) (a4 : List ForbD) (a5 : List FollD) (a6 : List Int) (a7 : List Bool) (a8 : GramD) (a9 : Int)
def L23_6_2 (v1 : Int) (v2 : List ((Int × Int) × Int)) : Option (E_L23_6_2 ⊕ (Int × (List ((Int × Int) × Int)))) :=
  (bif (decide (v1 < a9)) then ((getI a8.prods v1).bind fun x2 => ((runL (fun s => L23_5_2 a6 a7 x2 (x2.right.length : Int) s.1 s.2) (0, v2)).bind fun r3 => match r3 with | .k0 x3_0 => (some (.inr ((IntKind.wrap .i64 (v1 + 1)), x3_0))))) else (some (.inl (.k0 v2))))
def L23_6_2_s (v1 : Int) (v2 : List ((Int × Int) × Int)) : St := ⟨fr 150 ug [(1, .ptr 0 0), (4, (.ro [.lst 1 (a1.map eStr), .lst 7 (a2.map eProd), .val (.int .i64 a3), .lst 3 (a4.map eForb), .lst 5 (a5.map eFoll), .lst 1 (a6.map eI64), .lst 1 (a7.map eBool)])), (6, .mp 2), (29, ls 7 eProd a8.prods), (30, i6 a9), (31, i6 v1)], [bG a8, bB [], .map (mrow (fun n => .agg [vi .i64 n.1, vi .i64 n.2]) (fun n => vi .i64 n) v2)]⟩
theorem L23_6_2_k (v1 : Int) (v2 : List ((Int × Int) × Int)) : okT 3 (L23_6_2_s a1 a2 a3 a4 a5 a6 a7 a8 a9 v1 v2).h = true := (okT_of rfl (ac (ar (abl_cons (abl_map (fun _ => rfl) (fun _ => rfl)) rfl))))
abbrev L23_6_2_e (v1 : Int) (v2 : List ((Int × Int) × Int)) := evH prg 3 [1, 4, 6, 29, 30, 31] ir23_l6 (L23_6_2_s a1 a2 a3 a4 a5 a6 a7 a8 a9 v1 v2)
def L23_6_2_x (e : E_L23_6_2) (r : Option (Out × St)) : Prop := match e with | .k0 x0 => ∃ g, r = some ((.brk 0), ⟨fr 150 g [(1, .ptr 0 0), (6, .mp 2), (29, ls 7 eProd a8.prods)], [bG a8, bB [], .map (mrow (fun n => .agg [vi .i64 n.1, vi .i64 n.2]) (fun n => vi .i64 n) x0)]⟩)
abbrev L23_6_2_d0 (g3 : Nat → AV) (v1 : Int) (x2 : ProdD) (x3_0 : List ((Int × Int) × Int)) : St := ⟨fr 150 g3 [(1, .ptr 0 0), (4, (.ro [.lst 1 (a1.map eStr), .lst 7 (a2.map eProd), .val (.int .i64 a3), .lst 3 (a4.map eForb), .lst 5 (a5.map eFoll), .lst 1 (a6.map eI64), .lst 1 (a7.map eBool)])), (6, .mp 2), (8, .ptr 4 0), (29, ls 7 eProd a8.prods), (30, i6 a9), (31, i6 v1), (36, ls 6 eSym x2.right)], [bG a8, bB [], .map (mrow (fun n => .agg [vi .i64 n.1, vi .i64 n.2]) (fun n => vi .i64 n) x3_0), yY0, bP x2]⟩
theorem L23_6_2_ok (v1 : Int) (v2 : List ((Int × Int) × Int)) {r : E_L23_6_2 ⊕ (Int × (List ((Int × Int) × Int)))} (h : L23_6_2 a6 a7 a8 a9 v1 v2 = some r) : OkR (fun e => L23_6_2_x a8 e (L23_6_2_e a1 a2 a3 a4 a5 a6 a7 a8 a9 v1 v2)) (fun s => L23_6_2_e a1 a2 a3 a4 a5 a6 a7 a8 a9 v1 v2 = L23_6_2_e a1 a2 a3 a4 a5 a6 a7 a8 a9 s.1 s.2) r := by
 unfold L23_6_2 at h
 apply bi h <;> intro h1 h
 ·
  apply bn h; intro x2 h2 h
  apply bn h; intro r3 h3 h
  cases r3 with
  | k0 x3_0 =>
   obtain ⟨g3, e3⟩ := L23_5_2_run a1 a2 a3 a4 a5 a6 a7 a8 a9 v1 x2 (x2.right.length : Int) (0, v2) _ h3
   rw [← sj h]
   exact rn [(32, .d true), (33, .v (.ro (eProd x2))), (37, .v (i6 (x2.right.length : Int))), (2002, .l (.brk 2) (L23_6_2_d0 a1 a2 a3 a4 a5 a6 a7 a8 a9 g3 v1 x2 x3_0)), (6000, .d true)] (av h1 (apc (ig eProd 7 .i64 h2) (apc (lg x2.right eSym 6) (apc (L23_5_2_k a1 a2 a3 a4 a5 a6 a7 a8 a9 v1 x2 (x2.right.length : Int) 0 v2) (apc (e3 : L23_5_2_e a1 a2 a3 a4 a5 a6 a7 a8 a9 v1 x2 (x2.right.length : Int) 0 v2 = some ((.brk 2), L23_6_2_d0 a1 a2 a3 a4 a5 a6 a7 a8 a9 g3 v1 x2 x3_0)) (apc (L23_6_2_k a1 a2 a3 a4 a5 a6 a7 a8 a9 (w6 (v1 + 1)) x3_0) apn))))))
 ·
  rw [← sj h]
  exact xb [(32, .d false), (6000, .d true)] (av h1 apn)
theorem L23_6_2_run (s0 : Int × (List ((Int × Int) × Int))) (e : E_L23_6_2) (h : runL (fun s => L23_6_2 a6 a7 a8 a9 s.1 s.2) s0 = some e) : L23_6_2_x a8 e (L23_6_2_e a1 a2 a3 a4 a5 a6 a7 a8 a9 s0.1 s0.2) := by
  have q := @loop_sound' (Int × (List ((Int × Int) × Int))) E_L23_6_2 (fun s => L23_6_2 a6 a7 a8 a9 s.1 s.2) (fun s => L23_6_2_e a1 a2 a3 a4 a5 a6 a7 a8 a9 s.1 s.2) (L23_6_2_x a8) (fun s r h => L23_6_2_ok a1 a2 a3 a4 a5 a6 a7 a8 a9 s.1 s.2 h) s0 e h
  exact q
end
inductive E_L23_3_2 where
  | k0 (x0 : List ((Int × Int) × Int))
section
variable (a1 : Int) (a2 : GramD)
def L23_3_2 (v1 : Int) (v2 : List ((Int × Int) × Int)) : Option (E_L23_3_2 ⊕ (Int × (List ((Int × Int) × Int)))) :=
  (bif (decide (v1 < a1)) then ((runL (fun s => L23_2 v1 (a2.sorts.length : Int) a2 s.1 s.2) (0, v2)).bind fun r2 => match r2 with | .k0 x2_0 => (some (.inr ((IntKind.wrap .i64 (v1 + 1)), x2_0)))) else (some (.inl (.k0 v2))))
def L23_3_2_s (v1 : Int) (v2 : List ((Int × Int) × Int)) : St := ⟨fr 150 ug [(1, .ptr 0 0), (6, .mp 2), (93, i6 a1), (94, i6 v1)], [bG a2, bB [], .map (mrow (fun n => .agg [vi .i64 n.1, vi .i64 n.2]) (fun n => vi .i64 n) v2)]⟩
theorem L23_3_2_k (v1 : Int) (v2 : List ((Int × Int) × Int)) : okT 3 (L23_3_2_s a1 a2 v1 v2).h = true := (okT_of rfl (ac (ar (abl_cons (abl_map (fun _ => rfl) (fun _ => rfl)) rfl))))
abbrev L23_3_2_e (v1 : Int) (v2 : List ((Int × Int) × Int)) := evH prg 3 [1, 6, 93, 94] ir23_l3 (L23_3_2_s a1 a2 v1 v2)
def L23_3_2_x (e : E_L23_3_2) (r : Option (Out × St)) : Prop := match e with | .k0 x0 => ∃ g, r = some ((.brk 6), ⟨fr 150 g [(1, .ptr 0 0), (6, .mp 2)], [bG a2, bB [], .map (mrow (fun n => .agg [vi .i64 n.1, vi .i64 n.2]) (fun n => vi .i64 n) x0)]⟩)
abbrev L23_3_2_d0 (g2 : Nat → AV) (v1 : Int) (x2_0 : List ((Int × Int) × Int)) : St := ⟨fr 150 g2 [(1, .ptr 0 0), (6, .mp 2), (93, i6 a1), (94, i6 v1)], [bG a2, bB [], .map (mrow (fun n => .agg [vi .i64 n.1, vi .i64 n.2]) (fun n => vi .i64 n) x2_0)]⟩
theorem L23_3_2_ok (v1 : Int) (v2 : List ((Int × Int) × Int)) {r : E_L23_3_2 ⊕ (Int × (List ((Int × Int) × Int)))} (h : L23_3_2 a1 a2 v1 v2 = some r) : OkR (fun e => L23_3_2_x a2 e (L23_3_2_e a1 a2 v1 v2)) (fun s => L23_3_2_e a1 a2 v1 v2 = L23_3_2_e a1 a2 s.1 s.2) r := by
 unfold L23_3_2 at h
 apply bi h <;> intro h1 h
 ·
  apply bn h; intro r2 h2 h
  cases r2 with
  | k0 x2_0 =>
   obtain ⟨g2, e2⟩ := L23_2_run v1 a1 (lS a2) a2 (0, v2) _ h2
   rw [← sj h]
   exact rn [(95, .d true), (99, .v (i6 (lS a2))), (2008, .l (.brk 8) (L23_3_2_d0 a1 a2 g2 v1 x2_0)), (6000, .d true)] (av h1 (apc (lg a2.sorts eStr 1) (apc (L23_2_k v1 a1 (lS a2) a2 0 v2) (apc (e2 : L23_2_e v1 a1 (lS a2) a2 0 v2 = some ((.brk 8), L23_3_2_d0 a1 a2 g2 v1 x2_0)) (apc (L23_3_2_k a1 a2 (w6 (v1 + 1)) x2_0) apn)))))
 ·
  rw [← sj h]
  exact xb [(95, .d false), (6000, .d true)] (av h1 apn)
theorem L23_3_2_run (s0 : Int × (List ((Int × Int) × Int))) (e : E_L23_3_2) (h : runL (fun s => L23_3_2 a1 a2 s.1 s.2) s0 = some e) : L23_3_2_x a2 e (L23_3_2_e a1 a2 s0.1 s0.2) := by
  have q := @loop_sound' (Int × (List ((Int × Int) × Int))) E_L23_3_2 (fun s => L23_3_2 a1 a2 s.1 s.2) (fun s => L23_3_2_e a1 a2 s.1 s.2) (L23_3_2_x a2) (fun s r h => L23_3_2_ok a1 a2 s.1 s.2 h) s0 e h
  exact q
end
inductive R_F23 where
  | k0 (x0 : List Bool) (x1 : Int)
def F23_v (a1 : GramD) (r : R_F23) : AV := match r with | .k0 x0 x1 => (.tup [ls 1 eBool x0, i6 x1])
def F23 (a1 : GramD) : Option R_F23 :=
  ((F45 a1).bind fun r1 => match r1 with | .k0 x1_0 => (bif (x1_0 != 0) then (some (.k0 ([]) x1_0)) else ((runL (fun s => L23_6 a1 (a1.prods.length : Int) s) 0).bind fun r3 => match r3 with | .k0 => ((runL (fun s => L23_3 (a1.sorts.length : Int) a1 s.1 s.2) (0, [])).bind fun r4 => match r4 with | .k0 x4_0 => (bif (mkOk (a1.sorts.length : Int) 1) then ((runL (fun s => L23_0 (Int.toNat (a1.sorts.length : Int)) (((Int.toNat (a1.sorts.length : Int)) : Nat) : Int) x4_0 s.1 s.2) (0, (List.replicate (Int.toNat (a1.sorts.length : Int)) false))).bind fun r6 => match r6 with | .k0 x6_0 => (bif (decide ((Int.toNat (a1.sorts.length : Int)) ≤ x6_0.length)) then (some (.k0 (x6_0.take (Int.toNat (a1.sorts.length : Int))) 0)) else none)) else none)))) | .k1 x1_0 x1_1 x1_2 x1_3 x1_4 x1_5 x1_6 => ((runL (fun s => L23_6_2 x1_5 x1_6 a1 (a1.prods.length : Int) s.1 s.2) (0, [])).bind fun r2 => match r2 with | .k0 x2_0 => ((runL (fun s => L23_3_2 (a1.sorts.length : Int) a1 s.1 s.2) (0, x2_0)).bind fun r3 => match r3 with | .k0 x3_0 => (bif (mkOk (a1.sorts.length : Int) 1) then ((runL (fun s => L23_0 (Int.toNat (a1.sorts.length : Int)) (((Int.toNat (a1.sorts.length : Int)) : Nat) : Int) x3_0 s.1 s.2) (0, (List.replicate (Int.toNat (a1.sorts.length : Int)) false))).bind fun r5 => match r5 with | .k0 x5_0 => (bif (decide ((Int.toNat (a1.sorts.length : Int)) ≤ x5_0.length)) then (some (.k0 (x5_0.take (Int.toNat (a1.sorts.length : Int))) 0)) else none)) else none))))
abbrev F23_d0 (g3 : Nat → AV) (a1 : GramD) : St := ⟨fr 150 g3 [(1, .ptr 0 0), (6, .mp 2), (29, ls 7 eProd a1.prods)], [bG a1, bB [], .map []]⟩
abbrev F23_d1 (g4 : Nat → AV) (a1 : GramD) (x4_0 : List ((Int × Int) × Int)) : St := ⟨fr 150 g4 [(1, .ptr 0 0), (6, .mp 2)], [bG a1, bB [], .map (mrow (fun n => .agg [vi .i64 n.1, vi .i64 n.2]) (fun n => vi .i64 n) x4_0)]⟩
abbrev F23_d2 (a1 : GramD) (x4_0 : List ((Int × Int) × Int)) : List AB := [bG a1, bB [], .map (mrow (fun n => .agg [vi .i64 n.1, vi .i64 n.2]) (fun n => vi .i64 n) x4_0)]
abbrev F23_d3 (a1 : GramD) (x4_0 : List ((Int × Int) × Int)) : List AB := [bG a1, bB [], .map (mrow (fun n => .agg [vi .i64 n.1, vi .i64 n.2]) (fun n => vi .i64 n) x4_0), bB (List.replicate (tS a1) false)]
abbrev F23_d4 (g6 : Nat → AV) (a1 : GramD) (x4_0 : List ((Int × Int) × Int)) (x6_0 : List Bool) : St := ⟨fr 150 g6 [(6, .mp 2), (17, (.sl 3 0 1 0 (tS a1)))], [bG a1, bB [], .map (mrow (fun n => .agg [vi .i64 n.1, vi .i64 n.2]) (fun n => vi .i64 n) x4_0), bB x6_0]⟩
abbrev F23_d5 (g2 : Nat → AV) (a1 : GramD) (x2_0 : List ((Int × Int) × Int)) : St := ⟨fr 150 g2 [(1, .ptr 0 0), (6, .mp 2), (29, ls 7 eProd a1.prods)], [bG a1, bB [], .map (mrow (fun n => .agg [vi .i64 n.1, vi .i64 n.2]) (fun n => vi .i64 n) x2_0)]⟩
abbrev F23_d6 (g3 : Nat → AV) (a1 : GramD) (x3_0 : List ((Int × Int) × Int)) : St := ⟨fr 150 g3 [(1, .ptr 0 0), (6, .mp 2)], [bG a1, bB [], .map (mrow (fun n => .agg [vi .i64 n.1, vi .i64 n.2]) (fun n => vi .i64 n) x3_0)]⟩
abbrev F23_d7 (a1 : GramD) (x3_0 : List ((Int × Int) × Int)) : List AB := [bG a1, bB [], .map (mrow (fun n => .agg [vi .i64 n.1, vi .i64 n.2]) (fun n => vi .i64 n) x3_0)]
abbrev F23_d8 (a1 : GramD) (x3_0 : List ((Int × Int) × Int)) : List AB := [bG a1, bB [], .map (mrow (fun n => .agg [vi .i64 n.1, vi .i64 n.2]) (fun n => vi .i64 n) x3_0), bB (List.replicate (tS a1) false)]
abbrev F23_d9 (g5 : Nat → AV) (a1 : GramD) (x3_0 : List ((Int × Int) × Int)) (x5_0 : List Bool) : St := ⟨fr 150 g5 [(6, .mp 2), (17, (.sl 3 0 1 0 (tS a1)))], [bG a1, bB [], .map (mrow (fun n => .agg [vi .i64 n.1, vi .i64 n.2]) (fun n => vi .i64 n) x3_0), bB x5_0]⟩
theorem F23_ok (a1 : GramD) {r : R_F23} (h : F23 a1 = some r) : PR2 prg 23 [aG a1] (F23_v a1 r) := by
 unfold F23 at h
 apply bn h; intro r1 h1 h
 cases r1 with
 | k0 x1_0 =>
  have q0 := (((F45_ok a1 h1).cp rfl _) : CP prg 45 [aG a1] [bG a1, bB []] = some (.tup [(.p (.val (.pointer .none))), i6 x1_0]))
  have k1 := ka [(21, .v (.tup [(.p (.val (.pointer .none))), i6 x1_0]))] (apc q0 apn)
  apply bi h <;> intro h2 h
  ·
   rw [← sj h]
   exact fpn (v := (.tup [.sl 2 0 1 0 0, i6 x1_0])) (h' := [bG a1, bB [], bB []]) ([(25, .d true)] ++ kH k1) (k1.b (av h2 apn)) (purA_tup (purAs_cons (purA_sl (e := eBool) (xs := []) rfl rfl) (purAs_cons rfl purAs_nil))) rfl (purA_tup (purAs_cons (purA_sl (e := eBool) (xs := []) (getq rfl (nols_ra (fun _ => rfl))) rfl) (purAs_cons rfl purAs_nil))) (by kernel_rfl)
  ·
   have k2 := k1.a [(25, .d false), (30, .v (i6 (lP a1)))] (av h2 (apc (lg a1.prods eProd 7) apn))
   apply bn h; intro r3 h3 h
   cases r3 with
   | k0 =>
    obtain ⟨g3, e3⟩ := L23_6_run a1 (lP a1) 0 _ h3
    have q3 := (e3 : L23_6_e a1 (lP a1) 0 = some ((.brk 0), F23_d0 g3 a1))
    have k4 := k2.a [(2000, .l (.brk 0) (F23_d0 g3 a1)), (93, .v (i6 (lS a1)))] (apc (L23_6_k a1 (lP a1) 0) (apc q3 (apc (lg a1.sorts eStr 1) apn)))
    apply bn h; intro r4 h4 h
    cases r4 with
    | k0 x4_0 =>
     obtain ⟨g4, e4⟩ := L23_3_run (lS a1) a1 (0, []) _ h4
     have q5 := (e4 : L23_3_e (lS a1) a1 0 ([]) = some ((.brk 6), F23_d1 g4 a1 x4_0))
     have q6 := (L23_0_k (tS a1) (((tS a1) : Nat) : Int) a1 x4_0 0 (List.replicate (tS a1) false))
     have k7 := k4.a [(2006, .l (.brk 6) (F23_d1 g4 a1 x4_0)), (132, .v (i6 (lS a1)))] (apc (L23_3_k (lS a1) a1 0 ([])) (apc q5 (apc (lg a1.sorts eStr 1) apn)))
     apply bi h <;> intro h5 h
     ·
      have q8 := ((mk_row' (h := (F23_d2 a1 x4_0)) (e := eBool) (z := false) h5 rfl) : (mkA 4 1 1 [.val (.bool false)] (i6 (lS a1)) (i6 (lS a1)) 3).map (fun x => (x.1, (F23_d2 a1 x4_0) ++ [x.2])) = some ((.sl 3 0 1 0 (tS a1)), F23_d3 a1 x4_0))
      have k9 := k7.a [(133, .r (.sl 3 0 1 0 (tS a1)) (F23_d3 a1 x4_0))] (apc q8 apn)
      apply bn h; intro r6 h6 h
      cases r6 with
      | k0 x6_0 =>
       obtain ⟨g6, e6⟩ := L23_0_run (tS a1) (((tS a1) : Nat) : Int) a1 x4_0 (0, (List.replicate (tS a1) false)) _ h6
       have q10 := (e6 : L23_0_e (tS a1) (((tS a1) : Nat) : Int) a1 x4_0 0 (List.replicate (tS a1) false) = some ((.brk 12), F23_d4 g6 a1 x4_0 x6_0))
       have k11 := k9.a [(2012, .l (.brk 12) (F23_d4 g6 a1 x4_0 x6_0))] (apc q6 (apc q10 apn))
       apply bi h <;> intro h7 h
       ·
        rw [← sj h]
        exact fpn (v := (.tup [(.sl 3 0 1 0 (tS a1)), i6 0])) (h' := [bG a1, bB [], .map (mrow (fun n => .agg [vi .i64 n.1, vi .i64 n.2]) (fun n => vi .i64 n) x4_0), bB x6_0]) ([(6000, .d true)] ++ kH k11) (k11.b apn) (purA_tup (purAs_cons (purA_sl (e := eBool) rfl h7) (purAs_cons rfl purAs_nil))) rfl (purA_tup (purAs_cons (purA_sl (e := eBool) (getq rfl (nols_ra (fun _ => rfl))) h7) (purAs_cons rfl purAs_nil))) (by kernel_rfl)
       ·
        cases h
     ·
      cases h
 | k1 x1_0 x1_1 x1_2 x1_3 x1_4 x1_5 x1_6 =>
  have q12 := (((F45_ok a1 h1).cp rfl _) : CP prg 45 [aG a1] [bG a1, bB []] = some (.tup [(.ro [.lst 1 (x1_0.map eStr), .lst 7 (x1_1.map eProd), .val (.int .i64 x1_2), .lst 3 (x1_3.map eForb), .lst 5 (x1_4.map eFoll), .lst 1 (x1_5.map eI64), .lst 1 (x1_6.map eBool)]), i6 0]))
  have q13 := (L23_6_2_k x1_0 x1_1 x1_2 x1_3 x1_4 x1_5 x1_6 a1 (lP a1) 0 ([]))
  have k14 := ka [(21, .v (.tup [(.ro [.lst 1 (x1_0.map eStr), .lst 7 (x1_1.map eProd), .val (.int .i64 x1_2), .lst 3 (x1_3.map eForb), .lst 5 (x1_4.map eFoll), .lst 1 (x1_5.map eI64), .lst 1 (x1_6.map eBool)]), i6 0])), (30, .v (i6 (lP a1)))] (apc q12 (apc (lg a1.prods eProd 7) apn))
  apply bn h; intro r2 h2 h
  cases r2 with
  | k0 x2_0 =>
   obtain ⟨g2, e2⟩ := L23_6_2_run x1_0 x1_1 x1_2 x1_3 x1_4 x1_5 x1_6 a1 (lP a1) (0, []) _ h2
   have q15 := (e2 : L23_6_2_e x1_0 x1_1 x1_2 x1_3 x1_4 x1_5 x1_6 a1 (lP a1) 0 ([]) = some ((.brk 0), F23_d5 g2 a1 x2_0))
   have k16 := k14.a [(2000, .l (.brk 0) (F23_d5 g2 a1 x2_0)), (93, .v (i6 (lS a1)))] (apc q13 (apc q15 (apc (lg a1.sorts eStr 1) apn)))
   apply bn h; intro r3 h3 h
   cases r3 with
   | k0 x3_0 =>
    obtain ⟨g3, e3⟩ := L23_3_2_run (lS a1) a1 (0, x2_0) _ h3
    have q17 := (e3 : L23_3_2_e (lS a1) a1 0 x2_0 = some ((.brk 6), F23_d6 g3 a1 x3_0))
    have q18 := (L23_0_k (tS a1) (((tS a1) : Nat) : Int) a1 x3_0 0 (List.replicate (tS a1) false))
    have k19 := k16.a [(2006, .l (.brk 6) (F23_d6 g3 a1 x3_0)), (132, .v (i6 (lS a1)))] (apc (L23_3_2_k (lS a1) a1 0 x2_0) (apc q17 (apc (lg a1.sorts eStr 1) apn)))
    apply bi h <;> intro h4 h
    ·
     have q20 := ((mk_row' (h := (F23_d7 a1 x3_0)) (e := eBool) (z := false) h4 rfl) : (mkA 4 1 1 [.val (.bool false)] (i6 (lS a1)) (i6 (lS a1)) 3).map (fun x => (x.1, (F23_d7 a1 x3_0) ++ [x.2])) = some ((.sl 3 0 1 0 (tS a1)), F23_d8 a1 x3_0))
     have k21 := k19.a [(133, .r (.sl 3 0 1 0 (tS a1)) (F23_d8 a1 x3_0))] (apc q20 apn)
     apply bn h; intro r5 h5 h
     cases r5 with
     | k0 x5_0 =>
      obtain ⟨g5, e5⟩ := L23_0_run (tS a1) (((tS a1) : Nat) : Int) a1 x3_0 (0, (List.replicate (tS a1) false)) _ h5
      have q22 := (e5 : L23_0_e (tS a1) (((tS a1) : Nat) : Int) a1 x3_0 0 (List.replicate (tS a1) false) = some ((.brk 12), F23_d9 g5 a1 x3_0 x5_0))
      have k23 := k21.a [(2012, .l (.brk 12) (F23_d9 g5 a1 x3_0 x5_0))] (apc q18 (apc q22 apn))
      apply bi h <;> intro h6 h
      ·
       rw [← sj h]
       exact fpn (v := (.tup [(.sl 3 0 1 0 (tS a1)), i6 0])) (h' := [bG a1, bB [], .map (mrow (fun n => .agg [vi .i64 n.1, vi .i64 n.2]) (fun n => vi .i64 n) x3_0), bB x5_0]) ([(6000, .d true)] ++ kH k23) (k23.b apn) (purA_tup (purAs_cons (purA_sl (e := eBool) rfl h6) (purAs_cons rfl purAs_nil))) rfl (purA_tup (purAs_cons (purA_sl (e := eBool) (getq rfl (nols_ra (fun _ => rfl))) h6) (purAs_cons rfl purAs_nil))) (by kernel_rfl)
      ·
       cases h
    ·
     cases h
inductive E_L47_0 where
  | k0 (x0 x1 x2 x3 x4 x5 : Int)
  | k1 (x0 : ByteArray)
section
variable (a1 : ProdD) (a2 : Int) (a3 : GramD) (a4 : Int) (a5 : GramD) (a6 : List Int) (a7 : List Bool) (a8 : List (Int × ByteArray))
abbrev L47_0_p (l : List AB) : List AB := bG a3 :: .cells 3 [i6 a4] :: .cells 89 [(.ro (eOp a5 a6 a7))] :: l
def L47_0 (v1 : ByteArray) (v2 : Int) : Option (E_L47_0 ⊕ (ByteArray × Int)) :=
  (bif (decide (v2 < a2)) then ((getI a1.right v2).bind fun x2 => (bif (x2.kind == 0) then ((F49 x2).bind fun r4 => match r4 with | .k0 x4_0 x4_1 => (bif (decide (v1.size + (⟨([UInt8.ofNat (Int.toNat x4_0)] : List UInt8).toArray⟩ : ByteArray).size ≤ 9223372036854775807)) then (some (.inr ((v1 ++ (⟨([UInt8.ofNat (Int.toNat x4_0)] : List UInt8).toArray⟩ : ByteArray)), (IntKind.wrap .i64 (v2 + 1))))) else none)) else (bif (mhas a8 x2.sort) then (bif (decide (v1.size + (mget (⟨([] : List UInt8).toArray⟩ : ByteArray) a8 x2.sort).size ≤ 9223372036854775807)) then (some (.inr ((v1 ++ (mget (⟨([] : List UInt8).toArray⟩ : ByteArray) a8 x2.sort)), (IntKind.wrap .i64 (v2 + 1))))) else none) else (some (.inl (.k0 x2.kind x2.a x2.b x2.c x2.d x2.sort)))))) else (some (.inl (.k1 v1))))
def L47_0_s (v1 : ByteArray) (v2 : Int) : St := ⟨fr 95 ug [(3, .ptr 4 0), (4, .ptr 7 0), (7, vs v1), (45, ls 6 eSym a1.right), (46, i6 a2), (47, i6 v2)], (L47_0_p a3 a4 a5 a6 a7 [mIS a8, .cells 94 [.mp 3], yY0, bP a1, bP a1])⟩
theorem L47_0_k (v1 : ByteArray) (v2 : Int) : okT 8 (L47_0_s a1 a2 a3 a4 a5 a6 a7 a8 v1 v2).h = true := (okT_of rfl (ac (ac (ac (abl_cons (abl_map (fun _ => rfl) (fun _ => rfl)) (ac (ar (ac (ac rfl)))))))))
abbrev L47_0_e (v1 : ByteArray) (v2 : Int) := evH prg 8 [3, 4, 7, 45, 46, 47] ir47_l0 (L47_0_s a1 a2 a3 a4 a5 a6 a7 a8 v1 v2)
def L47_0_x (e : E_L47_0) (r : Option (Out × St)) : Prop := match e with | .k0 x0 x1 x2 x3 x4 x5 => ∃ g, r = some (.ret, ⟨fr 95 g [(5, vb false)], (L47_0_p a3 a4 a5 a6 a7 [mIS a8, .cells 94 [.mp 3], yY0, bP a1, bP a1, .cells 48 [i6 x0, vi .u64 x1, vi .u64 x2, vi .u64 x3, vi .u64 x4, i6 x5]])⟩) | .k1 x0 => ∃ g, r = some ((.brk 0), ⟨fr 95 g [(3, .ptr 4 0), (4, .ptr 7 0), (7, vs x0), (45, ls 6 eSym a1.right)], (L47_0_p a3 a4 a5 a6 a7 [mIS a8, .cells 94 [.mp 3], yY0, bP a1, bP a1])⟩)
abbrev L47_0_d0 (x2 : SymD) : List AB := (L47_0_p a3 a4 a5 a6 a7 [mIS a8, .cells 94 [.mp 3], yY0, bP a1, bP a1, .cells 48 ((eSym x2).map .p)])
theorem L47_0_ok (v1 : ByteArray) (v2 : Int) {r : E_L47_0 ⊕ (ByteArray × Int)} (h : L47_0 a1 a2 a8 v1 v2 = some r) : OkR (fun e => L47_0_x a1 a3 a4 a5 a6 a7 a8 e (L47_0_e a1 a2 a3 a4 a5 a6 a7 a8 v1 v2)) (fun s => L47_0_e a1 a2 a3 a4 a5 a6 a7 a8 v1 v2 = L47_0_e a1 a2 a3 a4 a5 a6 a7 a8 s.1 s.2) r := by
 unfold L47_0 at h
 apply bi h <;> intro h1 h
 ·
  apply bn h; intro x2 h2 h
  have q0 := ((lk_row2 key_int (es := a8) (k := x2.sort) (z := b0) rfl rfl) : lkA (L47_0_d0 a1 a3 a4 a5 a6 a7 a8 x2) [1] .false .false [(.val (.string ⟨([] : List UInt8).toArray⟩))] .true (.mp 3) (i6 x2.sort) = some (.tup [(vs (mget b0 a8 x2.sort)), (vb (mhas a8 x2.sort))]))
  have k1 := ka [(48, .d true), (49, .v (.ro (eSym x2)))] (av h1 (apc (ig eSym 6 .i64 h2) apn))
  apply bi h <;> intro h3 h
  ·
   apply bn h; intro r4 h4 h
   cases r4 with
   | k0 x4_0 x4_1 =>
    have q2 := (((F49_ok x2 h4).cp rfl _) : CP prg 49 [(.agg ((List.take 4 (List.drop 1 (eSym x2))).map .p))] (L47_0_d0 a1 a3 a4 a5 a6 a7 a8 x2) = some (.tup [vi .u8 x4_0, vb x4_1]))
    have k3 := k1.a [(53, .d true), (57, .v (.tup [vi .u8 x4_0, vb x4_1]))] (av h3 (apc q2 apn))
    apply bi h <;> intro h5 h
    ·
     rw [← sj h]
     exact rn ([(64, .v (vs (v1 ++ (⟨([UInt8.ofNat (Int.toNat x4_0)] : List UInt8).toArray⟩ : ByteArray)))), (6000, .d true)] ++ kH k3) (k3.b (apc ((st_add h5) : binA .add (vs v1) (vs (⟨([UInt8.ofNat (Int.toNat x4_0)] : List UInt8).toArray⟩ : ByteArray)) = some (vs (v1 ++ (⟨([UInt8.ofNat (Int.toNat x4_0)] : List UInt8).toArray⟩ : ByteArray)))) (apc (L47_0_k a1 a2 a3 a4 a5 a6 a7 a8 (v1 ++ (⟨([UInt8.ofNat (Int.toNat x4_0)] : List UInt8).toArray⟩ : ByteArray)) (w6 (v2 + 1))) apn)))
    ·
     cases h
  ·
   have k4 := k1.a [(53, .d false), (69, .v (.tup [(vs (mget b0 a8 x2.sort)), (vb (mhas a8 x2.sort))]))] (av h3 (apc q0 apn))
   apply bi h <;> intro h4 h
   ·
    apply bi h <;> intro h5 h
    ·
     rw [← sj h]
     exact rn ([(71, .d true), (76, .v (vs (v1 ++ (mget b0 a8 x2.sort)))), (6000, .d true)] ++ kH k4) (k4.b (av h4 (apc ((st_add h5) : binA .add (vs v1) (vs (mget b0 a8 x2.sort)) = some (vs (v1 ++ (mget b0 a8 x2.sort)))) (apc (L47_0_k a1 a2 a3 a4 a5 a6 a7 a8 (v1 ++ (mget b0 a8 x2.sort)) (w6 (v2 + 1))) apn))))
    ·
     cases h
   ·
    rw [← sj h]
    exact xr ([(71, .d false), (6000, .d true)] ++ kH k4) (k4.b (av h4 apn))
 ·
  rw [← sj h]
  exact xb [(48, .d false), (6000, .d true)] (av h1 apn)
theorem L47_0_run (s0 : ByteArray × Int) (e : E_L47_0) (h : runL (fun s => L47_0 a1 a2 a8 s.1 s.2) s0 = some e) : L47_0_x a1 a3 a4 a5 a6 a7 a8 e (L47_0_e a1 a2 a3 a4 a5 a6 a7 a8 s0.1 s0.2) := by
  have q := @loop_sound' (ByteArray × Int) E_L47_0 (fun s => L47_0 a1 a2 a8 s.1 s.2) (fun s => L47_0_e a1 a2 a3 a4 a5 a6 a7 a8 s.1 s.2) (L47_0_x a1 a3 a4 a5 a6 a7 a8) (fun s r h => L47_0_ok a1 a2 a3 a4 a5 a6 a7 a8 s.1 s.2 h) s0 e h
  exact q
end
inductive R_F47 where
  | k0 (x0 : Bool) (x1 : List (Int × ByteArray))
  | k1 (x0 x1 x2 x3 x4 x5 : Int)
def F47_v (a1 : ProdD) (a2 : GramD) (a3 : Int) (a4 : GramD) (a5 : List Int) (a6 : List Bool) (a7 : List (Int × ByteArray)) (r : R_F47) : AV := match r with | .k0 x0 x1 => (vb x0) | .k1 x0 x1 x2 x3 x4 x5 => (vb false)
def F47_h (a1 : ProdD) (a2 : GramD) (a3 : Int) (a4 : GramD) (a5 : List Int) (a6 : List Bool) (a7 : List (Int × ByteArray)) (r : R_F47) : List AB := match r with | .k0 x0 x1 => [bG a2, .cells 3 [i6 a3], .cells 89 [(.ro (eOp a4 a5 a6))], mIS x1, .cells 94 [.mp 3], yY0, bP a1, bP a1] | .k1 x0 x1 x2 x3 x4 x5 => [bG a2, .cells 3 [i6 a3], .cells 89 [(.ro (eOp a4 a5 a6))], mIS a7, .cells 94 [.mp 3], yY0, bP a1, bP a1, .cells 48 [i6 x0, vi .u64 x1, vi .u64 x2, vi .u64 x3, vi .u64 x4, i6 x5]]
def F47 (a1 : ProdD) (a3 : Int) (a5 : List Int) (a7 : List (Int × ByteArray)) : Option R_F47 :=
  ((F48 a5 a1).bind fun x1 => (bif (decide (x1 < 0)) then (some (.k0 false a7)) else ((getI a5 a3).bind fun x3 => (bif (decide (x1 > x3)) then (some (.k0 false a7)) else ((getI a5 a1.left).bind fun x5 => (bif (x1 != x5) then (some (.k0 false a7)) else ((runL (fun s => L47_0 a1 (a1.right.length : Int) a7 s.1 s.2) ((⟨([] : List UInt8).toArray⟩ : ByteArray), 0)).bind fun r7 => match r7 with | .k0 x7_0 x7_1 x7_2 x7_3 x7_4 x7_5 => (some (.k1 x7_0 x7_1 x7_2 x7_3 x7_4 x7_5)) | .k1 x7_0 => (bif (mhas a7 a1.left) then (bif (Op.bytesLess (mget (⟨([] : List UInt8).toArray⟩ : ByteArray) a7 a1.left).toList x7_0.toList || (mget (⟨([] : List UInt8).toArray⟩ : ByteArray) a7 a1.left).toList == x7_0.toList) then (some (.k0 false a7)) else (some (.k0 true (mput a1.left x7_0 a7)))) else (some (.k0 true (mput a1.left x7_0 a7)))))))))))
abbrev F47_d0 (a2 : GramD) (a3 : Int) (a4 : GramD) (a5 : List Int) (a6 : List Bool) (a7 : List (Int × ByteArray)) (a1 : ProdD) : List AB := [bG a2, .cells 3 [i6 a3], .cells 89 [(.ro (eOp a4 a5 a6))], mIS a7, .cells 94 [.mp 3], yY0, bP a1, bP a1]
theorem F47_ok (a1 : ProdD) (a2 : GramD) (a3 : Int) (a4 : GramD) (a5 : List Int) (a6 : List Bool) (a7 : List (Int × ByteArray)) {r : R_F47} (h : F47 a1 a3 a5 a7 = some r) : CS prg 47 [aP a1, .ptr 2 0, .ptr 1 0, .ptr 4 0] [bG a2, .cells 3 [i6 a3], .cells 89 [(.ro (eOp a4 a5 a6))], mIS a7, .cells 94 [.mp 3], yY0, bP a1] = some (F47_v a1 a2 a3 a4 a5 a6 a7 r, F47_h a1 a2 a3 a4 a5 a6 a7 r) := by
 unfold F47 at h
 have q0 := (L47_0_k a1 (a1.right.length : Int) a2 a3 a4 a5 a6 a7 b0 0)
 have q1 := ((lk_row2 key_int (es := a7) (k := a1.left) (z := b0) rfl rfl) : lkA (F47_d0 a2 a3 a4 a5 a6 a7 a1) [1] .false .false [(.val (.string ⟨([] : List UInt8).toArray⟩))] .true (.mp 3) (i6 a1.left) = some (.tup [(vs (mget b0 a7 a1.left)), (vb (mhas a7 a1.left))]))
 apply bn h; intro x1 h1 h
 have q2 := (((F48_ok a4 a5 a6 a1 h1).cp rfl _) : CP prg 48 [(.ro (eOp a4 a5 a6)), aP a1] (F47_d0 a2 a3 a4 a5 a6 a7 a1) = some (i6 x1))
 apply bi h <;> intro h2 h
 ·
  rw [← sj h]
  exact fc [(18, .v (i6 x1)), (20, .d true)] (apc q2 (av h2 apn))
 ·
  have k3 := ka [(18, .v (i6 x1)), (20, .d false)] (apc q2 (av h2 apn))
  apply bn h; intro x3 h3 h
  have k4 := k3.a [(28, .v (.ro [.val (.int .i64 x3)]))] (apc (ig eI64 1 .i64 h3) apn)
  apply bi h <;> intro h4 h
  ·
   rw [← sj h]
   exact fc ([(30, .d true)] ++ kH k4) (k4.b (av h4 apn))
  ·
   apply bn h; intro x5 h5 h
   have k5 := k4.a [(30, .d false), (40, .v (.ro [.val (.int .i64 x5)]))] (av h4 (apc (ig eI64 1 .i64 h5) apn))
   apply bi h <;> intro h6 h
   ·
    rw [← sj h]
    exact fc ([(42, .d true)] ++ kH k5) (k5.b (av h6 apn))
   ·
    have k6 := k5.a [(42, .d false), (46, .v (i6 (a1.right.length : Int)))] (av h6 (apc (lg a1.right eSym 6) apn))
    apply bn h; intro r7 h7 h
    cases r7 with
    | k0 x7_0 x7_1 x7_2 x7_3 x7_4 x7_5 =>
     obtain ⟨g7, e7⟩ := L47_0_run a1 (a1.right.length : Int) a2 a3 a4 a5 a6 a7 (b0, 0) _ h7
     rw [← sj h]
     exact fc ([(2000, .l .ret ⟨fr 95 g7 [(5, vb false)], [bG a2, .cells 3 [i6 a3], .cells 89 [(.ro (eOp a4 a5 a6))], mIS a7, .cells 94 [.mp 3], yY0, bP a1, bP a1, .cells 48 [i6 x7_0, vi .u64 x7_1, vi .u64 x7_2, vi .u64 x7_3, vi .u64 x7_4, i6 x7_5]]⟩), (6000, .d true)] ++ kH k6) (k6.b (apc q0 (apc (e7 : L47_0_e a1 (a1.right.length : Int) a2 a3 a4 a5 a6 a7 b0 0 = some (.ret, ⟨fr 95 g7 [(5, vb false)], [bG a2, .cells 3 [i6 a3], .cells 89 [(.ro (eOp a4 a5 a6))], mIS a7, .cells 94 [.mp 3], yY0, bP a1, bP a1, .cells 48 [i6 x7_0, vi .u64 x7_1, vi .u64 x7_2, vi .u64 x7_3, vi .u64 x7_4, i6 x7_5]]⟩)) apn)))
    | k1 x7_0 =>
     obtain ⟨g7, e7⟩ := L47_0_run a1 (a1.right.length : Int) a2 a3 a4 a5 a6 a7 (b0, 0) _ h7
     have q7 := (e7 : L47_0_e a1 (a1.right.length : Int) a2 a3 a4 a5 a6 a7 b0 0 = some ((.brk 0), ⟨fr 95 g7 [(3, .ptr 4 0), (4, .ptr 7 0), (7, vs x7_0), (45, ls 6 eSym a1.right)], [bG a2, .cells 3 [i6 a3], .cells 89 [(.ro (eOp a4 a5 a6))], mIS a7, .cells 94 [.mp 3], yY0, bP a1, bP a1]⟩))
     have q8 := (⟨up_row key_int (es := a7) (k := a1.left) (v := x7_0) rfl, rfl⟩ : upA (F47_d0 a2 a3 a4 a5 a6 a7 a1) [1] .false (.mp 3) (i6 a1.left) (vs x7_0) = some [bG a2, .cells 3 [i6 a3], .cells 89 [(.ro (eOp a4 a5 a6))], mIS (mput a1.left x7_0 a7), .cells 94 [.mp 3], yY0, bP a1, bP a1] ∧ ud = ud)
     have k9 := k6.a [(2000, .l (.brk 0) ⟨fr 95 g7 [(3, .ptr 4 0), (4, .ptr 7 0), (7, vs x7_0), (45, ls 6 eSym a1.right)], [bG a2, .cells 3 [i6 a3], .cells 89 [(.ro (eOp a4 a5 a6))], mIS a7, .cells 94 [.mp 3], yY0, bP a1, bP a1]⟩), (82, .v (.tup [(vs (mget b0 a7 a1.left)), (vb (mhas a7 a1.left))]))] (apc q0 (apc q7 (apc q1 apn)))
     apply bi h <;> intro h8 h
     ·
      apply bi h <;> intro h9 h
      ·
       rw [← sj h]
       exact fc ([(84, .d true), (89, .d true), (6000, .d true)] ++ kH k9) (k9.b (av h8 (av h9 apn)))
      ·
       rw [← sj h]
       exact fc ([(84, .d true), (89, .d false), (7094, .r ud [bG a2, .cells 3 [i6 a3], .cells 89 [(.ro (eOp a4 a5 a6))], mIS (mput a1.left x7_0 a7), .cells 94 [.mp 3], yY0, bP a1, bP a1]), (6000, .d true)] ++ kH k9) (k9.b (av h8 (av h9 (apc q8 apn))))
     ·
      rw [← sj h]
      exact fc ([(84, .d false), (7094, .r ud [bG a2, .cells 3 [i6 a3], .cells 89 [(.ro (eOp a4 a5 a6))], mIS (mput a1.left x7_0 a7), .cells 94 [.mp 3], yY0, bP a1, bP a1]), (6000, .d true)] ++ kH k9) (k9.b (av h8 (apc q8 apn)))
inductive E_L46_0_4 where
  | k0 (x0 : Bool) (x1 : List (Int × ByteArray))
section
variable (a1 : GramD) (a2 : List Int) (a3 : List Bool) (a4 : Int) (a5 : GramD) (a6 : Int)
abbrev L46_0_4_p (l : List AB) : List AB := bG a5 :: .cells 3 [i6 a6] :: .cells 89 [(.ro (eOp a1 a2 a3))] :: l
def L46_0_4 (v1 : Bool) (v2 : Int) (v3 : List (Int × ByteArray)) : Option (E_L46_0_4 ⊕ (Bool × Int × (List (Int × ByteArray)))) :=
  (bif (decide (v2 < a4)) then ((getI a1.prods v2).bind fun x2 => ((F54 x2).bind fun x3 => (bif x3 then ((F47 x2 a6 a2 v3).bind fun r5 => match r5 with | .k0 x5_0 x5_1 => (bif x5_0 then (some (.inr (true, (IntKind.wrap .i64 (v2 + 1)), x5_1))) else (some (.inr (v1, (IntKind.wrap .i64 (v2 + 1)), x5_1)))) | .k1 x5_0 x5_1 x5_2 x5_3 x5_4 x5_5 => (some (.inr (v1, (IntKind.wrap .i64 (v2 + 1)), v3)))) else (some (.inr (v1, (IntKind.wrap .i64 (v2 + 1)), v3)))))) else (some (.inl (.k0 v1 v3))))
def L46_0_4_s (v1 : Bool) (v2 : Int) (v3 : List (Int × ByteArray)) : St := ⟨fr 27 ug [(0, (.ro (eOp a1 a2 a3))), (1, (.fn 47 [.ptr 2 0, .ptr 1 0, .ptr 4 0])), (4, vb v1), (11, ls 7 eProd a1.prods), (12, i6 a4), (13, i6 v2)], (L46_0_4_p a1 a2 a3 a5 a6 [mIS v3, .cells 94 [.mp 3]])⟩
theorem L46_0_4_k (v1 : Bool) (v2 : Int) (v3 : List (Int × ByteArray)) : okT 5 (L46_0_4_s a1 a2 a3 a4 a5 a6 v1 v2 v3).h = true := (okT_of rfl (ac (ac (ac (abl_cons (abl_map (fun _ => rfl) (fun _ => rfl)) (ac rfl))))))
abbrev L46_0_4_e (v1 : Bool) (v2 : Int) (v3 : List (Int × ByteArray)) := evH prg 5 [0, 1, 4, 11, 12, 13] ir46_l0 (L46_0_4_s a1 a2 a3 a4 a5 a6 v1 v2 v3)
def L46_0_4_x (e : E_L46_0_4) (r : Option (Out × St)) : Prop := match e with | .k0 x0 x1 => ∃ g, r = some ((.brk 2), ⟨fr 27 g [(0, (.ro (eOp a1 a2 a3))), (1, (.fn 47 [.ptr 2 0, .ptr 1 0, .ptr 4 0])), (4, vb x0), (11, ls 7 eProd a1.prods)], (L46_0_4_p a1 a2 a3 a5 a6 [mIS x1, .cells 94 [.mp 3]])⟩)
abbrev L46_0_4_d0 (v3 : List (Int × ByteArray)) (x2 : ProdD) : List AB := (L46_0_4_p a1 a2 a3 a5 a6 [mIS v3, .cells 94 [.mp 3], yY0, bP x2])
theorem L46_0_4_ok (v1 : Bool) (v2 : Int) (v3 : List (Int × ByteArray)) {r : E_L46_0_4 ⊕ (Bool × Int × (List (Int × ByteArray)))} (h : L46_0_4 a1 a2 a4 a6 v1 v2 v3 = some r) : OkR (fun e => L46_0_4_x a1 a2 a3 a5 a6 e (L46_0_4_e a1 a2 a3 a4 a5 a6 v1 v2 v3)) (fun s => L46_0_4_e a1 a2 a3 a4 a5 a6 v1 v2 v3 = L46_0_4_e a1 a2 a3 a4 a5 a6 s.1 s.2.1 s.2.2) r := by
 unfold L46_0_4 at h
 have q0 := (L46_0_4_k a1 a2 a3 a4 a5 a6 v1 (w6 (v2 + 1)) v3)
 apply bi h <;> intro h1 h
 ·
  apply bn h; intro x2 h2 h
  have k1 := ka [(14, .d true), (15, .v (.ro (eProd x2)))] (av h1 (apc (ig eProd 7 .i64 h2) apn))
  apply bn h; intro x3 h3 h
  apply bi h <;> intro h4 h
  ·
   have q2 := ((((F54_ok x2 h3).cp rfl _).trans (congrArg (fun z => some (vb z)) h4)) : CP prg 54 [aP x2] (L46_0_4_d0 a1 a2 a3 a5 a6 v3 x2) = some (vb true))
   apply bn h; intro r5 h5 h
   cases r5 with
   | k0 x5_0 x5_1 =>
    apply bi h <;> intro h6 h
    ·
     rw [← sj h]
     exact rn ([(18, .v (vb true)), (22, .r (vb true) (L46_0_4_p a1 a2 a3 a5 a6 [mIS x5_1, .cells 94 [.mp 3], yY0, bP x2, bP x2])), (6000, .d true)] ++ kH k1) (k1.b (apc q2 (apc (((F47_ok x2 a5 a6 a1 a2 a3 v3 h5).trans (congrArg (fun z => some (vb z, ((L46_0_4_p a1 a2 a3 a5 a6 [mIS x5_1, .cells 94 [.mp 3], yY0, bP x2, bP x2]) : List AB))) h6)) : CS prg 47 [aP x2, .ptr 2 0, .ptr 1 0, .ptr 4 0] (L46_0_4_d0 a1 a2 a3 a5 a6 v3 x2) = some (vb true, (L46_0_4_p a1 a2 a3 a5 a6 [mIS x5_1, .cells 94 [.mp 3], yY0, bP x2, bP x2]))) (apc (L46_0_4_k a1 a2 a3 a4 a5 a6 true (w6 (v2 + 1)) x5_1) apn))))
    ·
     rw [← sj h]
     exact rn ([(18, .v (vb true)), (22, .r (vb false) (L46_0_4_p a1 a2 a3 a5 a6 [mIS x5_1, .cells 94 [.mp 3], yY0, bP x2, bP x2])), (6000, .d true)] ++ kH k1) (k1.b (apc q2 (apc (((F47_ok x2 a5 a6 a1 a2 a3 v3 h5).trans (congrArg (fun z => some (vb z, ((L46_0_4_p a1 a2 a3 a5 a6 [mIS x5_1, .cells 94 [.mp 3], yY0, bP x2, bP x2]) : List AB))) h6)) : CS prg 47 [aP x2, .ptr 2 0, .ptr 1 0, .ptr 4 0] (L46_0_4_d0 a1 a2 a3 a5 a6 v3 x2) = some (vb false, (L46_0_4_p a1 a2 a3 a5 a6 [mIS x5_1, .cells 94 [.mp 3], yY0, bP x2, bP x2]))) (apc (L46_0_4_k a1 a2 a3 a4 a5 a6 v1 (w6 (v2 + 1)) x5_1) apn))))
   | k1 x5_0 x5_1 x5_2 x5_3 x5_4 x5_5 =>
    rw [← sj h]
    exact rn ([(18, .v (vb true)), (22, .r (vb false) (L46_0_4_p a1 a2 a3 a5 a6 [mIS v3, .cells 94 [.mp 3], yY0, bP x2, bP x2, .cells 48 [i6 x5_0, vi .u64 x5_1, vi .u64 x5_2, vi .u64 x5_3, vi .u64 x5_4, i6 x5_5]])), (6000, .d true)] ++ kH k1) (k1.b (apc q2 (apc ((F47_ok x2 a5 a6 a1 a2 a3 v3 h5) : CS prg 47 [aP x2, .ptr 2 0, .ptr 1 0, .ptr 4 0] (L46_0_4_d0 a1 a2 a3 a5 a6 v3 x2) = some ((vb false), (L46_0_4_p a1 a2 a3 a5 a6 [mIS v3, .cells 94 [.mp 3], yY0, bP x2, bP x2, .cells 48 [i6 x5_0, vi .u64 x5_1, vi .u64 x5_2, vi .u64 x5_3, vi .u64 x5_4, i6 x5_5]]))) (apc q0 apn))))
  ·
   rw [← sj h]
   exact rn ([(18, .v (vb false)), (6000, .d true)] ++ kH k1) (k1.b (apc ((((F54_ok x2 h3).cp rfl _).trans (congrArg (fun z => some (vb z)) h4)) : CP prg 54 [aP x2] (L46_0_4_d0 a1 a2 a3 a5 a6 v3 x2) = some (vb false)) (apc q0 apn)))
 ·
  rw [← sj h]
  exact xb [(14, .d false), (6000, .d true)] (av h1 apn)
theorem L46_0_4_run (s0 : Bool × Int × (List (Int × ByteArray))) (e : E_L46_0_4) (h : runL (fun s => L46_0_4 a1 a2 a4 a6 s.1 s.2.1 s.2.2) s0 = some e) : L46_0_4_x a1 a2 a3 a5 a6 e (L46_0_4_e a1 a2 a3 a4 a5 a6 s0.1 s0.2.1 s0.2.2) := by
  have q := @loop_sound' (Bool × Int × (List (Int × ByteArray))) E_L46_0_4 (fun s => L46_0_4 a1 a2 a4 a6 s.1 s.2.1 s.2.2) (fun s => L46_0_4_e a1 a2 a3 a4 a5 a6 s.1 s.2.1 s.2.2) (L46_0_4_x a1 a2 a3 a5 a6) (fun s r h => L46_0_4_ok a1 a2 a3 a4 a5 a6 s.1 s.2.1 s.2.2 h) s0 e h
  exact q
end
inductive E_L46_1_2 where
  | k0 (x0 : List (Int × ByteArray))
section
variable (a1 : GramD) (a2 : List Int) (a3 : List Bool) (a4 : GramD) (a5 : Int)
abbrev L46_1_2_p (l : List AB) : List AB := bG a4 :: .cells 3 [i6 a5] :: .cells 89 [(.ro (eOp a1 a2 a3))] :: l
def L46_1_2 (v1 : List (Int × ByteArray)) : Option (E_L46_1_2 ⊕ ((List (Int × ByteArray)))) :=
  ((runL (fun s => L46_0_4 a1 a2 (a1.prods.length : Int) a5 s.1 s.2.1 s.2.2) (false, 0, v1)).bind fun r1 => match r1 with | .k0 x1_0 x1_1 => (bif x1_0 then (some (.inr (x1_1))) else (some (.inl (.k0 x1_1)))))
def L46_1_2_s (v1 : List (Int × ByteArray)) : St := ⟨fr 27 ug [(0, (.ro (eOp a1 a2 a3))), (1, (.fn 47 [.ptr 2 0, .ptr 1 0, .ptr 4 0]))], (L46_1_2_p a1 a2 a3 a4 a5 [mIS v1, .cells 94 [.mp 3]])⟩
theorem L46_1_2_k (v1 : List (Int × ByteArray)) : okT 5 (L46_1_2_s a1 a2 a3 a4 a5 v1).h = true := (okT_of rfl (ac (ac (ac (abl_cons (abl_map (fun _ => rfl) (fun _ => rfl)) (ac rfl))))))
abbrev L46_1_2_e (v1 : List (Int × ByteArray)) := evH prg 5 [0, 1] ir46_l1 (L46_1_2_s a1 a2 a3 a4 a5 v1)
def L46_1_2_x (e : E_L46_1_2) (r : Option (Out × St)) : Prop := match e with | .k0 x0 => ∃ g, r = some ((.brk 0), ⟨fr 27 g [(0, (.ro (eOp a1 a2 a3))), (1, (.fn 47 [.ptr 2 0, .ptr 1 0, .ptr 4 0]))], (L46_1_2_p a1 a2 a3 a4 a5 [mIS x0, .cells 94 [.mp 3]])⟩)
abbrev L46_1_2_d0 (g1 : Nat → AV) (x1_0 : Bool) (x1_1 : List (Int × ByteArray)) : St := ⟨fr 27 g1 [(0, (.ro (eOp a1 a2 a3))), (1, (.fn 47 [.ptr 2 0, .ptr 1 0, .ptr 4 0])), (4, vb x1_0), (11, ls 7 eProd a1.prods)], (L46_1_2_p a1 a2 a3 a4 a5 [mIS x1_1, .cells 94 [.mp 3]])⟩
theorem L46_1_2_ok (v1 : List (Int × ByteArray)) {r : E_L46_1_2 ⊕ ((List (Int × ByteArray)))} (h : L46_1_2 a1 a2 a5 v1 = some r) : OkR (fun e => L46_1_2_x a1 a2 a3 a4 a5 e (L46_1_2_e a1 a2 a3 a4 a5 v1)) (fun s => L46_1_2_e a1 a2 a3 a4 a5 v1 = L46_1_2_e a1 a2 a3 a4 a5 s) r := by
 unfold L46_1_2 at h
 have q0 := (L46_0_4_k a1 a2 a3 (lP a1) a4 a5 false 0 v1)
 have k1 := ka [(12, .v (i6 (lP a1)))] (apc (lg a1.prods eProd 7) apn)
 apply bn h; intro r1 h1 h
 cases r1 with
 | k0 x1_0 x1_1 =>
  obtain ⟨g1, e1⟩ := L46_0_4_run a1 a2 a3 (lP a1) a4 a5 (false, 0, v1) _ h1
  have q2 := (e1 : L46_0_4_e a1 a2 a3 (lP a1) a4 a5 false 0 v1 = some ((.brk 2), L46_1_2_d0 a1 a2 a3 a4 a5 g1 x1_0 x1_1))
  have k3 := k1.a [(2002, .l (.brk 2) (L46_1_2_d0 a1 a2 a3 a4 a5 g1 x1_0 x1_1))] (apc q0 (apc q2 apn))
  apply bi h <;> intro h2 h
  ·
   rw [← sj h]
   exact rn ([(25, .d true), (6000, .d true)] ++ kH k3) (k3.b (av h2 (apc (L46_1_2_k a1 a2 a3 a4 a5 x1_1) apn)))
  ·
   rw [← sj h]
   exact xb ([(25, .d false), (6000, .d true)] ++ kH k3) (k3.b (av h2 apn))
theorem L46_1_2_run (s0 : (List (Int × ByteArray))) (e : E_L46_1_2) (h : runL (fun s => L46_1_2 a1 a2 a5 s) s0 = some e) : L46_1_2_x a1 a2 a3 a4 a5 e (L46_1_2_e a1 a2 a3 a4 a5 s0) := by
  have q := @loop_sound' ((List (Int × ByteArray))) E_L46_1_2 (fun s => L46_1_2 a1 a2 a5 s) (fun s => L46_1_2_e a1 a2 a3 a4 a5 s) (L46_1_2_x a1 a2 a3 a4 a5) (fun s r h => L46_1_2_ok a1 a2 a3 a4 a5 s h) s0 e h
  exact q
end
inductive E_L46_2_4 where
  | k0 (x0 : List (Int × ByteArray))
section
variable (a1 : GramD) (a2 : List Int) (a3 : List Bool) (a4 : GramD) (a5 : Int)
abbrev L46_2_4_p (l : List AB) : List AB := bG a4 :: .cells 3 [i6 a5] :: .cells 89 [(.ro (eOp a1 a2 a3))] :: l
def L46_2_4 : Option (E_L46_2_4 ⊕ (Unit)) :=
  ((runL (fun s => L46_1_2 a1 a2 a5 s) []).bind fun r1 => match r1 with | .k0 x1_0 => (some (.inl (.k0 x1_0))))
def L46_2_4_s : St := ⟨fr 27 ug [(0, (.ro (eOp a1 a2 a3))), (1, (.fn 47 [.ptr 2 0, .ptr 1 0, .ptr 4 0]))], (L46_2_4_p a1 a2 a3 a4 a5 [.map [], .cells 94 [.mp 3]])⟩
theorem L46_2_4_k : okT 5 (L46_2_4_s a1 a2 a3 a4 a5).h = true := (okT_of rfl (ac (ac (ac (ac (ac rfl))))))
abbrev L46_2_4_e := evH prg 5 [0, 1] ir46_l2 (L46_2_4_s a1 a2 a3 a4 a5)
def L46_2_4_x (e : E_L46_2_4) (r : Option (Out × St)) : Prop := match e with | .k0 x0 => ∃ g, r = some ((.brk 2000000), ⟨fr 27 g [], (L46_2_4_p a1 a2 a3 a4 a5 [mIS x0, .cells 94 [.mp 3]])⟩)
abbrev L46_2_4_d0 (g1 : Nat → AV) (x1_0 : List (Int × ByteArray)) : St := ⟨fr 27 g1 [(0, (.ro (eOp a1 a2 a3))), (1, (.fn 47 [.ptr 2 0, .ptr 1 0, .ptr 4 0]))], (L46_2_4_p a1 a2 a3 a4 a5 [mIS x1_0, .cells 94 [.mp 3]])⟩
theorem L46_2_4_ok {r : E_L46_2_4 ⊕ (Unit)} (h : L46_2_4 a1 a2 a5 = some r) : OkR (fun e => L46_2_4_x a1 a2 a3 a4 a5 e (L46_2_4_e a1 a2 a3 a4 a5)) (fun s => L46_2_4_e a1 a2 a3 a4 a5 = L46_2_4_e a1 a2 a3 a4 a5) r := by
 unfold L46_2_4 at h
 apply bn h; intro r1 h1 h
 cases r1 with
 | k0 x1_0 =>
  obtain ⟨g1, e1⟩ := L46_1_2_run a1 a2 a3 a4 a5 [] _ h1
  rw [← sj h]
  exact xb [(2000, .l (.brk 0) (L46_2_4_d0 a1 a2 a3 a4 a5 g1 x1_0)), (6000, .d true)] (apc (L46_1_2_k a1 a2 a3 a4 a5 ([])) (apc (e1 : L46_1_2_e a1 a2 a3 a4 a5 ([]) = some ((.brk 0), L46_2_4_d0 a1 a2 a3 a4 a5 g1 x1_0)) apn))
theorem L46_2_4_run (s0 : Unit) (e : E_L46_2_4) (h : runL (fun s => L46_2_4 a1 a2 a5) s0 = some e) : L46_2_4_x a1 a2 a3 a4 a5 e (L46_2_4_e a1 a2 a3 a4 a5) := by
  have q := @loop_sound' (Unit) E_L46_2_4 (fun s => L46_2_4 a1 a2 a5) (fun s => L46_2_4_e a1 a2 a3 a4 a5) (L46_2_4_x a1 a2 a3 a4 a5) (fun s r h => L46_2_4_ok a1 a2 a3 a4 a5 h) s0 e h
  exact q
end
def F46_2_v (a1 : GramD) (a2 : List Int) (a3 : List Bool) (a4 : GramD) (a5 : Int) (x0 : (List (Int × ByteArray))) : AV := (.tup [])
def F46_2_h (a1 : GramD) (a2 : List Int) (a3 : List Bool) (a4 : GramD) (a5 : Int) (x0 : (List (Int × ByteArray))) : List AB := [bG a4, .cells 3 [i6 a5], .cells 89 [(.ro (eOp a1 a2 a3))], mIS x0, .cells 94 [.mp 3]]
def F46_2 (a1 : GramD) (a2 : List Int) (a5 : Int) : Option (List (Int × ByteArray)) :=
  ((runL (fun s => L46_2_4 a1 a2 a5) ()).bind fun r1 => match r1 with | .k0 x1_0 => (some x1_0))
abbrev F46_2_d0 (g1 : Nat → AV) (a4 : GramD) (a5 : Int) (a1 : GramD) (a2 : List Int) (a3 : List Bool) (x1_0 : List (Int × ByteArray)) : St := ⟨fr 27 g1 [], [bG a4, .cells 3 [i6 a5], .cells 89 [(.ro (eOp a1 a2 a3))], mIS x1_0, .cells 94 [.mp 3]]⟩
theorem F46_2_ok (a1 : GramD) (a2 : List Int) (a3 : List Bool) (a4 : GramD) (a5 : Int) {r : (List (Int × ByteArray))} (h : F46_2 a1 a2 a5 = some r) : CS prg 46 [(.ro (eOp a1 a2 a3)), (.fn 47 [.ptr 2 0, .ptr 1 0, .ptr 4 0])] [bG a4, .cells 3 [i6 a5], .cells 89 [(.ro (eOp a1 a2 a3))], .map [], .cells 94 [.mp 3]] = some (F46_2_v a1 a2 a3 a4 a5 r, F46_2_h a1 a2 a3 a4 a5 r) := by
 unfold F46_2 at h
 apply bn h; intro r1 h1 h
 cases r1 with
 | k0 x1_0 =>
  obtain ⟨g1, e1⟩ := L46_2_4_run a1 a2 a3 a4 a5 () _ h1
  rw [← sj h]
  exact fc [(2002000, .l (.brk 2000000) (F46_2_d0 g1 a4 a5 a1 a2 a3 x1_0)), (6000, .d true)] (apc (L46_2_4_k a1 a2 a3 a4 a5) (apc (e1 : L46_2_4_e a1 a2 a3 a4 a5 = some ((.brk 2000000), F46_2_d0 g1 a4 a5 a1 a2 a3 x1_0)) apn))
inductive R_F14 where
  | k0 (x0 : ByteArray) (x1 : Int)
def F14_v (a1 : GramD) (a2 : Int) (r : R_F14) : AV := match r with | .k0 x0 x1 => (.tup [vs x0, i6 x1])
def F14 (a1 : GramD) (a2 : Int) : Option R_F14 :=
  ((F45 a1).bind fun r1 => match r1 with | .k0 x1_0 => (bif (x1_0 != 0) then (some (.k0 (⟨([] : List UInt8).toArray⟩ : ByteArray) x1_0)) else (bif (decide (a2 < 0)) then (some (.k0 (⟨([] : List UInt8).toArray⟩ : ByteArray) 4)) else (bif (decide (a2 ≥ (a1.sorts.length : Int))) then (some (.k0 (⟨([] : List UInt8).toArray⟩ : ByteArray) 4)) else none))) | .k1 x1_0 x1_1 x1_2 x1_3 x1_4 x1_5 x1_6 => (bif (decide (a2 < 0)) then (some (.k0 (⟨([] : List UInt8).toArray⟩ : ByteArray) 4)) else (bif (decide (a2 ≥ (a1.sorts.length : Int))) then (some (.k0 (⟨([] : List UInt8).toArray⟩ : ByteArray) 4)) else ((getI x1_5 a2).bind fun x4 => (bif (decide (x4 < 0)) then (some (.k0 (⟨([] : List UInt8).toArray⟩ : ByteArray) 161)) else (bif (decide (x4 > 1048576)) then (some (.k0 (⟨([] : List UInt8).toArray⟩ : ByteArray) 3)) else ((F46_2 (⟨x1_0, x1_1, x1_2, x1_3, x1_4⟩ : GramD) x1_5 a2).bind fun x7 => (some (.k0 (mget (⟨([] : List UInt8).toArray⟩ : ByteArray) x7 a2) 0)))))))))
theorem F14_ok (a1 : GramD) (a2 : Int) {r : R_F14} (h : F14 a1 a2 = some r) : PR1 prg 14 [aG a1, i6 a2] (F14_v a1 a2 r) := by
 unfold F14 at h
 apply bn h; intro r1 h1 h
 cases r1 with
 | k0 x1_0 =>
  have q0 := (((F45_ok a1 h1).cp rfl _) : CP prg 45 [aG a1] [bG a1, .cells 3 [i6 a2]] = some (.tup [(.p (.val (.pointer .none))), i6 x1_0]))
  have k1 := ka [(11, .v (.tup [(.p (.val (.pointer .none))), i6 x1_0]))] (apc q0 apn)
  apply bi h <;> intro h2 h
  ·
   rw [← sj h]
   exact fq ([(16, .d true)] ++ kH k1) (k1.b (av h2 apn))
  ·
   apply bi h <;> intro h3 h
   ·
    rw [← sj h]
    exact fq ([(16, .d false), (20, .d true)] ++ kH k1) (k1.b (av h2 (av h3 apn)))
   ·
    have k2 := k1.a [(16, .d false), (20, .d false), (25, .v (i6 (lS a1)))] (av h2 (av h3 (apc (lg a1.sorts eStr 1) apn)))
    apply bi h <;> intro h4 h
    ·
     rw [← sj h]
     exact fq ([(26, .d true)] ++ kH k2) (k2.b (av h4 apn))
    ·
     cases h
 | k1 x1_0 x1_1 x1_2 x1_3 x1_4 x1_5 x1_6 =>
  have q3 := (((F45_ok a1 h1).cp rfl _) : CP prg 45 [aG a1] [bG a1, .cells 3 [i6 a2]] = some (.tup [(.ro [.lst 1 (x1_0.map eStr), .lst 7 (x1_1.map eProd), .val (.int .i64 x1_2), .lst 3 (x1_3.map eForb), .lst 5 (x1_4.map eFoll), .lst 1 (x1_5.map eI64), .lst 1 (x1_6.map eBool)]), i6 0]))
  have k4 := ka [(11, .v (.tup [(.ro [.lst 1 (x1_0.map eStr), .lst 7 (x1_1.map eProd), .val (.int .i64 x1_2), .lst 3 (x1_3.map eForb), .lst 5 (x1_4.map eFoll), .lst 1 (x1_5.map eI64), .lst 1 (x1_6.map eBool)]), i6 0]))] (apc q3 apn)
  apply bi h <;> intro h2 h
  ·
   rw [← sj h]
   exact fq ([(20, .d true)] ++ kH k4) (k4.b (av h2 apn))
  ·
   have k5 := k4.a [(20, .d false), (25, .v (i6 (lS a1)))] (av h2 (apc (lg a1.sorts eStr 1) apn))
   apply bi h <;> intro h3 h
   ·
    rw [← sj h]
    exact fq ([(26, .d true)] ++ kH k5) (k5.b (av h3 apn))
   ·
    apply bn h; intro x4 h4 h
    have k6 := k5.a [(26, .d false), (34, .v (.ro [.val (.int .i64 x4)]))] (av h3 (apc (ig eI64 1 .i64 h4) apn))
    apply bi h <;> intro h5 h
    ·
     rw [← sj h]
     exact fq ([(36, .d true)] ++ kH k6) (k6.b (av h5 apn))
    ·
     have k7 := k6.a [(36, .d false), (43, .v (.ro [.val (.int .i64 x4)]))] (av h5 (apc (ig eI64 1 .i64 h4) apn))
     apply bi h <;> intro h6 h
     ·
      rw [← sj h]
      exact fq ([(45, .d true)] ++ kH k7) (k7.b (av h6 apn))
     ·
      apply bn h; intro x7 h7 h
      rw [← sj h]
      exact fq ([(45, .d false), (49, .r (.tup []) [bG a1, .cells 3 [i6 a2], .cells 89 [(.ro [.lst 1 (x1_0.map eStr), .lst 7 (x1_1.map eProd), .val (.int .i64 x1_2), .lst 3 (x1_3.map eForb), .lst 5 (x1_4.map eFoll), .lst 1 (x1_5.map eI64), .lst 1 (x1_6.map eBool)])], mIS x7, .cells 94 [.mp 3]]), (52, .v (vs (mget b0 x7 a2)))] ++ kH k7) (k7.b (av h6 (apc ((F46_2_ok (⟨x1_0, x1_1, x1_2, x1_3, x1_4⟩ : GramD) x1_5 x1_6 a1 a2 h7) : CS prg 46 [(.ro [.lst 1 (x1_0.map eStr), .lst 7 (x1_1.map eProd), .val (.int .i64 x1_2), .lst 3 (x1_3.map eForb), .lst 5 (x1_4.map eFoll), .lst 1 (x1_5.map eI64), .lst 1 (x1_6.map eBool)]), (.fn 47 [.ptr 2 0, .ptr 1 0, .ptr 4 0])] [bG a1, .cells 3 [i6 a2], .cells 89 [(.ro [.lst 1 (x1_0.map eStr), .lst 7 (x1_1.map eProd), .val (.int .i64 x1_2), .lst 3 (x1_3.map eForb), .lst 5 (x1_4.map eFoll), .lst 1 (x1_5.map eI64), .lst 1 (x1_6.map eBool)])], .map [], .cells 94 [.mp 3]] = some ((.tup []), [bG a1, .cells 3 [i6 a2], .cells 89 [(.ro [.lst 1 (x1_0.map eStr), .lst 7 (x1_1.map eProd), .val (.int .i64 x1_2), .lst 3 (x1_3.map eForb), .lst 5 (x1_4.map eFoll), .lst 1 (x1_5.map eI64), .lst 1 (x1_6.map eBool)])], mIS x7, .cells 94 [.mp 3]])) (apc ((lk_row key_int (es := x7) (k := a2) (z := b0) rfl rfl) : lkA [bG a1, .cells 3 [i6 a2], .cells 89 [(.ro [.lst 1 (x1_0.map eStr), .lst 7 (x1_1.map eProd), .val (.int .i64 x1_2), .lst 3 (x1_3.map eForb), .lst 5 (x1_4.map eFoll), .lst 1 (x1_5.map eI64), .lst 1 (x1_6.map eBool)])], mIS x7, .cells 94 [.mp 3]] [1] .false .false [(.val (.string ⟨([] : List UInt8).toArray⟩))] .false (.mp 3) (i6 a2) = some (vs (mget b0 x7 a2))) apn))))
inductive E_L7_0 where
  | k0
  | k1
section
variable (a1 a2 a3 a4 : List SetD) (a5 a6 : List Int) (a7 a8 : List Bool) (a9 : GramD) (a10 : List ProdD) (a11 : Nat) (a12 : List ProdD)
abbrev L7_0_p (l : List AB) : List AB := .cells 27 [ls 1 eStr a9.sorts, ls 7 eProd a9.prods, i6 a9.start, (.p (.lst 3 ([].map eForb))), ls 5 eFoll a9.follow] :: yS0 :: yP0 :: yF0 :: yW0 :: .cells 27 [ls 1 eStr a9.sorts, ls 7 eProd a10, i6 a9.start, (.p (.lst 3 ([].map eForb))), ls 5 eFoll a9.follow] :: .frz 7 a11 (a12.map eProd) :: l
def L7_0 (v1 : Int) : Option (E_L7_0 ⊕ (Int)) :=
  (bif (decide (v1 < (a1.length : Int))) then ((getI a1 v1).bind fun x2 => ((getI a2 v1).bind fun x3 => (bif (!((x2.a == x3.a) && ((x2.b == x3.b) && ((x2.c == x3.c) && ((x2.d == x3.d) && true))))) then (some (.inl (.k0))) else ((getI a3 v1).bind fun x5 => ((getI a4 v1).bind fun x6 => (bif (!((x5.a == x6.a) && ((x5.b == x6.b) && ((x5.c == x6.c) && ((x5.d == x6.d) && true))))) then (some (.inl (.k0))) else ((getI a5 v1).bind fun x8 => ((getI a6 v1).bind fun x9 => (bif (x8 != x9) then (some (.inl (.k0))) else ((getI a7 v1).bind fun x11 => ((getI a8 v1).bind fun x12 => (bif (!((x11 == x12) && true)) then (some (.inl (.k0))) else (bif (decide (x8 ≥ 0)) then (bif (decide (x8 ≤ 2000)) then ((F14 (⟨a9.sorts, a9.prods, a9.start, [], a9.follow⟩ : GramD) v1).bind fun r16 => match r16 with | .k0 x16_0 x16_1 => ((F14 (⟨a9.sorts, a10, a9.start, [], a9.follow⟩ : GramD) v1).bind fun r17 => match r17 with | .k0 x17_0 x17_1 => (bif (!(x16_0.toList == x17_0.toList)) then (some (.inl (.k0))) else ((F15 x16_1).bind fun x19 => ((F15 x17_1).bind fun x20 => (bif ((IntKind.wrap .i64 (x19 + x20)) != 0) then (some (.inl (.k0))) else (some (.inr ((IntKind.wrap .i64 (v1 + 1))))))))))) else (some (.inr ((IntKind.wrap .i64 (v1 + 1)))))) else (some (.inr ((IntKind.wrap .i64 (v1 + 1)))))))))))))))))) else (some (.inl (.k1))))
def L7_0_s (v1 : Int) : St := ⟨fr 272 ug [(1, .ptr 0 0), (3, .ptr 5 0), (5, ls 4 eSet a1), (7, ls 4 eSet a2), (9, ls 4 eSet a3), (11, ls 4 eSet a4), (13, ls 1 eI64 a5), (15, ls 1 eI64 a6), (17, ls 1 eBool a7), (19, ls 1 eBool a8), (21, i6 v1)], (L7_0_p a9 a10 a11 a12 [])⟩
theorem L7_0_k (v1 : Int) : okT 7 (L7_0_s a1 a2 a3 a4 a5 a6 a7 a8 a9 a10 a11 a12 v1).h = true := (okT_of rfl (ac (ar (ar (ar (ar (ac (ac rfl))))))))
abbrev L7_0_e (v1 : Int) := evH prg 7 [1, 3, 5, 7, 9, 11, 13, 15, 17, 19, 21] ir7_l0 (L7_0_s a1 a2 a3 a4 a5 a6 a7 a8 a9 a10 a11 a12 v1)
def L7_0_x (e : E_L7_0) (r : Option (Out × St)) : Prop := match e with | .k0 => ∃ g y, r = some (.ret, ⟨fr 272 g [(2, vb false)], y⟩) | .k1 => ∃ g, r = some ((.brk 2), ⟨fr 272 g [(1, .ptr 0 0), (3, .ptr 5 0), (5, ls 4 eSet a1), (7, ls 4 eSet a2), (9, ls 4 eSet a3), (11, ls 4 eSet a4), (13, ls 1 eI64 a5), (15, ls 1 eI64 a6), (17, ls 1 eBool a7), (19, ls 1 eBool a8)], (L7_0_p a9 a10 a11 a12 [])⟩)
abbrev L7_0_d0 : List AB := (L7_0_p a9 a10 a11 a12 [])
theorem L7_0_ok (v1 : Int) {r : E_L7_0 ⊕ (Int)} (h : L7_0 a1 a2 a3 a4 a5 a6 a7 a8 a9 a10 v1 = some r) : OkR (fun e => L7_0_x a1 a2 a3 a4 a5 a6 a7 a8 a9 a10 a11 a12 e (L7_0_e a1 a2 a3 a4 a5 a6 a7 a8 a9 a10 a11 a12 v1)) (fun s => L7_0_e a1 a2 a3 a4 a5 a6 a7 a8 a9 a10 a11 a12 v1 = L7_0_e a1 a2 a3 a4 a5 a6 a7 a8 a9 a10 a11 a12 s) r := by
 unfold L7_0 at h
 have q0 := (L7_0_k a1 a2 a3 a4 a5 a6 a7 a8 a9 a10 a11 a12 (w6 (v1 + 1)))
 have k1 := ka [(190, .v (i6 (a1.length : Int)))] (apc (lg a1 eSet 4) apn)
 apply bi h <;> intro h1 h
 ·
  apply bn h; intro x2 h2 h
  have k2 := k1.a [(191, .d true), (196, .v (.ro (eSet x2)))] (av h1 (apc (ig eSet 4 .i64 h2) apn))
  apply bn h; intro x3 h3 h
  apply bi h <;> intro h4 h
  ·
   rw [← sj h]
   exact xy ([(200, .v (.ro (eSet x3))), (202, .d true), (6000, .d true)] ++ kH k2) (k2.b (apc (ig eSet 4 .i64 h3) (av h4 apn)))
  ·
   have k3 := k2.a [(200, .v (.ro (eSet x3))), (202, .d false)] (apc (ig eSet 4 .i64 h3) (av h4 apn))
   apply bn h; intro x5 h5 h
   apply bn h; intro x6 h6 h
   have k4 := k3.a [(206, .v (.ro (eSet x5))), (210, .v (.ro (eSet x6)))] (apc (ig eSet 4 .i64 h5) (apc (ig eSet 4 .i64 h6) apn))
   apply bi h <;> intro h7 h
   ·
    rw [← sj h]
    exact xy ([(212, .d true), (6000, .d true)] ++ kH k4) (k4.b (av h7 apn))
   ·
    apply bn h; intro x8 h8 h
    have k5 := k4.a [(212, .d false), (217, .v (.ro [.val (.int .i64 x8)]))] (av h7 (apc (ig eI64 1 .i64 h8) apn))
    apply bn h; intro x9 h9 h
    have k6 := k5.a [(221, .v (.ro [.val (.int .i64 x9)]))] (apc (ig eI64 1 .i64 h9) apn)
    apply bi h <;> intro h10 h
    ·
     rw [← sj h]
     exact xy ([(223, .d true), (6000, .d true)] ++ kH k6) (k6.b (av h10 apn))
    ·
     apply bn h; intro x11 h11 h
     have k7 := k6.a [(223, .d false), (228, .v (.ro [.val (.bool x11)]))] (av h10 (apc (ig eBool 1 .i64 h11) apn))
     apply bn h; intro x12 h12 h
     have k8 := k7.a [(232, .v (.ro [.val (.bool x12)]))] (apc (ig eBool 1 .i64 h12) apn)
     apply bi h <;> intro h13 h
     ·
      rw [← sj h]
      exact xy ([(234, .d true), (6000, .d true)] ++ kH k8) (k8.b (av h13 apn))
     ·
      have k9 := k8.a [(234, .d false), (238, .v (.ro [.val (.int .i64 x8)]))] (av h13 (apc (ig eI64 1 .i64 h8) apn))
      apply bi h <;> intro h14 h
      ·
       have k10 := k9.a [(240, .d true), (244, .v (.ro [.val (.int .i64 x8)]))] (av h14 (apc (ig eI64 1 .i64 h8) apn))
       apply bi h <;> intro h15 h
       ·
        apply bn h; intro r16 h16 h
        cases r16 with
        | k0 x16_0 x16_1 =>
         have q11 := (((F14_ok (⟨a9.sorts, a9.prods, a9.start, [], a9.follow⟩ : GramD) v1 h16).cp rfl _) : CP prg 14 [(.agg [ls 1 eStr a9.sorts, ls 7 eProd a9.prods, i6 a9.start, (.p (.lst 3 ([].map eForb))), ls 5 eFoll a9.follow]), i6 v1] (L7_0_d0 a9 a10 a11 a12) = some (.tup [vs x16_0, i6 x16_1]))
         have k12 := k10.a [(246, .d true), (251, .v (.tup [vs x16_0, i6 x16_1]))] (av h15 (apc q11 apn))
         apply bn h; intro r17 h17 h
         cases r17 with
         | k0 x17_0 x17_1 =>
          have q13 := (((F14_ok (⟨a9.sorts, a10, a9.start, [], a9.follow⟩ : GramD) v1 h17).cp rfl _) : CP prg 14 [(.agg [ls 1 eStr a9.sorts, ls 7 eProd a10, i6 a9.start, (.p (.lst 3 ([].map eForb))), ls 5 eFoll a9.follow]), i6 v1] (L7_0_d0 a9 a10 a11 a12) = some (.tup [vs x17_0, i6 x17_1]))
          have k14 := k12.a [(257, .v (.tup [vs x17_0, i6 x17_1]))] (apc q13 apn)
          apply bi h <;> intro h18 h
          ·
           rw [← sj h]
           exact xy ([(262, .d true), (6000, .d true)] ++ kH k14) (k14.b (av h18 apn))
          ·
           apply bn h; intro x19 h19 h
           have q15 := (((F15_ok x16_1 h19).cp rfl _) : CP prg 15 [i6 x16_1] (L7_0_d0 a9 a10 a11 a12) = some (i6 x19))
           have k16 := k14.a [(262, .d false), (265, .v (i6 x19))] (av h18 (apc q15 apn))
           apply bn h; intro x20 h20 h
           have q17 := (((F15_ok x17_1 h20).cp rfl _) : CP prg 15 [i6 x17_1] (L7_0_d0 a9 a10 a11 a12) = some (i6 x20))
           apply bi h <;> intro h21 h
           ·
            rw [← sj h]
            exact xy ([(267, .v (i6 x20)), (269, .d true), (6000, .d true)] ++ kH k16) (k16.b (apc q17 (av h21 apn)))
           ·
            rw [← sj h]
            exact rn ([(267, .v (i6 x20)), (269, .d false), (6000, .d true)] ++ kH k16) (k16.b (apc q17 (av h21 (apc q0 apn))))
       ·
        rw [← sj h]
        exact rn ([(246, .d false), (6000, .d true)] ++ kH k10) (k10.b (av h15 (apc q0 apn)))
      ·
       rw [← sj h]
       exact rn ([(240, .d false), (6000, .d true)] ++ kH k9) (k9.b (av h14 (apc q0 apn)))
 ·
  rw [← sj h]
  exact xb ([(191, .d false), (6000, .d true)] ++ kH k1) (k1.b (av h1 apn))
theorem L7_0_run (s0 : Int) (e : E_L7_0) (h : runL (fun s => L7_0 a1 a2 a3 a4 a5 a6 a7 a8 a9 a10 s) s0 = some e) : L7_0_x a1 a2 a3 a4 a5 a6 a7 a8 a9 a10 a11 a12 e (L7_0_e a1 a2 a3 a4 a5 a6 a7 a8 a9 a10 a11 a12 s0) := by
  have q := @loop_sound' (Int) E_L7_0 (fun s => L7_0 a1 a2 a3 a4 a5 a6 a7 a8 a9 a10 s) (fun s => L7_0_e a1 a2 a3 a4 a5 a6 a7 a8 a9 a10 a11 a12 s) (L7_0_x a1 a2 a3 a4 a5 a6 a7 a8 a9 a10 a11 a12) (fun s r h => L7_0_ok a1 a2 a3 a4 a5 a6 a7 a8 a9 a10 a11 a12 s h) s0 e h
  exact q
end
def F7_v (a1 : GramD) (x0 : Bool) : AV := (vb x0)
def F7 (a1 : GramD) : Option Bool :=
  ((F10 (⟨a1.sorts, a1.prods, a1.start, [], a1.follow⟩ : GramD)).bind fun x1 => (bif x1 then ((F11).bind fun x3 => (some x3)) else (bif (decide ((a1.prods.length : Int) > 40)) then ((F11).bind fun x4 => (some x4)) else ((F29 (⟨a1.sorts, a1.prods, a1.start, [], a1.follow⟩ : GramD)).bind fun x4 => ((F15 x4).bind fun x5 => (bif (x5 != 0) then ((F11).bind fun x7 => (some x7)) else ((runL (fun s => L7_1 a1 s.1 s.2.1 s.2.2.1 s.2.2.2) ((IntKind.wrap .i64 ((a1.prods.length : Int) - 1)), 0, 0, [])).bind fun r7 => match r7 with | .k0 x7_0 x7_1 x7_2 => (bif (decide (x7_1 ≤ x7_2.length)) then ((F30 (⟨a1.sorts, a1.prods, a1.start, [], a1.follow⟩ : GramD)).bind fun r9 => match r9 with | .k0 x9_0 x9_1 => ((F30 (⟨a1.sorts, x7_2.take x7_1, a1.start, [], a1.follow⟩ : GramD)).bind fun r10 => match r10 with | .k0 x10_0 x10_1 => ((F32 (⟨a1.sorts, a1.prods, a1.start, [], a1.follow⟩ : GramD)).bind fun r11 => match r11 with | .k0 x11_0 x11_1 => ((F32 (⟨a1.sorts, x7_2.take x7_1, a1.start, [], a1.follow⟩ : GramD)).bind fun r12 => match r12 with | .k0 x12_0 x12_1 => ((F13 (⟨a1.sorts, a1.prods, a1.start, [], a1.follow⟩ : GramD)).bind fun r13 => match r13 with | .k0 x13_0 x13_1 => ((F13 (⟨a1.sorts, x7_2.take x7_1, a1.start, [], a1.follow⟩ : GramD)).bind fun r14 => match r14 with | .k0 x14_0 x14_1 => ((F23 (⟨a1.sorts, a1.prods, a1.start, [], a1.follow⟩ : GramD)).bind fun r15 => match r15 with | .k0 x15_0 x15_1 => ((F23 (⟨a1.sorts, x7_2.take x7_1, a1.start, [], a1.follow⟩ : GramD)).bind fun r16 => match r16 with | .k0 x16_0 x16_1 => ((F15 x9_1).bind fun x17 => ((F15 x10_1).bind fun x18 => ((F15 x11_1).bind fun x19 => ((F15 x12_1).bind fun x20 => ((F15 x13_1).bind fun x21 => ((F15 x14_1).bind fun x22 => ((F15 x15_1).bind fun x23 => ((F15 x16_1).bind fun x24 => (bif ((IntKind.wrap .i64 ((IntKind.wrap .i64 ((IntKind.wrap .i64 ((IntKind.wrap .i64 ((IntKind.wrap .i64 ((IntKind.wrap .i64 ((IntKind.wrap .i64 (x17 + x18)) + x19)) + x20)) + x21)) + x22)) + x23)) + x24)) != 0) then (some false) else (bif ((x9_0.length : Int) != (a1.sorts.length : Int)) then (some false) else (bif ((x10_0.length : Int) != (x9_0.length : Int)) then (some false) else (bif ((x11_0.length : Int) != (x9_0.length : Int)) then (some false) else (bif ((x12_0.length : Int) != (x9_0.length : Int)) then (some false) else (bif ((x13_0.length : Int) != (x9_0.length : Int)) then (some false) else (bif ((x14_0.length : Int) != (x9_0.length : Int)) then (some false) else (bif ((x15_0.length : Int) != (x9_0.length : Int)) then (some false) else (bif ((x16_0.length : Int) != (x9_0.length : Int)) then (some false) else ((runL (fun s => L7_0 x9_0 x10_0 x11_0 x12_0 x13_0 x14_0 x15_0 x16_0 a1 (x7_2.take x7_1) s) 0).bind fun r34 => match r34 with | .k0 => (some false) | .k1 => ((F11).bind fun x35 => (some x35)))))))))))))))))))))))))))) else none))))))))
abbrev F7_d0 (a1 : GramD) : List AB := [.cells 27 [ls 1 eStr a1.sorts, ls 7 eProd a1.prods, i6 a1.start, (.p (.lst 3 ([].map eForb))), ls 5 eFoll a1.follow]]
abbrev F7_d1 (g7 : Nat → AV) (a1 : GramD) (x7_0 x7_1 : Nat) (x7_2 : List ProdD) : St := ⟨fr 272 g7 [(1, .ptr 0 0), (3, .ptr 5 0)], [.cells 27 [ls 1 eStr a1.sorts, ls 7 eProd a1.prods, i6 a1.start, (.p (.lst 3 ([].map eForb))), ls 5 eFoll a1.follow], yS0, yP0, yF0, yW0, .cells 27 [ls 1 eStr a1.sorts, .sl 6 x7_0 7 0 x7_1, i6 a1.start, (.p (.lst 3 ([].map eForb))), ls 5 eFoll a1.follow], yP x7_0 x7_2]⟩
abbrev F7_d2 (a1 : GramD) (x7_2 : List ProdD) (x7_1 x7_0 : Nat) : List AB := [.cells 27 [ls 1 eStr a1.sorts, ls 7 eProd a1.prods, i6 a1.start, (.p (.lst 3 ([].map eForb))), ls 5 eFoll a1.follow], yS0, yP0, yF0, yW0, .cells 27 [ls 1 eStr a1.sorts, (.p (.lst 7 ((x7_2.take x7_1).map eProd))), i6 a1.start, (.p (.lst 3 ([].map eForb))), ls 5 eFoll a1.follow], .frz 7 x7_0 (x7_2.map eProd)]
abbrev F7_d3 (g34 : Nat → AV) (x9_0 x10_0 x11_0 x12_0 : List SetD) (x13_0 x14_0 : List Int) (x15_0 x16_0 : List Bool) (a1 : GramD) (x7_2 : List ProdD) (x7_1 x7_0 : Nat) : St := ⟨fr 272 g34 [(1, .ptr 0 0), (3, .ptr 5 0), (5, ls 4 eSet x9_0), (7, ls 4 eSet x10_0), (9, ls 4 eSet x11_0), (11, ls 4 eSet x12_0), (13, ls 1 eI64 x13_0), (15, ls 1 eI64 x14_0), (17, ls 1 eBool x15_0), (19, ls 1 eBool x16_0)], [.cells 27 [ls 1 eStr a1.sorts, ls 7 eProd a1.prods, i6 a1.start, (.p (.lst 3 ([].map eForb))), ls 5 eFoll a1.follow], yS0, yP0, yF0, yW0, .cells 27 [ls 1 eStr a1.sorts, (.p (.lst 7 ((x7_2.take x7_1).map eProd))), i6 a1.start, (.p (.lst 3 ([].map eForb))), ls 5 eFoll a1.follow], .frz 7 x7_0 (x7_2.map eProd)]⟩
theorem F7_ok (a1 : GramD) {r : Bool} (h : F7 a1 = some r) : PR1 prg 7 [aG a1] (F7_v a1 r) := by
 unfold F7 at h
 have q0 := (L7_1_k a1 (w6 ((lP a1) - 1)) 0 0 ([]))
 apply bn h; intro x1 h1 h
 apply bi h <;> intro h2 h
 ·
  apply bn h; intro x3 h3 h
  rw [← sj h]
  exact fq [(28, .v (vb true)), (41, .v (vb x3))] (apc ((((F10_ok (⟨a1.sorts, a1.prods, a1.start, [], a1.follow⟩ : GramD) h1).cp rfl _).trans (congrArg (fun z => some (vb z)) h2)) : CP prg 10 [(.agg [ls 1 eStr a1.sorts, ls 7 eProd a1.prods, i6 a1.start, (.p (.lst 3 ([].map eForb))), ls 5 eFoll a1.follow])] (F7_d0 a1) = some (vb true)) (apc (((F11_ok  h3).cp rfl _) : CP prg 11 [] (F7_d0 a1) = some (vb x3)) apn))
 ·
  have q1 := ((((F10_ok (⟨a1.sorts, a1.prods, a1.start, [], a1.follow⟩ : GramD) h1).cp rfl _).trans (congrArg (fun z => some (vb z)) h2)) : CP prg 10 [(.agg [ls 1 eStr a1.sorts, ls 7 eProd a1.prods, i6 a1.start, (.p (.lst 3 ([].map eForb))), ls 5 eFoll a1.follow])] (F7_d0 a1) = some (vb false))
  have k2 := ka [(28, .v (vb false)), (32, .v (i6 (lP a1)))] (apc q1 (apc (lg a1.prods eProd 7) apn))
  apply bi h <;> intro h3 h
  ·
   apply bn h; intro x4 h4 h
   rw [← sj h]
   exact fq ([(33, .d true), (41, .v (vb x4))] ++ kH k2) (k2.b (av h3 (apc (((F11_ok  h4).cp rfl _) : CP prg 11 [] (F7_d0 a1) = some (vb x4)) apn)))
  ·
   apply bn h; intro x4 h4 h
   have q3 := (((F29_ok (⟨a1.sorts, a1.prods, a1.start, [], a1.follow⟩ : GramD) h4).cp rfl _) : CP prg 29 [(.agg [ls 1 eStr a1.sorts, ls 7 eProd a1.prods, i6 a1.start, (.p (.lst 3 ([].map eForb))), ls 5 eFoll a1.follow])] (F7_d0 a1) = some (i6 x4))
   have k4 := k2.a [(33, .d false), (37, .v (i6 x4))] (av h3 (apc q3 apn))
   apply bn h; intro x5 h5 h
   have q5 := (((F15_ok x4 h5).cp rfl _) : CP prg 15 [i6 x4] (F7_d0 a1) = some (i6 x5))
   apply bi h <;> intro h6 h
   ·
    apply bn h; intro x7 h7 h
    rw [← sj h]
    exact fq ([(38, .v (i6 x5)), (39, .d true), (41, .v (vb x7))] ++ kH k4) (k4.b (apc q5 (av h6 (apc (((F11_ok  h7).cp rfl _) : CP prg 11 [] (F7_d0 a1) = some (vb x7)) apn))))
   ·
    have k6 := k4.a [(38, .v (i6 x5)), (39, .d false), (46, .v (i6 (lP a1)))] (apc q5 (av h6 (apc (lg a1.prods eProd 7) apn)))
    apply bn h; intro r7 h7 h
    cases r7 with
    | k0 x7_0 x7_1 x7_2 =>
     obtain ⟨g7, e7⟩ := L7_1_run a1 ((w6 ((lP a1) - 1)), 0, 0, []) _ h7
     have q7 := (e7 : L7_1_e a1 (w6 ((lP a1) - 1)) 0 0 ([]) = some ((.brk 0), F7_d1 g7 a1 x7_0 x7_1 x7_2))
     have k8 := k6.a [(2000, .l (.brk 0) (F7_d1 g7 a1 x7_0 x7_1 x7_2))] (apc q0 (apc q7 apn))
     apply bi h <;> intro h8 h
     ·
      have q9 := ((frzS_cel (e := eProd) (xs := x7_2) rfl rfl rfl rfl rfl (by exact (frzL_p (frzL_s (e := eProd) (l := x7_2) rfl h8 (frzL_p (frzL_p (frzL_p frzL_nil)))))) (by kernel_rfl)) : frzS [3] [] [] ⟨[g7 0, .ptr 0 0, g7 2, .ptr 5 0, g7 4, g7 5, g7 6, g7 7, g7 8, g7 9, g7 10, g7 11, g7 12, g7 13, g7 14, g7 15, g7 16, g7 17, g7 18, g7 19, g7 20, g7 21, g7 22, g7 23, g7 24, g7 25, g7 26, g7 27, g7 28, g7 29, g7 30, g7 31, g7 32, g7 33, g7 34, g7 35, g7 36, g7 37, g7 38, g7 39, g7 40, g7 41, g7 42, g7 43, g7 44, g7 45, g7 46, g7 47, g7 48, g7 49, g7 50, g7 51, g7 52, g7 53, g7 54, g7 55, g7 56, g7 57, g7 58, g7 59, g7 60, g7 61, g7 62, g7 63, g7 64, g7 65, g7 66, g7 67, g7 68, g7 69, g7 70, g7 71, g7 72, g7 73, g7 74, g7 75, g7 76, g7 77, g7 78, g7 79, g7 80, g7 81, g7 82, g7 83, g7 84, g7 85, g7 86, g7 87, g7 88, g7 89, g7 90, g7 91, g7 92, g7 93, g7 94, g7 95, g7 96, g7 97, g7 98, g7 99, g7 100, g7 101, g7 102, g7 103, g7 104, g7 105, g7 106, g7 107, g7 108, g7 109, g7 110, g7 111, g7 112, g7 113, g7 114, g7 115, g7 116, g7 117, g7 118, g7 119, g7 120, g7 121, g7 122, g7 123, g7 124, g7 125, g7 126, g7 127, g7 128, g7 129, g7 130, g7 131, g7 132, g7 133, g7 134, g7 135, g7 136, g7 137, g7 138, g7 139, g7 140, g7 141, g7 142, g7 143, g7 144, g7 145, g7 146, g7 147, g7 148, g7 149, g7 150, g7 151, g7 152, g7 153, g7 154, g7 155, g7 156, g7 157, g7 158, g7 159, g7 160, g7 161, g7 162, g7 163, g7 164, g7 165, g7 166, g7 167, g7 168, g7 169, g7 170, g7 171, g7 172, g7 173, g7 174, g7 175, g7 176, g7 177, g7 178, g7 179, g7 180, g7 181, g7 182, g7 183, g7 184, g7 185, g7 186, g7 187, g7 188, g7 189, g7 190, g7 191, g7 192, g7 193, g7 194, g7 195, g7 196, g7 197, g7 198, g7 199, g7 200, g7 201, g7 202, g7 203, g7 204, g7 205, g7 206, g7 207, g7 208, g7 209, g7 210, g7 211, g7 212, g7 213, g7 214, g7 215, g7 216, g7 217, g7 218, g7 219, g7 220, g7 221, g7 222, g7 223, g7 224, g7 225, g7 226, g7 227, g7 228, g7 229, g7 230, g7 231, g7 232, g7 233, g7 234, g7 235, g7 236, g7 237, g7 238, g7 239, g7 240, g7 241, g7 242, g7 243, g7 244, g7 245, g7 246, g7 247, g7 248, g7 249, g7 250, g7 251, g7 252, g7 253, g7 254, g7 255, g7 256, g7 257, g7 258, g7 259, g7 260, g7 261, g7 262, g7 263, g7 264, g7 265, g7 266, g7 267, g7 268, g7 269, g7 270, g7 271], [.cells 27 [ls 1 eStr a1.sorts, ls 7 eProd a1.prods, i6 a1.start, (.p (.lst 3 ([].map eForb))), ls 5 eFoll a1.follow], yS0, yP0, yF0, yW0, .cells 27 [ls 1 eStr a1.sorts, .sl 6 x7_0 7 0 x7_1, i6 a1.start, (.p (.lst 3 ([].map eForb))), ls 5 eFoll a1.follow], yP x7_0 x7_2]⟩ = ⟨[g7 0, .ptr 0 0, g7 2, .ptr 5 0, g7 4, g7 5, g7 6, g7 7, g7 8, g7 9, g7 10, g7 11, g7 12, g7 13, g7 14, g7 15, g7 16, g7 17, g7 18, g7 19, g7 20, g7 21, g7 22, g7 23, g7 24, g7 25, g7 26, g7 27, g7 28, g7 29, g7 30, g7 31, g7 32, g7 33, g7 34, g7 35, g7 36, g7 37, g7 38, g7 39, g7 40, g7 41, g7 42, g7 43, g7 44, g7 45, g7 46, g7 47, g7 48, g7 49, g7 50, g7 51, g7 52, g7 53, g7 54, g7 55, g7 56, g7 57, g7 58, g7 59, g7 60, g7 61, g7 62, g7 63, g7 64, g7 65, g7 66, g7 67, g7 68, g7 69, g7 70, g7 71, g7 72, g7 73, g7 74, g7 75, g7 76, g7 77, g7 78, g7 79, g7 80, g7 81, g7 82, g7 83, g7 84, g7 85, g7 86, g7 87, g7 88, g7 89, g7 90, g7 91, g7 92, g7 93, g7 94, g7 95, g7 96, g7 97, g7 98, g7 99, g7 100, g7 101, g7 102, g7 103, g7 104, g7 105, g7 106, g7 107, g7 108, g7 109, g7 110, g7 111, g7 112, g7 113, g7 114, g7 115, g7 116, g7 117, g7 118, g7 119, g7 120, g7 121, g7 122, g7 123, g7 124, g7 125, g7 126, g7 127, g7 128, g7 129, g7 130, g7 131, g7 132, g7 133, g7 134, g7 135, g7 136, g7 137, g7 138, g7 139, g7 140, g7 141, g7 142, g7 143, g7 144, g7 145, g7 146, g7 147, g7 148, g7 149, g7 150, g7 151, g7 152, g7 153, g7 154, g7 155, g7 156, g7 157, g7 158, g7 159, g7 160, g7 161, g7 162, g7 163, g7 164, g7 165, g7 166, g7 167, g7 168, g7 169, g7 170, g7 171, g7 172, g7 173, g7 174, g7 175, g7 176, g7 177, g7 178, g7 179, g7 180, g7 181, g7 182, g7 183, g7 184, g7 185, g7 186, g7 187, g7 188, g7 189, g7 190, g7 191, g7 192, g7 193, g7 194, g7 195, g7 196, g7 197, g7 198, g7 199, g7 200, g7 201, g7 202, g7 203, g7 204, g7 205, g7 206, g7 207, g7 208, g7 209, g7 210, g7 211, g7 212, g7 213, g7 214, g7 215, g7 216, g7 217, g7 218, g7 219, g7 220, g7 221, g7 222, g7 223, g7 224, g7 225, g7 226, g7 227, g7 228, g7 229, g7 230, g7 231, g7 232, g7 233, g7 234, g7 235, g7 236, g7 237, g7 238, g7 239, g7 240, g7 241, g7 242, g7 243, g7 244, g7 245, g7 246, g7 247, g7 248, g7 249, g7 250, g7 251, g7 252, g7 253, g7 254, g7 255, g7 256, g7 257, g7 258, g7 259, g7 260, g7 261, g7 262, g7 263, g7 264, g7 265, g7 266, g7 267, g7 268, g7 269, g7 270, g7 271], F7_d2 a1 x7_2 x7_1 x7_0⟩)
      have k10 := k8.a [(9003, .l .norm ⟨[g7 0, .ptr 0 0, g7 2, .ptr 5 0, g7 4, g7 5, g7 6, g7 7, g7 8, g7 9, g7 10, g7 11, g7 12, g7 13, g7 14, g7 15, g7 16, g7 17, g7 18, g7 19, g7 20, g7 21, g7 22, g7 23, g7 24, g7 25, g7 26, g7 27, g7 28, g7 29, g7 30, g7 31, g7 32, g7 33, g7 34, g7 35, g7 36, g7 37, g7 38, g7 39, g7 40, g7 41, g7 42, g7 43, g7 44, g7 45, g7 46, g7 47, g7 48, g7 49, g7 50, g7 51, g7 52, g7 53, g7 54, g7 55, g7 56, g7 57, g7 58, g7 59, g7 60, g7 61, g7 62, g7 63, g7 64, g7 65, g7 66, g7 67, g7 68, g7 69, g7 70, g7 71, g7 72, g7 73, g7 74, g7 75, g7 76, g7 77, g7 78, g7 79, g7 80, g7 81, g7 82, g7 83, g7 84, g7 85, g7 86, g7 87, g7 88, g7 89, g7 90, g7 91, g7 92, g7 93, g7 94, g7 95, g7 96, g7 97, g7 98, g7 99, g7 100, g7 101, g7 102, g7 103, g7 104, g7 105, g7 106, g7 107, g7 108, g7 109, g7 110, g7 111, g7 112, g7 113, g7 114, g7 115, g7 116, g7 117, g7 118, g7 119, g7 120, g7 121, g7 122, g7 123, g7 124, g7 125, g7 126, g7 127, g7 128, g7 129, g7 130, g7 131, g7 132, g7 133, g7 134, g7 135, g7 136, g7 137, g7 138, g7 139, g7 140, g7 141, g7 142, g7 143, g7 144, g7 145, g7 146, g7 147, g7 148, g7 149, g7 150, g7 151, g7 152, g7 153, g7 154, g7 155, g7 156, g7 157, g7 158, g7 159, g7 160, g7 161, g7 162, g7 163, g7 164, g7 165, g7 166, g7 167, g7 168, g7 169, g7 170, g7 171, g7 172, g7 173, g7 174, g7 175, g7 176, g7 177, g7 178, g7 179, g7 180, g7 181, g7 182, g7 183, g7 184, g7 185, g7 186, g7 187, g7 188, g7 189, g7 190, g7 191, g7 192, g7 193, g7 194, g7 195, g7 196, g7 197, g7 198, g7 199, g7 200, g7 201, g7 202, g7 203, g7 204, g7 205, g7 206, g7 207, g7 208, g7 209, g7 210, g7 211, g7 212, g7 213, g7 214, g7 215, g7 216, g7 217, g7 218, g7 219, g7 220, g7 221, g7 222, g7 223, g7 224, g7 225, g7 226, g7 227, g7 228, g7 229, g7 230, g7 231, g7 232, g7 233, g7 234, g7 235, g7 236, g7 237, g7 238, g7 239, g7 240, g7 241, g7 242, g7 243, g7 244, g7 245, g7 246, g7 247, g7 248, g7 249, g7 250, g7 251, g7 252, g7 253, g7 254, g7 255, g7 256, g7 257, g7 258, g7 259, g7 260, g7 261, g7 262, g7 263, g7 264, g7 265, g7 266, g7 267, g7 268, g7 269, g7 270, g7 271], F7_d2 a1 x7_2 x7_1 x7_0⟩)] (apc q9 apn)
      apply bn h; intro r9 h9 h
      cases r9 with
      | k0 x9_0 x9_1 =>
       have q11 := (((F30_ok (⟨a1.sorts, a1.prods, a1.start, [], a1.follow⟩ : GramD) h9).cp rfl _) : CP prg 30 [(.agg [ls 1 eStr a1.sorts, ls 7 eProd a1.prods, i6 a1.start, (.p (.lst 3 ([].map eForb))), ls 5 eFoll a1.follow])] (F7_d2 a1 x7_2 x7_1 x7_0) = some (.tup [ls 4 eSet x9_0, i6 x9_1]))
       have k12 := k10.a [(69, .v (.tup [ls 4 eSet x9_0, i6 x9_1]))] (apc q11 apn)
       apply bn h; intro r10 h10 h
       cases r10 with
       | k0 x10_0 x10_1 =>
        have q13 := (((F30_ok (⟨a1.sorts, x7_2.take x7_1, a1.start, [], a1.follow⟩ : GramD) h10).cp rfl _) : CP prg 30 [(.agg [ls 1 eStr a1.sorts, (.p (.lst 7 ((x7_2.take x7_1).map eProd))), i6 a1.start, (.p (.lst 3 ([].map eForb))), ls 5 eFoll a1.follow])] (F7_d2 a1 x7_2 x7_1 x7_0) = some (.tup [ls 4 eSet x10_0, i6 x10_1]))
        have k14 := k12.a [(74, .v (.tup [ls 4 eSet x10_0, i6 x10_1]))] (apc q13 apn)
        apply bn h; intro r11 h11 h
        cases r11 with
        | k0 x11_0 x11_1 =>
         have q15 := (((F32_ok (⟨a1.sorts, a1.prods, a1.start, [], a1.follow⟩ : GramD) h11).cp rfl _) : CP prg 32 [(.agg [ls 1 eStr a1.sorts, ls 7 eProd a1.prods, i6 a1.start, (.p (.lst 3 ([].map eForb))), ls 5 eFoll a1.follow])] (F7_d2 a1 x7_2 x7_1 x7_0) = some (.tup [ls 4 eSet x11_0, i6 x11_1]))
         have k16 := k14.a [(79, .v (.tup [ls 4 eSet x11_0, i6 x11_1]))] (apc q15 apn)
         apply bn h; intro r12 h12 h
         cases r12 with
         | k0 x12_0 x12_1 =>
          have q17 := (((F32_ok (⟨a1.sorts, x7_2.take x7_1, a1.start, [], a1.follow⟩ : GramD) h12).cp rfl _) : CP prg 32 [(.agg [ls 1 eStr a1.sorts, (.p (.lst 7 ((x7_2.take x7_1).map eProd))), i6 a1.start, (.p (.lst 3 ([].map eForb))), ls 5 eFoll a1.follow])] (F7_d2 a1 x7_2 x7_1 x7_0) = some (.tup [ls 4 eSet x12_0, i6 x12_1]))
          have k18 := k16.a [(84, .v (.tup [ls 4 eSet x12_0, i6 x12_1]))] (apc q17 apn)
          apply bn h; intro r13 h13 h
          cases r13 with
          | k0 x13_0 x13_1 =>
           have q19 := (((F13_ok (⟨a1.sorts, a1.prods, a1.start, [], a1.follow⟩ : GramD) h13).cp rfl _) : CP prg 13 [(.agg [ls 1 eStr a1.sorts, ls 7 eProd a1.prods, i6 a1.start, (.p (.lst 3 ([].map eForb))), ls 5 eFoll a1.follow])] (F7_d2 a1 x7_2 x7_1 x7_0) = some (.tup [ls 1 eI64 x13_0, i6 x13_1]))
           have k20 := k18.a [(89, .v (.tup [ls 1 eI64 x13_0, i6 x13_1]))] (apc q19 apn)
           apply bn h; intro r14 h14 h
           cases r14 with
           | k0 x14_0 x14_1 =>
            have q21 := (((F13_ok (⟨a1.sorts, x7_2.take x7_1, a1.start, [], a1.follow⟩ : GramD) h14).cp rfl _) : CP prg 13 [(.agg [ls 1 eStr a1.sorts, (.p (.lst 7 ((x7_2.take x7_1).map eProd))), i6 a1.start, (.p (.lst 3 ([].map eForb))), ls 5 eFoll a1.follow])] (F7_d2 a1 x7_2 x7_1 x7_0) = some (.tup [ls 1 eI64 x14_0, i6 x14_1]))
            have k22 := k20.a [(94, .v (.tup [ls 1 eI64 x14_0, i6 x14_1]))] (apc q21 apn)
            apply bn h; intro r15 h15 h
            cases r15 with
            | k0 x15_0 x15_1 =>
             have q23 := (((F23_ok (⟨a1.sorts, a1.prods, a1.start, [], a1.follow⟩ : GramD) h15).cp rfl _) : CP prg 23 [(.agg [ls 1 eStr a1.sorts, ls 7 eProd a1.prods, i6 a1.start, (.p (.lst 3 ([].map eForb))), ls 5 eFoll a1.follow])] (F7_d2 a1 x7_2 x7_1 x7_0) = some (.tup [ls 1 eBool x15_0, i6 x15_1]))
             have k24 := k22.a [(99, .v (.tup [ls 1 eBool x15_0, i6 x15_1]))] (apc q23 apn)
             apply bn h; intro r16 h16 h
             cases r16 with
             | k0 x16_0 x16_1 =>
              have q25 := (((F23_ok (⟨a1.sorts, x7_2.take x7_1, a1.start, [], a1.follow⟩ : GramD) h16).cp rfl _) : CP prg 23 [(.agg [ls 1 eStr a1.sorts, (.p (.lst 7 ((x7_2.take x7_1).map eProd))), i6 a1.start, (.p (.lst 3 ([].map eForb))), ls 5 eFoll a1.follow])] (F7_d2 a1 x7_2 x7_1 x7_0) = some (.tup [ls 1 eBool x16_0, i6 x16_1]))
              have q26 := (L7_0_k x9_0 x10_0 x11_0 x12_0 x13_0 x14_0 x15_0 x16_0 a1 (x7_2.take x7_1) x7_0 x7_2 0)
              have k27 := k24.a [(104, .v (.tup [ls 1 eBool x16_0, i6 x16_1]))] (apc q25 apn)
              apply bn h; intro x17 h17 h
              have q28 := (((F15_ok x9_1 h17).cp rfl _) : CP prg 15 [i6 x9_1] (F7_d2 a1 x7_2 x7_1 x7_0) = some (i6 x17))
              apply bn h; intro x18 h18 h
              have q29 := (((F15_ok x10_1 h18).cp rfl _) : CP prg 15 [i6 x10_1] (F7_d2 a1 x7_2 x7_1 x7_0) = some (i6 x18))
              have k30 := k27.a [(108, .v (i6 x17)), (110, .v (i6 x18))] (apc q28 (apc q29 apn))
              apply bn h; intro x19 h19 h
              have q31 := (((F15_ok x11_1 h19).cp rfl _) : CP prg 15 [i6 x11_1] (F7_d2 a1 x7_2 x7_1 x7_0) = some (i6 x19))
              apply bn h; intro x20 h20 h
              have q32 := (((F15_ok x12_1 h20).cp rfl _) : CP prg 15 [i6 x12_1] (F7_d2 a1 x7_2 x7_1 x7_0) = some (i6 x20))
              have k33 := k30.a [(113, .v (i6 x19)), (116, .v (i6 x20))] (apc q31 (apc q32 apn))
              apply bn h; intro x21 h21 h
              have q34 := (((F15_ok x13_1 h21).cp rfl _) : CP prg 15 [i6 x13_1] (F7_d2 a1 x7_2 x7_1 x7_0) = some (i6 x21))
              apply bn h; intro x22 h22 h
              have q35 := (((F15_ok x14_1 h22).cp rfl _) : CP prg 15 [i6 x14_1] (F7_d2 a1 x7_2 x7_1 x7_0) = some (i6 x22))
              have k36 := k33.a [(119, .v (i6 x21)), (122, .v (i6 x22))] (apc q34 (apc q35 apn))
              apply bn h; intro x23 h23 h
              have q37 := (((F15_ok x15_1 h23).cp rfl _) : CP prg 15 [i6 x15_1] (F7_d2 a1 x7_2 x7_1 x7_0) = some (i6 x23))
              apply bn h; intro x24 h24 h
              have q38 := (((F15_ok x16_1 h24).cp rfl _) : CP prg 15 [i6 x16_1] (F7_d2 a1 x7_2 x7_1 x7_0) = some (i6 x24))
              have k39 := k36.a [(125, .v (i6 x23)), (128, .v (i6 x24))] (apc q37 (apc q38 apn))
              apply bi h <;> intro h25 h
              ·
               rw [← sj h]
               exact fq ([(130, .d true), (6000, .d true)] ++ kH k39) (k39.b (av h25 apn))
              ·
               have k40 := k39.a [(130, .d false), (133, .v (i6 (x9_0.length : Int))), (136, .v (i6 (lS a1)))] (av h25 (apc (lg x9_0 eSet 4) (apc (lg a1.sorts eStr 1) apn)))
               apply bi h <;> intro h26 h
               ·
                rw [← sj h]
                exact fq ([(137, .d true), (6000, .d true)] ++ kH k40) (k40.b (av h26 apn))
               ·
                have k41 := k40.a [(137, .d false), (141, .v (i6 (x10_0.length : Int))), (143, .v (i6 (x9_0.length : Int)))] (av h26 (apc (lg x10_0 eSet 4) (apc (lg x9_0 eSet 4) apn)))
                apply bi h <;> intro h27 h
                ·
                 rw [← sj h]
                 exact fq ([(144, .d true), (6000, .d true)] ++ kH k41) (k41.b (av h27 apn))
                ·
                 have k42 := k41.a [(144, .d false), (148, .v (i6 (x11_0.length : Int))), (150, .v (i6 (x9_0.length : Int)))] (av h27 (apc (lg x11_0 eSet 4) (apc (lg x9_0 eSet 4) apn)))
                 apply bi h <;> intro h28 h
                 ·
                  rw [← sj h]
                  exact fq ([(151, .d true), (6000, .d true)] ++ kH k42) (k42.b (av h28 apn))
                 ·
                  have k43 := k42.a [(151, .d false), (155, .v (i6 (x12_0.length : Int))), (157, .v (i6 (x9_0.length : Int)))] (av h28 (apc (lg x12_0 eSet 4) (apc (lg x9_0 eSet 4) apn)))
                  apply bi h <;> intro h29 h
                  ·
                   rw [← sj h]
                   exact fq ([(158, .d true), (6000, .d true)] ++ kH k43) (k43.b (av h29 apn))
                  ·
                   have k44 := k43.a [(158, .d false), (162, .v (i6 (x13_0.length : Int))), (164, .v (i6 (x9_0.length : Int)))] (av h29 (apc (lg x13_0 eI64 1) (apc (lg x9_0 eSet 4) apn)))
                   apply bi h <;> intro h30 h
                   ·
                    rw [← sj h]
                    exact fq ([(165, .d true), (6000, .d true)] ++ kH k44) (k44.b (av h30 apn))
                   ·
                    have k45 := k44.a [(165, .d false), (169, .v (i6 (x14_0.length : Int))), (171, .v (i6 (x9_0.length : Int)))] (av h30 (apc (lg x14_0 eI64 1) (apc (lg x9_0 eSet 4) apn)))
                    apply bi h <;> intro h31 h
                    ·
                     rw [← sj h]
                     exact fq ([(172, .d true), (6000, .d true)] ++ kH k45) (k45.b (av h31 apn))
                    ·
                     have k46 := k45.a [(172, .d false), (176, .v (i6 (x15_0.length : Int))), (178, .v (i6 (x9_0.length : Int)))] (av h31 (apc (lg x15_0 eBool 1) (apc (lg x9_0 eSet 4) apn)))
                     apply bi h <;> intro h32 h
                     ·
                      rw [← sj h]
                      exact fq ([(179, .d true), (6000, .d true)] ++ kH k46) (k46.b (av h32 apn))
                     ·
                      have k47 := k46.a [(179, .d false), (183, .v (i6 (x16_0.length : Int))), (185, .v (i6 (x9_0.length : Int)))] (av h32 (apc (lg x16_0 eBool 1) (apc (lg x9_0 eSet 4) apn)))
                      apply bi h <;> intro h33 h
                      ·
                       rw [← sj h]
                       exact fq ([(186, .d true), (6000, .d true)] ++ kH k47) (k47.b (av h33 apn))
                      ·
                       apply bn h; intro r34 h34 h
                       cases r34 with
                       | k0 =>
                        obtain ⟨g34, y34, e34⟩ := L7_0_run x9_0 x10_0 x11_0 x12_0 x13_0 x14_0 x15_0 x16_0 a1 (x7_2.take x7_1) x7_0 x7_2 0 _ h34
                        rw [← sj h]
                        exact fq ([(186, .d false), (2002, .l .ret ⟨fr 272 g34 [(2, vb false)], y34⟩), (6000, .d true)] ++ kH k47) (k47.b (av h33 (apc q26 (apc (e34 : L7_0_e x9_0 x10_0 x11_0 x12_0 x13_0 x14_0 x15_0 x16_0 a1 (x7_2.take x7_1) x7_0 x7_2 0 = some (.ret, ⟨fr 272 g34 [(2, vb false)], y34⟩)) apn))))
                       | k1 =>
                        obtain ⟨g34, e34⟩ := L7_0_run x9_0 x10_0 x11_0 x12_0 x13_0 x14_0 x15_0 x16_0 a1 (x7_2.take x7_1) x7_0 x7_2 0 _ h34
                        apply bn h; intro x35 h35 h
                        rw [← sj h]
                        exact fq ([(186, .d false), (2002, .l (.brk 2) (F7_d3 g34 x9_0 x10_0 x11_0 x12_0 x13_0 x14_0 x15_0 x16_0 a1 x7_2 x7_1 x7_0)), (271, .v (vb x35)), (6000, .d true)] ++ kH k47) (k47.b (av h33 (apc q26 (apc (e34 : L7_0_e x9_0 x10_0 x11_0 x12_0 x13_0 x14_0 x15_0 x16_0 a1 (x7_2.take x7_1) x7_0 x7_2 0 = some ((.brk 2), F7_d3 g34 x9_0 x10_0 x11_0 x12_0 x13_0 x14_0 x15_0 x16_0 a1 x7_2 x7_1 x7_0)) (apc (((F11_ok  h35).cp rfl _) : CP prg 11 [] (F7_d2 a1 x7_2 x7_1 x7_0) = some (vb x35)) apn)))))
     ·
      cases h
end
end Go.Proofs.Tryd
