/- Decompiled by a program: functions as plain data see them, part 1. -/
import Derived.Test.YtpoclajcldnjeaaW6
namespace Go.Proofs.Try
set_option linter.unusedSimpArgs false
set_option linter.unusedVariables false
open Go Go.Vs
noncomputable section
inductive R_F26 where
  | k0 (x0 x1 x2 x3 : Int)
def F26_v (r : R_F26) : AV := match r with | .k0 x0 x1 x2 x3 => (.agg [vi .u64 x0, vi .u64 x1, vi .u64 x2, vi .u64 x3])
def F26 : Option R_F26 :=
  (bif (decide ((Int.tmod 97 64) < 0)) then none else (bif ((IntKind.wrap .u8 (Int.tdiv 97 64)) == 0) then (some (.k0 (IntKind.wrap .u64 (1 * 2 ^ (min (Int.toNat (Int.tmod 97 64)) (IntKind.bits .u64)))) 0 0 0)) else (bif ((IntKind.wrap .u8 (Int.tdiv 97 64)) == 1) then (some (.k0 0 (IntKind.wrap .u64 (1 * 2 ^ (min (Int.toNat (Int.tmod 97 64)) (IntKind.bits .u64)))) 0 0)) else (bif ((IntKind.wrap .u8 (Int.tdiv 97 64)) == 2) then (some (.k0 0 0 (IntKind.wrap .u64 (1 * 2 ^ (min (Int.toNat (Int.tmod 97 64)) (IntKind.bits .u64)))) 0)) else (bif ((IntKind.wrap .u8 (Int.tdiv 97 64)) == 3) then (some (.k0 0 0 0 (IntKind.wrap .u64 (1 * 2 ^ (min (Int.toNat (Int.tmod 97 64)) (IntKind.bits .u64)))))) else none)))))
abbrev F26_c0 : List (Nat × Hint) := [(8, .v (vi .u64 (IntKind.wrap .u64 (1 * 2 ^ (min (Int.toNat (Int.tmod 97 64)) (IntKind.bits .u64))))))]
theorem F26_ok {r : R_F26} (h : F26 = some r) : PR1 prg 26 [vi .u8 97] (F26_v r) := by
 unfold F26 at h
 refine bi h ?_ ?_ <;> intro h1 h
 ·
  cases h
 ·
  have q0 := ((sh_shl (of_decide_eq_false h1)) : binA .shl (vi .u64 1) (vi .u8 (Int.tmod 97 64)) = some (vi .u64 (IntKind.wrap .u64 (1 * 2 ^ (min (Int.toNat (Int.tmod 97 64)) (IntKind.bits .u64))))))
  refine bi h ?_ ?_ <;> intro h2 h
  ·
   rw [← sj h]
   exact fpr (F26_c0 ++ [(9, .v (.ptr 1 0))]) (apc q0 (apc ((ix_lit h2 (fun z => ixP 4 1 (.ptr 1 0) (vi .u8 z)) rfl) : ixP 4 1 (.ptr 1 0) (vi .u8 (IntKind.wrap .u8 (Int.tdiv 97 64))) = some (.ptr 1 0)) apn)) rfl (by kernel_rfl)
  ·
   refine bi h ?_ ?_ <;> intro h3 h
   ·
    rw [← sj h]
    exact fpr (F26_c0 ++ [(9, .v (.ptr 1 1))]) (apc q0 (apc ((ix_lit h3 (fun z => ixP 4 1 (.ptr 1 0) (vi .u8 z)) rfl) : ixP 4 1 (.ptr 1 0) (vi .u8 (IntKind.wrap .u8 (Int.tdiv 97 64))) = some (.ptr 1 1)) apn)) rfl (by kernel_rfl)
   ·
    refine bi h ?_ ?_ <;> intro h4 h
    ·
     rw [← sj h]
     exact fpr (F26_c0 ++ [(9, .v (.ptr 1 2))]) (apc q0 (apc ((ix_lit h4 (fun z => ixP 4 1 (.ptr 1 0) (vi .u8 z)) rfl) : ixP 4 1 (.ptr 1 0) (vi .u8 (IntKind.wrap .u8 (Int.tdiv 97 64))) = some (.ptr 1 2)) apn)) rfl (by kernel_rfl)
    ·
     refine bi h ?_ ?_ <;> intro h5 h
     ·
      rw [← sj h]
      exact fpr (F26_c0 ++ [(9, .v (.ptr 1 3))]) (apc q0 (apc ((ix_lit h5 (fun z => ixP 4 1 (.ptr 1 0) (vi .u8 z)) rfl) : ixP 4 1 (.ptr 1 0) (vi .u8 (IntKind.wrap .u8 (Int.tdiv 97 64))) = some (.ptr 1 3)) apn)) rfl (by kernel_rfl)
     ·
      cases h
inductive E_L6_0 where
  | k0 (x0 : Int) (x1 : List TreeD)
section
variable (a1 a2 a3 a4 a5 : Int)
def L6_0 (v1 v2 : Int) (v3 : List TreeD) : Option (E_L6_0 ⊕ (Int × Int × (List TreeD))) :=
  (bif (decide (v1 < a1)) then (some (.inr ((IntKind.wrap .i64 (v1 + 1)), 0, [TreeD.mk v2 0 v3]))) else (some (.inl (.k0 v2 v3))))
def L6_0_s (v1 v2 : Int) (v3 : List TreeD) : St := ⟨fr 79 ug [(0, i6 a1), (3, .ptr 8 0), (4, .ptr 10 0), (5, i6 v1)], [.row 9 1 0 [[(vs (⟨([83] : List UInt8).toArray⟩ : ByteArray))]], .row 68 6 0 [[i6 1, vi .u64 0, vi .u64 0, vi .u64 0, vi .u64 0, i6 0]], .row 68 6 0 [[i6 0, vi .u64 a2, vi .u64 a3, vi .u64 a4, vi .u64 a5, i6 0]], .row 46 7 0 [[i6 0, .sl 1 0 6 0 1, vs b0, i6 0, vb false, vb false, (i6 (-1))], [i6 0, .sl 2 0 6 0 1, vs b0, i6 0, vb false, vb false, (i6 (-1))]], yS0, yP0, yF0, yW0, .cells 27 [.sl 0 0 1 0 1, .sl 3 0 7 0 2, i6 0, (.p (.lst 3 ([].map eForb))), (.p (.lst 5 ([].map eFoll)))], yT0, .cells 51 [i6 v2, vi .u8 0, (.p (.lst 3 (eTrees v3)))], .frz 3 0 [[.val (.int .i64 (-1)), .val (.int .u8 97), .val (.slice .none 0 0)]]]⟩
abbrev L6_0_e (v1 v2 : Int) (v3 : List TreeD) := evH prg 12 [0, 3, 4, 5, 4000004, 10040203, 10030303, 10030405] ir6_l0 (L6_0_s a1 a2 a3 a4 a5 v1 v2 v3)
def L6_0_x (e : E_L6_0) (r : Option (Out × St)) : Prop := match e with | .k0 x0 x1 => ∃ g, r = some ((.brk 0), ⟨fr 79 g [(0, i6 a1), (3, .ptr 8 0), (4, .ptr 10 0)], [.row 9 1 0 [[(vs (⟨([83] : List UInt8).toArray⟩ : ByteArray))]], .row 68 6 0 [[i6 1, vi .u64 0, vi .u64 0, vi .u64 0, vi .u64 0, i6 0]], .row 68 6 0 [[i6 0, vi .u64 a2, vi .u64 a3, vi .u64 a4, vi .u64 a5, i6 0]], .row 46 7 0 [[i6 0, .sl 1 0 6 0 1, vs b0, i6 0, vb false, vb false, (i6 (-1))], [i6 0, .sl 2 0 6 0 1, vs b0, i6 0, vb false, vb false, (i6 (-1))]], yS0, yP0, yF0, yW0, .cells 27 [.sl 0 0 1 0 1, .sl 3 0 7 0 2, i6 0, (.p (.lst 3 ([].map eForb))), (.p (.lst 5 ([].map eFoll)))], yT0, .cells 51 [i6 x0, vi .u8 0, (.p (.lst 3 (eTrees x1)))], .frz 3 0 [[.val (.int .i64 (-1)), .val (.int .u8 97), .val (.slice .none 0 0)]]]⟩)
abbrev L6_0_d0 (v2 : Int) (v3 : List TreeD) : List AB := [.row 9 1 0 [[(vs (⟨([83] : List UInt8).toArray⟩ : ByteArray))]], .row 68 6 0 [[i6 1, vi .u64 0, vi .u64 0, vi .u64 0, vi .u64 0, i6 0]], .row 68 6 0 [[i6 0, vi .u64 a2, vi .u64 a3, vi .u64 a4, vi .u64 a5, i6 0]], .row 46 7 0 [[i6 0, .sl 1 0 6 0 1, vs b0, i6 0, vb false, vb false, (i6 (-1))], [i6 0, .sl 2 0 6 0 1, vs b0, i6 0, vb false, vb false, (i6 (-1))]], yS0, yP0, yF0, yW0, .cells 27 [.sl 0 0 1 0 1, .sl 3 0 7 0 2, i6 0, (.p (.lst 3 ([].map eForb))), (.p (.lst 5 ([].map eFoll)))], yT0, .cells 51 [i6 0, vi .u8 0, (.p (.lst 3 (eTrees ([TreeD.mk v2 0 v3]))))], .frz 3 0 [[.val (.int .i64 (-1)), .val (.int .u8 97), .val (.slice .none 0 0)]]]
theorem L6_0_ok (v1 v2 : Int) (v3 : List TreeD) {r : E_L6_0 ⊕ (Int × Int × (List TreeD))} (h : L6_0 a1 v1 v2 v3 = some r) : OkR (fun e => L6_0_x a1 a2 a3 a4 a5 e (L6_0_e a1 a2 a3 a4 a5 v1 v2 v3)) (fun s => L6_0_e a1 a2 a3 a4 a5 v1 v2 v3 = L6_0_e a1 a2 a3 a4 a5 s.1 s.2.1 s.2.2) r := by
 unfold L6_0 at h
 refine bi h ?_ ?_ <;> intro h1 h
 ·
  rw [← sj h]
  exact rnd [(34, .d true), (6000, .d true), (6001, .r ud (L6_0_d0 a2 a3 a4 a5 v2 v3))] (av h1 (apc ((frz_of rfl (frz_same rfl (frz_same rfl (frz_same rfl (frz_same rfl (frz_same abl_row (frz_same abl_row (frz_same abl_row (frz_same abl_row (frz_same rfl (frz_same abl_row (frz_con (frz_cel (fzc_p (fzc_p (fzc_s rfl (by kernel_rfl) fzc_nil)))) (frz_same rfl frz_nil))))))))))))) : frzT 12 [.row 9 1 0 [[(vs (⟨([83] : List UInt8).toArray⟩ : ByteArray))]], .row 68 6 0 [[i6 1, vi .u64 0, vi .u64 0, vi .u64 0, vi .u64 0, i6 0]], .row 68 6 0 [[i6 0, vi .u64 a2, vi .u64 a3, vi .u64 a4, vi .u64 a5, i6 0]], .row 46 7 0 [[i6 0, .sl 1 0 6 0 1, vs b0, i6 0, vb false, vb false, (i6 (-1))], [i6 0, .sl 2 0 6 0 1, vs b0, i6 0, vb false, vb false, (i6 (-1))]], yS0, yP0, yF0, yW0, .cells 27 [.sl 0 0 1 0 1, .sl 3 0 7 0 2, i6 0, (.p (.lst 3 ([].map eForb))), (.p (.lst 5 ([].map eFoll)))], yT0, .cells 51 [i6 0, vi .u8 0, .sl 12 0 3 0 1], .frz 3 0 [[.val (.int .i64 (-1)), .val (.int .u8 97), .val (.slice .none 0 0)]], .row 51 3 0 [[i6 v2, vi .u8 0, (.p (.lst 3 (eTrees v3)))]]] = some (L6_0_d0 a2 a3 a4 a5 v2 v3)) apn)) (by kernel_rfl)
 ·
  rw [← sj h]
  exact xbrk [(34, .d false), (6000, .d true)] (av h1 apn) (by kernel_rfl)
theorem L6_0_run (s0 : Int × Int × (List TreeD)) (e : E_L6_0) (h : runL (fun s => L6_0 a1 s.1 s.2.1 s.2.2) s0 = some e) : L6_0_x a1 a2 a3 a4 a5 e (L6_0_e a1 a2 a3 a4 a5 s0.1 s0.2.1 s0.2.2) := by
  have q := @loop_sound' (Int × Int × (List TreeD)) E_L6_0 (fun s => L6_0 a1 s.1 s.2.1 s.2.2) (fun s => L6_0_e a1 a2 a3 a4 a5 s.1 s.2.1 s.2.2) (L6_0_x a1 a2 a3 a4 a5) (fun s r h => L6_0_ok a1 a2 a3 a4 a5 s.1 s.2.1 s.2.2 h) s0 e h
  exact q
end
inductive E_L46_0_3 where
  | k0 (x0 x1 : Nat) (x2 : List AtD)
section
variable (a1 : Int) (a4 : AtD) (a5 : Int) (a6 : TreeD)
def L46_0_3 (v1 v2 : Nat) (v3 : Int) (v4 : List AtD) : Option (E_L46_0_3 ⊕ (Nat × Nat × Int × (List AtD))) :=
  (bif (decide (v3 < a5)) then ((getI a4.kids v3).bind fun x2 => (bif (apOk v2 1 v4.length 48) then (bif (decide (v2 + 1 ≤ v4.length)) then (some (.inr (v1, v2 + 1, (IntKind.wrap .i64 (v3 + 1)), (splice v4 v2 [(⟨x2.prod, x2.byte, x2.kids, (IntKind.wrap .i64 (a4.n + 1))⟩ : AtD)])))) else (some (.inr ((v1 + 1), v2 + 1, (IntKind.wrap .i64 (v3 + 1)), (v4.take v2 ++ [(⟨x2.prod, x2.byte, x2.kids, (IntKind.wrap .i64 (a4.n + 1))⟩ : AtD)]))))) else none)) else (some (.inl (.k0 v1 v2 v4))))
def L46_0_3_s (v1 v2 : Nat) (v3 : Int) (v4 : List AtD) : St := ⟨fr 51 ug [(3, i6 a1), (4, .sl 1 v1 4 0 v2), (5, .ptr 3 0), (35, (.p (.lst 3 (eTrees a4.kids)))), (36, i6 a5), (37, i6 v3)], [.cells 51 ((cT a6).map .p), .row 117 4 v1 (ra eAt v4), yT0, .cells 117 ((eAt a4).map .p)]⟩
abbrev L46_0_3_e (v1 v2 : Nat) (v3 : Int) (v4 : List AtD) := evH prg 4 [3, 4, 5, 35, 36, 37] ir46_l0 (L46_0_3_s a1 a4 a5 a6 v1 v2 v3 v4)
def L46_0_3_x (e : E_L46_0_3) (r : Option (Out × St)) : Prop := match e with | .k0 x0 x1 x2 => ∃ g, r = some ((.brk 2), ⟨fr 51 g [(3, i6 a1), (4, .sl 1 x0 4 0 x1), (5, .ptr 3 0), (35, (.p (.lst 3 (eTrees a4.kids))))], [.cells 51 ((cT a6).map .p), .row 117 4 x0 (ra eAt x2), yT0, .cells 117 ((eAt a4).map .p)]⟩)
abbrev L46_0_3_d0 (v1 : Nat) (v4 : List AtD) (v2 : Nat) (x2 : TreeD) : List AB := [.cells 51 ((cT a6).map .p), .row 117 4 v1 (ra eAt (splice v4 v2 [(⟨x2.prod, x2.byte, x2.kids, (w6 (a4.n + 1))⟩ : AtD)])), yT0, .cells 117 ((eAt a4).map .p), yT0, .cells 51 ((cT x2).map .p), .row 117 4 0 [[i6 x2.prod, vi .u8 x2.byte, (.p (.lst 3 (eTrees x2.kids))), (i6 (w6 (a4.n + 1)))]]]
abbrev L46_0_3_d1 (v1 : Nat) (v4 : List AtD) (x2 : TreeD) : List AB := [.cells 51 ((cT a6).map .p), .row 117 4 v1 (ra eAt v4), yT0, .cells 117 ((eAt a4).map .p), yT0, .cells 51 ((cT x2).map .p), .row 117 4 0 [[i6 x2.prod, vi .u8 x2.byte, (.p (.lst 3 (eTrees x2.kids))), (i6 (w6 (a4.n + 1)))]]]
abbrev L46_0_3_d2 (v1 : Nat) (v4 : List AtD) (v2 : Nat) (x2 : TreeD) : List AB := [.cells 51 ((cT a6).map .p), .row 117 4 (v1 + 1) (ra eAt (v4.take v2 ++ [(⟨x2.prod, x2.byte, x2.kids, (w6 (a4.n + 1))⟩ : AtD)])), yT0, .cells 117 ((eAt a4).map .p), yT0, .cells 51 ((cT x2).map .p), .row 117 4 0 [[i6 x2.prod, vi .u8 x2.byte, (.p (.lst 3 (eTrees x2.kids))), (i6 (w6 (a4.n + 1)))]]]
theorem L46_0_3_ok (v1 v2 : Nat) (v3 : Int) (v4 : List AtD) {r : E_L46_0_3 ⊕ (Nat × Nat × Int × (List AtD))} (h : L46_0_3 a4 a5 v1 v2 v3 v4 = some r) : OkR (fun e => L46_0_3_x a1 a4 a6 e (L46_0_3_e a1 a4 a5 a6 v1 v2 v3 v4)) (fun s => L46_0_3_e a1 a4 a5 a6 v1 v2 v3 v4 = L46_0_3_e a1 a4 a5 a6 s.1 s.2.1 s.2.2.1 s.2.2.2) r := by
 unfold L46_0_3 at h
 refine bi h ?_ ?_ <;> intro h1 h
 ·
  refine bn h fun x2 h2 h => ?_
  have q1 := ((igr tr_map h2) : idxA 3 (.p (.lst 3 (eTrees a4.kids))) (i6 v3) = some (.ro (cT x2)))
  refine bi h ?_ ?_ <;> intro h3 h
  ·
   refine bi h ?_ ?_ <;> intro h4 h
   ·
    rw [← sj h]
    exact rnd [(38, .d true), (39, .v (.ro (cT x2))), (48, .r (.sl 1 v1 4 0 (v2 + 1)) (L46_0_3_d0 a4 a6 v1 v4 v2 x2)), (6000, .d true)] (av h1 (apc q1 (apc ((ap_in (e := eAt) (xs := v4) (news := [(⟨x2.prod, x2.byte, x2.kids, (w6 (a4.n + 1))⟩ : AtD)]) rfl (rows_x (e := eAt) (xs := [(⟨x2.prod, x2.byte, x2.kids, (w6 (a4.n + 1))⟩ : AtD)]) rfl) rfl h3 h4) : appA (L46_0_3_d1 a4 a6 v1 v4 x2) 117 4 48 (.sl 1 v1 4 0 v2) (.sl 6 0 4 0 1) = some ((.sl 1 v1 4 0 (v2 + 1)), L46_0_3_d0 a4 a6 v1 v4 v2 x2)) (apc ((oK (ac (ar (ar (ac rfl))))) : okT 4 (L46_0_3_d0 a4 a6 v1 v4 v2 x2) = true) apn)))) (by kernel_rfl)
   ·
    rw [← sj h]
    exact rnd [(38, .d true), (39, .v (.ro (cT x2))), (48, .r (.sl 1 (v1 + 1) 4 0 (v2 + 1)) (L46_0_3_d2 a4 a6 v1 v4 v2 x2)), (6000, .d true)] (av h1 (apc q1 (apc ((ap_out (e := eAt) (xs := v4) (news := [(⟨x2.prod, x2.byte, x2.kids, (w6 (a4.n + 1))⟩ : AtD)]) rfl (rows_x (e := eAt) (xs := [(⟨x2.prod, x2.byte, x2.kids, (w6 (a4.n + 1))⟩ : AtD)]) rfl) rfl h3 h4) : appA (L46_0_3_d1 a4 a6 v1 v4 x2) 117 4 48 (.sl 1 v1 4 0 v2) (.sl 6 0 4 0 1) = some ((.sl 1 (v1 + 1) 4 0 (v2 + 1)), L46_0_3_d2 a4 a6 v1 v4 v2 x2)) (apc ((oK (ac (ar (ar (ac rfl))))) : okT 4 (L46_0_3_d2 a4 a6 v1 v4 v2 x2) = true) apn)))) (by kernel_rfl)
  ·
   cases h
 ·
  rw [← sj h]
  exact xbrk [(38, .d false), (6000, .d true)] (av h1 apn) (by kernel_rfl)
theorem L46_0_3_run (s0 : Nat × Nat × Int × (List AtD)) (e : E_L46_0_3) (h : runL (fun s => L46_0_3 a4 a5 s.1 s.2.1 s.2.2.1 s.2.2.2) s0 = some e) : L46_0_3_x a1 a4 a6 e (L46_0_3_e a1 a4 a5 a6 s0.1 s0.2.1 s0.2.2.1 s0.2.2.2) := by
  have q := @loop_sound' (Nat × Nat × Int × (List AtD)) E_L46_0_3 (fun s => L46_0_3 a4 a5 s.1 s.2.1 s.2.2.1 s.2.2.2) (fun s => L46_0_3_e a1 a4 a5 a6 s.1 s.2.1 s.2.2.1 s.2.2.2) (L46_0_3_x a1 a4 a6) (fun s r h => L46_0_3_ok a1 a4 a5 a6 s.1 s.2.1 s.2.2.1 s.2.2.2 h) s0 e h
  exact q
end
inductive E_L46_1 where
  | k0 (x0 : Int) (x1 : Nat) (x2 : List AtD)
section
variable (a1 : TreeD)
def L46_1 (v1 : Int) (v2 v3 : Nat) (v4 : List AtD) : Option (E_L46_1 ⊕ (Int × Nat × Nat × (List AtD))) :=
  (bif (decide (((v3 : Nat) : Int) > 0)) then (bif (decide (v1 ≤ 16384)) then ((ixN v3 (IntKind.wrap .i64 (((v3 : Nat) : Int) - 1))).bind fun x3 => ((v4[x3]?).bind fun x4 => (bif (slOk (IntKind.wrap .i64 (((v3 : Nat) : Int) - 1)) v3 v4.length) then ((runL (fun s => L46_0_3 x4 (x4.kids.length : Int) s.1 s.2.1 s.2.2.1 s.2.2.2) (v2, (Int.toNat (IntKind.wrap .i64 (((v3 : Nat) : Int) - 1))), 0, v4)).bind fun r6 => match r6 with | .k0 x6_0 x6_1 x6_2 => (some (.inr ((if v1 < x4.n then x4.n else v1), x6_0, x6_1, x6_2)))) else none))) else (some (.inl (.k0 v1 v2 v4)))) else (some (.inl (.k0 v1 v2 v4))))
def L46_1_s (v1 : Int) (v2 v3 : Nat) (v4 : List AtD) : St := ⟨fr 51 ug [(3, i6 v1), (4, .sl 1 v2 4 0 v3)], [.cells 51 ((cT a1).map .p), .row 117 4 v2 (ra eAt v4)]⟩
abbrev L46_1_e (v1 : Int) (v2 v3 : Nat) (v4 : List AtD) := evH prg 2 [3, 4] ir46_l1 (L46_1_s a1 v1 v2 v3 v4)
def L46_1_x (e : E_L46_1) (r : Option (Out × St)) : Prop := match e with | .k0 x0 x1 x2 => ∃ g, r = some ((.brk 0), ⟨fr 51 g [(3, i6 x0)], [.cells 51 ((cT a1).map .p), .row 117 4 x1 (ra eAt x2)]⟩)
abbrev L46_1_d0 (g6 : Nat → AV) (v1 : Int) (x4 : AtD) (x6_0 x6_1 : Nat) (x6_2 : List AtD) : St := ⟨fr 51 g6 [(3, (i6 (if v1 < x4.n then x4.n else v1))), (4, .sl 1 x6_0 4 0 x6_1), (5, .ptr 3 0), (35, (.p (.lst 3 (eTrees x4.kids))))], [.cells 51 ((cT a1).map .p), .row 117 4 x6_0 (ra eAt x6_2), yT0, .cells 117 ((eAt x4).map .p)]⟩
abbrev L46_1_d1 (v2 : Nat) (v4 : List AtD) (x4 : AtD) : List AB := [.cells 51 ((cT a1).map .p), .row 117 4 v2 (ra eAt v4), yT0, .cells 117 ((eAt x4).map .p)]
theorem L46_1_ok (v1 : Int) (v2 v3 : Nat) (v4 : List AtD) {r : E_L46_1 ⊕ (Int × Nat × Nat × (List AtD))} (h : L46_1 v1 v2 v3 v4 = some r) : OkR (fun e => L46_1_x a1 e (L46_1_e a1 v1 v2 v3 v4)) (fun s => L46_1_e a1 v1 v2 v3 v4 = L46_1_e a1 s.1 s.2.1 s.2.2.1 s.2.2.2) r := by
 unfold L46_1 at h
 refine bi h ?_ ?_ <;> intro h1 h
 ·
  refine bi h ?_ ?_ <;> intro h2 h
  ·
   refine bn h fun x3 h3 h => ?_
   have q2 := ((idx_sl h3) : idxA 4 (.sl 1 v2 4 0 v3) (i6 (w6 (((v3 : Nat) : Int) - 1))) = some (.rp 1 v2 4 x3 0))
   refine bn h fun x4 h4 h => ?_
   have q3 := ((ld_row rfl h4 rfl) : ldA [.cells 51 ((cT a1).map .p), .row 117 4 v2 (ra eAt v4)] .true 4 (.rp 1 v2 4 x3 0) = some (.agg ((eAt x4).map .p)))
   refine bi h ?_ ?_ <;> intro h5 h
   ·
    refine bn h fun r6 h6 h => ?_
    cases r6 with
    | k0 x6_0 x6_1 x6_2 =>
     obtain ⟨g6, e6⟩ := L46_0_3_run (if v1 < x4.n then x4.n else v1) x4 (x4.kids.length : Int) a1 (v2, (Int.toNat (w6 (((v3 : Nat) : Int) - 1))), 0, v4) _ h6
     rw [← sj h]
     exact rnd [(13, .d true), (16, .d true), (22, .v (.rp 1 v2 4 x3 0)), (23, .v (.agg ((eAt x4).map .p))), (28, .v (.sl 1 v2 4 0 (Int.toNat (w6 (((v3 : Nat) : Int) - 1))))), (36, .v (i6 (x4.kids.length : Int))), (2002, .l (.brk 2) (L46_1_d0 a1 g6 v1 x4 x6_0 x6_1 x6_2)), (6000, .d true)] (av h1 (av h2 (apc q2 (apc q3 (apc ((sl_own (e := eAt) (xs := v4) rfl h5) : slA (L46_1_d1 a1 v2 v4 x4) 4 (.sl 1 v2 4 0 v3) (some 0) (some (w6 (((v3 : Nat) : Int) - 1))) = some (.sl 1 v2 4 0 (Int.toNat (w6 (((v3 : Nat) : Int) - 1))))) (apc ((lgr tr_map) : lnA (.p (.lst 3 (eTrees x4.kids))) = some (i6 (x4.kids.length : Int))) (apc ((oK (ac (ar (ar (ac rfl))))) : okT 4 (L46_1_d1 a1 v2 v4 x4) = true) (apc (e6 : L46_0_3_e (if v1 < x4.n then x4.n else v1) x4 (x4.kids.length : Int) a1 v2 (Int.toNat (w6 (((v3 : Nat) : Int) - 1))) 0 v4 = some ((.brk 2), L46_1_d0 a1 g6 v1 x4 x6_0 x6_1 x6_2)) (apc ((oK (ac (ar rfl))) : okT 2 [.cells 51 ((cT a1).map .p), .row 117 4 x6_0 (ra eAt x6_2), yT0, .cells 117 ((eAt x4).map .p)] = true) apn))))))))) (by kernel_rfl)
   ·
    cases h
  ·
   rw [← sj h]
   exact xbrk [(13, .d true), (16, .d false), (6000, .d true)] (av h1 (av h2 apn)) (by kernel_rfl)
 ·
  rw [← sj h]
  exact xbrk [(13, .d false), (6000, .d true)] (av h1 apn) (by kernel_rfl)
theorem L46_1_run (s0 : Int × Nat × Nat × (List AtD)) (e : E_L46_1) (h : runL (fun s => L46_1 s.1 s.2.1 s.2.2.1 s.2.2.2) s0 = some e) : L46_1_x a1 e (L46_1_e a1 s0.1 s0.2.1 s0.2.2.1 s0.2.2.2) := by
  have q := @loop_sound' (Int × Nat × Nat × (List AtD)) E_L46_1 (fun s => L46_1 s.1 s.2.1 s.2.2.1 s.2.2.2) (fun s => L46_1_e a1 s.1 s.2.1 s.2.2.1 s.2.2.2) (L46_1_x a1) (fun s r h => L46_1_ok a1 s.1 s.2.1 s.2.2.1 s.2.2.2 h) s0 e h
  exact q
end
def F46_v (a1 : TreeD) (x0 : Int) : AV := (i6 x0)
def F46 (a1 : TreeD) : Option Int :=
  ((runL (fun s => L46_1 s.1 s.2.1 s.2.2.1 s.2.2.2) (0, 0, 1, [(⟨a1.prod, a1.byte, a1.kids, 1⟩ : AtD)])).bind fun r1 => match r1 with | .k0 x1_0 x1_1 x1_2 => (some x1_0))
abbrev F46_d0 (g1 : Nat → AV) (x1_0 : Int) (a1 : TreeD) (x1_1 : Nat) (x1_2 : List AtD) : St := ⟨fr 51 g1 [(3, i6 x1_0)], [.cells 51 ((cT a1).map .p), .row 117 4 x1_1 (ra eAt x1_2)]⟩
theorem F46_ok (a1 : TreeD) {r : Int} (h : F46 a1 = some r) : PR1 prg 46 [(.agg ((cT a1).map .p))] (F46_v a1 r) := by
 unfold F46 at h
 refine bn h fun r1 h1 h => ?_
 cases r1 with
 | k0 x1_0 x1_1 x1_2 =>
  obtain ⟨g1, e1⟩ := L46_1_run a1 (0, 0, 1, [(⟨a1.prod, a1.byte, a1.kids, 1⟩ : AtD)]) _ h1
  rw [← sj h]
  exact fpr [(2000, .l (.brk 0) (F46_d0 g1 x1_0 a1 x1_1 x1_2)), (6000, .d true)] (apc ((oK (ac (ac rfl))) : okT 2 [.cells 51 ((cT a1).map .p), .row 117 4 0 [[i6 a1.prod, vi .u8 a1.byte, (.p (.lst 3 (eTrees a1.kids))), i6 1]]] = true) (apc (e1 : L46_1_e a1 0 0 1 ([(⟨a1.prod, a1.byte, a1.kids, 1⟩ : AtD)]) = some ((.brk 0), F46_d0 g1 x1_0 a1 x1_1 x1_2)) apn)) rfl (by kernel_rfl)
inductive R_F47_4 where
  | k0 (x0 : Nat) (x1 : List Int) (x2 : Bool) (x3 : Nat)
def F47_4_v (a1 a2 : TreeD) (a3 : Nat) (a4 : List Int) (a5 : Bool) (a6 : Nat) (r : R_F47_4) : AV := match r with | .k0 x0 x1 x2 x3 => (.tup [])
def F47_4_h (a1 a2 : TreeD) (a3 : Nat) (a4 : List Int) (a5 : Bool) (a6 : Nat) (r : R_F47_4) : List AB := match r with | .k0 x0 x1 x2 x3 => [.cells 51 ((cT a2).map .p), yU x0 x1, .cells 94 [sp x2 2 0, .sl 1 x0 1 0 x3], .cells 95 [(.fn 47 [.ptr 2 0, .ptr 3 0])]]
abbrev T_F47_4 := TreeD → TreeD → Nat → (List Int) → Bool → Nat → Option R_F47_4
abbrev H_F47_4 (f : T_F47_4) : Prop := ∀ (a1 a2 : TreeD) (a3 : Nat) (a4 : List Int) (a5 : Bool) (a6 : Nat) {r : R_F47_4}, f a1 a2 a3 a4 a5 a6 = some r → ∀ hx : List AB, CS prg 47 [(.agg ((cT a1).map .p)), .ptr 2 0, .ptr 3 0] ([.cells 51 ((cT a2).map .p), yU a3 a4, .cells 94 [sp a5 2 0, .sl 1 a3 1 0 a6], .cells 95 [(.fn 47 [.ptr 2 0, .ptr 3 0])]] ++ hx) = some (F47_4_v a1 a2 a3 a4 a5 a6 r, F47_4_h a1 a2 a3 a4 a5 a6 r ++ hx)
def F69_4_v (a1 : TreeD) (a2 : Nat) (a3 : List Int) (a4 : Bool) (a5 : Nat) (a6 : TreeD) (x0 : Bool) : AV := (.tup [])
def F69_4_h (a1 : TreeD) (a2 : Nat) (a3 : List Int) (a4 : Bool) (a5 : Nat) (a6 : TreeD) (x0 : Bool) : List AB := [.cells 51 ((cT a1).map .p), yU a2 a3, .cells 94 [sp x0 2 0, .sl 1 a2 1 0 a5], .cells 95 [(.fn 47 [.ptr 2 0, .ptr 3 0])], .cells 51 ((cT a6).map .p)]
def F69_4 (a4 : Bool) : Option Bool :=
  (bif a4 then (some a4) else (some true))
abbrev F69_4_d0 (a1 : TreeD) (a2 : Nat) (a3 : List Int) (a4 : Bool) (a5 : Nat) (a6 : TreeD) : List AB := [.cells 51 ((cT a1).map .p), yU a2 a3, .cells 94 [sp a4 2 0, .sl 1 a2 1 0 a5], .cells 95 [(.fn 47 [.ptr 2 0, .ptr 3 0])], .cells 51 ((cT a6).map .p)]
theorem F69_4_ok (a1 : TreeD) (a2 : Nat) (a3 : List Int) (a4 : Bool) (a5 : Nat) (a6 : TreeD) {r : Bool} (h : F69_4 a4 = some r) : CS prg 69 [.ptr 2 0] [.cells 51 ((cT a1).map .p), yU a2 a3, .cells 94 [sp a4 2 0, .sl 1 a2 1 0 a5], .cells 95 [(.fn 47 [.ptr 2 0, .ptr 3 0])], .cells 51 ((cT a6).map .p)] = some (F69_4_v a1 a2 a3 a4 a5 a6 r, F69_4_h a1 a2 a3 a4 a5 a6 r) := by
 unfold F69_4 at h
 refine bi h ?_ ?_ <;> intro h1 h
 ·
  rw [← sj h]
  exact fcs [(5, .v (.ptr 2 0)), (17, .v (.ptr 2 0))] (apc (((rfl : ldA (F69_4_d0 a1 a2 a3 a4 a5 a6) .false 1 (.ptr 2 0) = some (sp a4 2 0)).trans (congrArg some (sp_t h1))) : ldA (F69_4_d0 a1 a2 a3 a4 a5 a6) .false 1 (.ptr 2 0) = some (.ptr 2 0)) (apc (((rfl : ldA (F69_4_d0 a1 a2 a3 a4 a5 a6) .false 1 (.ptr 2 0) = some (sp a4 2 0)).trans (congrArg some (sp_t h1))) : ldA (F69_4_d0 a1 a2 a3 a4 a5 a6) .false 1 (.ptr 2 0) = some (.ptr 2 0)) apn)) (by kernel_rfl)
 ·
  rw [← sj h]
  exact fcs [(5, .v (.p (.val (.pointer .none))))] (apc (((rfl : ldA (F69_4_d0 a1 a2 a3 a4 a5 a6) .false 1 (.ptr 2 0) = some (sp a4 2 0)).trans (congrArg some (sp_f h1))) : ldA (F69_4_d0 a1 a2 a3 a4 a5 a6) .false 1 (.ptr 2 0) = some (.p (.val (.pointer .none)))) apn) (by kernel_rfl)
inductive R_F48_4 where
  | k0 (x0 : Nat) (x1 : List Int) (x2 : Bool)
def F48_4_v (a1 a2 : TreeD) (a3 : Nat) (a4 : List Int) (a5 : Bool) (a6 : Nat) (r : R_F48_4) : AV := match r with | .k0 x0 x1 x2 => (.p (.val .nilIface))
def F48_4_h (a1 a2 : TreeD) (a3 : Nat) (a4 : List Int) (a5 : Bool) (a6 : Nat) (r : R_F48_4) : List AB := match r with | .k0 x0 x1 x2 => [.cells 51 ((cT a2).map .p), yU x0 x1, .cells 94 [sp x2 2 0, (.sl 1 x0 1 0 (a6 + 1))], .cells 95 [(.fn 47 [.ptr 2 0, .ptr 3 0])], .cells 51 ((cT a1).map .p), .row 5 1 0 [[vi .u8 a1.byte]]]
def F48_4 (a1 : TreeD) (a3 : Nat) (a4 : List Int) (a5 : Bool) (a6 : Nat) : Option R_F48_4 :=
  ((F69_4 a5).bind fun x1 => (bif (apOk a6 1 a4.length 1) then (bif (decide (a6 + 1 ≤ a4.length)) then (some (.k0 a3 (splice a4 a6 [a1.byte]) x1)) else (some (.k0 (a3 + 1) (a4.take a6 ++ [a1.byte]) x1))) else none))
abbrev F48_4_d0 (a2 : TreeD) (a3 : Nat) (a4 : List Int) (x1 : Bool) (a6 : Nat) (a1 : TreeD) : List AB := [.cells 51 ((cT a2).map .p), yU a3 a4, .cells 94 [sp x1 2 0, .sl 1 a3 1 0 a6], .cells 95 [(.fn 47 [.ptr 2 0, .ptr 3 0])], .cells 51 ((cT a1).map .p)]
abbrev F48_4_d1 (a2 : TreeD) (a3 : Nat) (a4 : List Int) (a6 : Nat) (a1 : TreeD) (x1 : Bool) : List AB := [.cells 51 ((cT a2).map .p), yU a3 (splice a4 a6 [a1.byte]), .cells 94 [sp x1 2 0, .sl 1 a3 1 0 a6], .cells 95 [(.fn 47 [.ptr 2 0, .ptr 3 0])], .cells 51 ((cT a1).map .p), .row 5 1 0 [[vi .u8 a1.byte]]]
abbrev F48_4_d2 (a2 : TreeD) (a3 : Nat) (a4 : List Int) (x1 : Bool) (a6 : Nat) (a1 : TreeD) : List AB := [.cells 51 ((cT a2).map .p), yU a3 a4, .cells 94 [sp x1 2 0, .sl 1 a3 1 0 a6], .cells 95 [(.fn 47 [.ptr 2 0, .ptr 3 0])], .cells 51 ((cT a1).map .p), .row 5 1 0 [[vi .u8 a1.byte]]]
abbrev F48_4_d3 (a2 : TreeD) (a3 : Nat) (a4 : List Int) (a6 : Nat) (a1 : TreeD) (x1 : Bool) : List AB := [.cells 51 ((cT a2).map .p), yU (a3 + 1) (a4.take a6 ++ [a1.byte]), .cells 94 [sp x1 2 0, .sl 1 a3 1 0 a6], .cells 95 [(.fn 47 [.ptr 2 0, .ptr 3 0])], .cells 51 ((cT a1).map .p), .row 5 1 0 [[vi .u8 a1.byte]]]
abbrev F48_4_c0 (a2 : TreeD) (a3 : Nat) (a4 : List Int) (x1 : Bool) (a6 : Nat) (a1 : TreeD) : List (Nat × Hint) := [(6, .r (.tup []) (F48_4_d0 a2 a3 a4 x1 a6 a1))]
theorem F48_4_ok (a1 a2 : TreeD) (a3 : Nat) (a4 : List Int) (a5 : Bool) (a6 : Nat) {r : R_F48_4} (h : F48_4 a1 a3 a4 a5 a6 = some r) : CS prg 48 [.ptr 2 0, vi .u8 a1.byte] [.cells 51 ((cT a2).map .p), yU a3 a4, .cells 94 [sp a5 2 0, .sl 1 a3 1 0 a6], .cells 95 [(.fn 47 [.ptr 2 0, .ptr 3 0])], .cells 51 ((cT a1).map .p)] = some (F48_4_v a1 a2 a3 a4 a5 a6 r, F48_4_h a1 a2 a3 a4 a5 a6 r) := by
 unfold F48_4 at h
 refine bn h fun x1 h1 h => ?_
 have q0 := ((F69_4_ok a2 a3 a4 a5 a6 a1 h1) : CS prg 69 [.ptr 2 0] [.cells 51 ((cT a2).map .p), yU a3 a4, .cells 94 [sp a5 2 0, .sl 1 a3 1 0 a6], .cells 95 [(.fn 47 [.ptr 2 0, .ptr 3 0])], .cells 51 ((cT a1).map .p)] = some ((.tup []), F48_4_d0 a2 a3 a4 x1 a6 a1))
 refine bi h ?_ ?_ <;> intro h2 h
 ·
  refine bi h ?_ ?_ <;> intro h3 h
  ·
   rw [← sj h]
   exact fcs ((F48_4_c0 a2 a3 a4 x1 a6 a1) ++ [(14, .r (.sl 1 a3 1 0 (a6 + 1)) (F48_4_d1 a2 a3 a4 a6 a1 x1))]) (apc q0 (apc ((ap_in (e := eU8) (xs := a4) (news := [a1.byte]) rfl (rows_x (e := eU8) (xs := [a1.byte]) rfl) rfl h2 h3) : appA (F48_4_d2 a2 a3 a4 x1 a6 a1) 5 1 1 (.sl 1 a3 1 0 a6) (.sl 5 0 1 0 1) = some ((.sl 1 a3 1 0 (a6 + 1)), F48_4_d1 a2 a3 a4 a6 a1 x1)) apn)) (by kernel_rfl)
  ·
   rw [← sj h]
   exact fcs ((F48_4_c0 a2 a3 a4 x1 a6 a1) ++ [(14, .r (.sl 1 (a3 + 1) 1 0 (a6 + 1)) (F48_4_d3 a2 a3 a4 a6 a1 x1))]) (apc q0 (apc ((ap_out (e := eU8) (xs := a4) (news := [a1.byte]) rfl (rows_x (e := eU8) (xs := [a1.byte]) rfl) rfl h2 h3) : appA (F48_4_d2 a2 a3 a4 x1 a6 a1) 5 1 1 (.sl 1 a3 1 0 a6) (.sl 5 0 1 0 1) = some ((.sl 1 (a3 + 1) 1 0 (a6 + 1)), F48_4_d3 a2 a3 a4 a6 a1 x1)) apn)) (by kernel_rfl)
 ·
  cases h
inductive E_L47_0_4 where
  | k0 (x0 : Nat) (x1 : List Int) (x2 : Bool) (x3 : Nat)
def L47_0_4 (rF47_4 : T_F47_4) (a1 : TreeD) (a2 : Int) (a3 : TreeD) (v1 : Int) (v2 : Nat) (v3 : List Int) (v4 : Bool) (v5 : Nat) : Option (E_L47_0_4 ⊕ (Int × Nat × (List Int) × Bool × Nat)) :=
  (bif (decide (v1 < a2)) then ((getI a1.kids v1).bind fun x2 => ((rF47_4 x2 a3 v2 v3 v4 v5).bind fun r3 => match r3 with | .k0 x3_0 x3_1 x3_2 x3_3 => (some (.inr ((IntKind.wrap .i64 (v1 + 1)), x3_0, x3_1, x3_2, x3_3))))) else (some (.inl (.k0 v2 v3 v4 v5))))
def L47_0_4_s (a1 : TreeD) (a2 : Int) (a3 : TreeD) (v1 : Int) (v2 : Nat) (v3 : List Int) (v4 : Bool) (v5 : Nat) : St := ⟨fr 23 ug [(2, .ptr 3 0), (13, (.p (.lst 3 (eTrees a1.kids)))), (14, i6 a2), (15, i6 v1)], [.cells 51 ((cT a3).map .p), yU v2 v3, .cells 94 [sp v4 2 0, .sl 1 v2 1 0 v5], .cells 95 [(.fn 47 [.ptr 2 0, .ptr 3 0])], .cells 51 ((cT a1).map .p)]⟩
abbrev L47_0_4_e (a1 : TreeD) (a2 : Int) (a3 : TreeD) (v1 : Int) (v2 : Nat) (v3 : List Int) (v4 : Bool) (v5 : Nat) := evH prg 5 [2, 13, 14, 15] ir47_l0 (L47_0_4_s a1 a2 a3 v1 v2 v3 v4 v5)
def L47_0_4_x (a1 : TreeD) (a2 : Int) (a3 : TreeD) (e : E_L47_0_4) (r : Option (Out × St)) : Prop := match e with | .k0 x0 x1 x2 x3 => ∃ g, r = some ((.brk 0), ⟨fr 23 g [(13, (.p (.lst 3 (eTrees a1.kids))))], [.cells 51 ((cT a3).map .p), yU x0 x1, .cells 94 [sp x2 2 0, .sl 1 x0 1 0 x3], .cells 95 [(.fn 47 [.ptr 2 0, .ptr 3 0])], .cells 51 ((cT a1).map .p)]⟩)
abbrev L47_0_4_d0 (a3 : TreeD) (x3_0 : Nat) (x3_1 : List Int) (x3_2 : Bool) (x3_3 : Nat) (a1 x2 : TreeD) : List AB := [.cells 51 ((cT a3).map .p), yU x3_0 x3_1, .cells 94 [sp x3_2 2 0, .sl 1 x3_0 1 0 x3_3], .cells 95 [(.fn 47 [.ptr 2 0, .ptr 3 0])], .cells 51 ((cT a1).map .p), yT0, .cells 51 ((cT x2).map .p)]
theorem L47_0_4_ok (rF47_4 : T_F47_4) (hF47_4 : H_F47_4 rF47_4) (a1 : TreeD) (a2 : Int) (a3 : TreeD) (v1 : Int) (v2 : Nat) (v3 : List Int) (v4 : Bool) (v5 : Nat) {r : E_L47_0_4 ⊕ (Int × Nat × (List Int) × Bool × Nat)} (h : L47_0_4 rF47_4 a1 a2 a3 v1 v2 v3 v4 v5 = some r) : OkR (fun e => L47_0_4_x a1 a2 a3 e (L47_0_4_e a1 a2 a3 v1 v2 v3 v4 v5)) (fun s => L47_0_4_e a1 a2 a3 v1 v2 v3 v4 v5 = L47_0_4_e a1 a2 a3 s.1 s.2.1 s.2.2.1 s.2.2.2.1 s.2.2.2.2) r := by
 unfold L47_0_4 at h
 refine bi h ?_ ?_ <;> intro h1 h
 ·
  refine bn h fun x2 h2 h => ?_
  refine bn h fun r3 h3 h => ?_
  cases r3 with
  | k0 x3_0 x3_1 x3_2 x3_3 =>
   rw [← sj h]
   exact rnd [(16, .d true), (17, .v (.ro (cT x2))), (21, .r (.tup []) (L47_0_4_d0 a3 x3_0 x3_1 x3_2 x3_3 a1 x2)), (6000, .d true)] (av h1 (apc ((igr tr_map h2) : idxA 3 (.p (.lst 3 (eTrees a1.kids))) (i6 v1) = some (.ro (cT x2))) (apc ((hF47_4 x2 a3 v2 v3 v4 v5 h3 [.cells 51 ((cT a1).map .p), yT0, .cells 51 ((cT x2).map .p)]) : CS prg 47 [(.agg ((cT x2).map .p)), .ptr 2 0, .ptr 3 0] [.cells 51 ((cT a3).map .p), yU v2 v3, .cells 94 [sp v4 2 0, .sl 1 v2 1 0 v5], .cells 95 [(.fn 47 [.ptr 2 0, .ptr 3 0])], .cells 51 ((cT a1).map .p), yT0, .cells 51 ((cT x2).map .p)] = some ((.tup []), L47_0_4_d0 a3 x3_0 x3_1 x3_2 x3_3 a1 x2)) (apc ((oK (ac (ar (abl_cons (blw_sp rfl (blw_c rfl rfl)) (ac (ac rfl)))))) : okT 5 (L47_0_4_d0 a3 x3_0 x3_1 x3_2 x3_3 a1 x2) = true) apn)))) (by kernel_rfl)
 ·
  rw [← sj h]
  exact xbrk [(16, .d false), (6000, .d true)] (av h1 apn) (by kernel_rfl)
theorem L47_0_4_run (rF47_4 : T_F47_4) (hF47_4 : H_F47_4 rF47_4) (a1 : TreeD) (a2 : Int) (a3 : TreeD) (s0 : Int × Nat × (List Int) × Bool × Nat) (e : E_L47_0_4) (h : runL (fun s => L47_0_4 rF47_4 a1 a2 a3 s.1 s.2.1 s.2.2.1 s.2.2.2.1 s.2.2.2.2) s0 = some e) : L47_0_4_x a1 a2 a3 e (L47_0_4_e a1 a2 a3 s0.1 s0.2.1 s0.2.2.1 s0.2.2.2.1 s0.2.2.2.2) := by
  have q := @loop_sound' (Int × Nat × (List Int) × Bool × Nat) E_L47_0_4 (fun s => L47_0_4 rF47_4 a1 a2 a3 s.1 s.2.1 s.2.2.1 s.2.2.2.1 s.2.2.2.2) (fun s => L47_0_4_e a1 a2 a3 s.1 s.2.1 s.2.2.1 s.2.2.2.1 s.2.2.2.2) (L47_0_4_x a1 a2 a3) (fun s r h => L47_0_4_ok rF47_4 hF47_4 a1 a2 a3 s.1 s.2.1 s.2.2.1 s.2.2.2.1 s.2.2.2.2 h) s0 e h
  exact q
def F47_4_b (rF47_4 : T_F47_4) (a1 a2 : TreeD) (a3 : Nat) (a4 : List Int) (a5 : Bool) (a6 : Nat) : Option R_F47_4 :=
  (bif (decide (a1.prod < 0)) then ((F48_4 a1 a3 a4 a5 a6).bind fun r2 => match r2 with | .k0 x2_0 x2_1 x2_2 => (some (.k0 x2_0 x2_1 x2_2 (a6 + 1)))) else ((runL (fun s => L47_0_4 rF47_4 a1 (a1.kids.length : Int) a2 s.1 s.2.1 s.2.2.1 s.2.2.2.1 s.2.2.2.2) (0, a3, a4, a5, a6)).bind fun r2 => match r2 with | .k0 x2_0 x2_1 x2_2 x2_3 => (some (.k0 x2_0 x2_1 x2_2 x2_3))))
abbrev F47_4_d0 (a2 : TreeD) (x2_0 : Nat) (x2_1 : List Int) (x2_2 : Bool) (a6 : Nat) (a1 : TreeD) : List AB := [.cells 51 ((cT a2).map .p), yU x2_0 x2_1, .cells 94 [sp x2_2 2 0, (.sl 1 x2_0 1 0 (a6 + 1))], .cells 95 [(.fn 47 [.ptr 2 0, .ptr 3 0])], .cells 51 ((cT a1).map .p), .row 5 1 0 [[vi .u8 a1.byte]]]
abbrev F47_4_d1 (a2 : TreeD) (a3 : Nat) (a4 : List Int) (a5 : Bool) (a6 : Nat) (a1 : TreeD) : List AB := [.cells 51 ((cT a2).map .p), yU a3 a4, .cells 94 [sp a5 2 0, .sl 1 a3 1 0 a6], .cells 95 [(.fn 47 [.ptr 2 0, .ptr 3 0])], .cells 51 ((cT a1).map .p)]
abbrev F47_4_d2 (g2 : Nat → AV) (a1 a2 : TreeD) (x2_0 : Nat) (x2_1 : List Int) (x2_2 : Bool) (x2_3 : Nat) : St := ⟨fr 23 g2 [(13, (.p (.lst 3 (eTrees a1.kids))))], [.cells 51 ((cT a2).map .p), yU x2_0 x2_1, .cells 94 [sp x2_2 2 0, .sl 1 x2_0 1 0 x2_3], .cells 95 [(.fn 47 [.ptr 2 0, .ptr 3 0])], .cells 51 ((cT a1).map .p)]⟩
theorem F47_4_bok (rF47_4 : T_F47_4) (hF47_4 : H_F47_4 rF47_4) (a1 a2 : TreeD) (a3 : Nat) (a4 : List Int) (a5 : Bool) (a6 : Nat) {r : R_F47_4} (h : F47_4_b rF47_4 a1 a2 a3 a4 a5 a6 = some r) : ∀ hx : List AB, CS prg 47 [(.agg ((cT a1).map .p)), .ptr 2 0, .ptr 3 0] ([.cells 51 ((cT a2).map .p), yU a3 a4, .cells 94 [sp a5 2 0, .sl 1 a3 1 0 a6], .cells 95 [(.fn 47 [.ptr 2 0, .ptr 3 0])]] ++ hx) = some (F47_4_v a1 a2 a3 a4 a5 a6 r, F47_4_h a1 a2 a3 a4 a5 a6 r ++ hx) := by
 unfold F47_4_b at h
 refine bi h ?_ ?_ <;> intro h1 h
 ·
  refine bn h fun r2 h2 h => ?_
  cases r2 with
  | k0 x2_0 x2_1 x2_2 =>
   rw [← sj h]
   exact fcF (m := 4) (v := (.tup [])) (h' := (F47_4_d0 a2 x2_0 x2_1 x2_2 a6 a1)) [(8, .d true), (11, .r (.p (.val .nilIface)) (F47_4_d0 a2 x2_0 x2_1 x2_2 a6 a1))] (av h1 (apc ((F48_4_ok a1 a2 a3 a4 a5 a6 h2) : CS prg 48 [.ptr 2 0, vi .u8 a1.byte] (F47_4_d1 a2 a3 a4 a5 a6 a1) = some ((.p (.val .nilIface)), F47_4_d0 a2 x2_0 x2_1 x2_2 a6 a1)) apn)) rfl (ac (ar (abl_cons (blw_sp rfl (blw_c rfl rfl)) (ac rfl)))) rfl (ac (ar (abl_cons (blw_sp rfl (blw_c rfl rfl)) (ac rfl)))) rfl (by kernel_rfl)
 ·
  refine bn h fun r2 h2 h => ?_
  cases r2 with
  | k0 x2_0 x2_1 x2_2 x2_3 =>
   obtain ⟨g2, e2⟩ := L47_0_4_run rF47_4 hF47_4 a1 (a1.kids.length : Int) a2 (0, a3, a4, a5, a6) _ h2
   rw [← sj h]
   exact fcF (m := 4) (v := (.tup [])) (h' := [.cells 51 ((cT a2).map .p), yU x2_0 x2_1, .cells 94 [sp x2_2 2 0, .sl 1 x2_0 1 0 x2_3], .cells 95 [(.fn 47 [.ptr 2 0, .ptr 3 0])], .cells 51 ((cT a1).map .p)]) [(8, .d false), (14, .v (i6 (a1.kids.length : Int))), (2000, .l (.brk 0) (F47_4_d2 g2 a1 a2 x2_0 x2_1 x2_2 x2_3)), (6000, .d true)] (av h1 (apc ((lgr tr_map) : lnA (.p (.lst 3 (eTrees a1.kids))) = some (i6 (a1.kids.length : Int))) (apc ((oK (ac (ar (abl_cons (blw_sp rfl (blw_c rfl rfl)) (ac (ac rfl)))))) : okT 5 (F47_4_d1 a2 a3 a4 a5 a6 a1) = true) (apc (e2 : L47_0_4_e a1 (a1.kids.length : Int) a2 0 a3 a4 a5 a6 = some ((.brk 0), F47_4_d2 g2 a1 a2 x2_0 x2_1 x2_2 x2_3)) apn)))) rfl (ac (ar (abl_cons (blw_sp rfl (blw_c rfl rfl)) (ac rfl)))) rfl (ac (ar (abl_cons (blw_sp rfl (blw_c rfl rfl)) (ac rfl)))) rfl (by kernel_rfl)
def F47_4 : Nat → T_F47_4
  | 0 => fun _ _ _ _ _ _ => none
  | Nf + 1 => F47_4_b (F47_4 Nf)
theorem F47_4_ok (Nf : Nat) : H_F47_4 (F47_4 Nf) := by
  induction Nf with
  | zero => intro a1 a2 a3 a4 a5 a6 r h; have h : (none : Option R_F47_4) = some r := h; cases h
  | succ Nf ih => intro a1 a2 a3 a4 a5 a6 r h; exact F47_4_bok (F47_4 Nf) ih a1 a2 a3 a4 a5 a6 h
inductive R_F49_2 where
  | k0 (x0 : ByteArray)
  | k1 (x0 : ByteArray)
def F49_2_v (a1 : TreeD) (a2 : Nat) (a3 : List Int) (a4 : Bool) (a5 : Nat) (r : R_F49_2) : AV := match r with | .k0 x0 => (vs x0) | .k1 x0 => (vs x0)
def F49_2_h (a1 : TreeD) (a2 : Nat) (a3 : List Int) (a4 : Bool) (a5 : Nat) (r : R_F49_2) : List AB := match r with | .k0 x0 => [.cells 51 ((cT a1).map .p), .dead, .cells 94 [sp a4 2 0, .sl 1 a2 1 0 a5], .cells 95 [(.fn 47 [.ptr 2 0, .ptr 3 0])]] | .k1 x0 => [.cells 51 ((cT a1).map .p), yU a2 a3, .cells 94 [sp a4 2 0, .sl 1 a2 1 0 a5], .cells 95 [(.fn 47 [.ptr 2 0, .ptr 3 0])]]
def F49_2 (a3 : List Int) (a5 : Nat) : Option R_F49_2 :=
  (bif (decide (0 < a5)) then (bif (usOk a5 a3.length) then (some (.k0 (bstr (a3.take a5)))) else none) else (some (.k1 ByteArray.empty)))
abbrev F49_2_d0 (a1 : TreeD) (a2 : Nat) (a3 : List Int) (a4 : Bool) (a5 : Nat) : List AB := [.cells 51 ((cT a1).map .p), yU a2 a3, .cells 94 [sp a4 2 0, .sl 1 a2 1 0 a5], .cells 95 [(.fn 47 [.ptr 2 0, .ptr 3 0])]]
abbrev F49_2_d1 (a1 : TreeD) (a4 : Bool) (a2 a5 : Nat) : List AB := [.cells 51 ((cT a1).map .p), .dead, .cells 94 [sp a4 2 0, .sl 1 a2 1 0 a5], .cells 95 [(.fn 47 [.ptr 2 0, .ptr 3 0])]]
theorem F49_2_ok (a1 : TreeD) (a2 : Nat) (a3 : List Int) (a4 : Bool) (a5 : Nat) {r : R_F49_2} (h : F49_2 a3 a5 = some r) : CS prg 49 [.ptr 2 0] [.cells 51 ((cT a1).map .p), yU a2 a3, .cells 94 [sp a4 2 0, .sl 1 a2 1 0 a5], .cells 95 [(.fn 47 [.ptr 2 0, .ptr 3 0])]] = some (F49_2_v a1 a2 a3 a4 a5 r, F49_2_h a1 a2 a3 a4 a5 r) := by
 unfold F49_2 at h
 refine bi h ?_ ?_ <;> intro h1 h
 ·
  have q0 := ((sd_t (e := eU8) (xs := a3) rfl h1) : sdA (F49_2_d0 a1 a2 a3 a4 a5) (.sl 1 a2 1 0 a5) = some (.rp 1 a2 1 0 0))
  refine bi h ?_ ?_ <;> intro h2 h
  ·
   rw [← sj h]
   exact fcs [(7, .v (.rp 1 a2 1 0 0)), (13, .r (vs (bstr (a3.take a5))) (F49_2_d1 a1 a4 a2 a5))] (apc q0 (apc ((us_t (e := eU8) (xs := a3) rfl h1 h2) : uSA (F49_2_d0 a1 a2 a3 a4 a5) 5 (.rp 1 a2 1 0 0) (i6 ((a5 : Nat) : Int)) = some ((vs (bstr (a3.take a5))), F49_2_d1 a1 a4 a2 a5)) apn)) (by kernel_rfl)
  ·
   cases h
 ·
  rw [← sj h]
  exact fcs [(7, .v .anyp), (13, .r (vs ByteArray.empty) (F49_2_d0 a1 a2 a3 a4 a5))] (apc ((sd_f (e := eU8) (xs := a3) rfl h1) : sdA (F49_2_d0 a1 a2 a3 a4 a5) (.sl 1 a2 1 0 a5) = some .anyp) (apc ((us_f h1) : uSA (F49_2_d0 a1 a2 a3 a4 a5) 5 .anyp (i6 ((a5 : Nat) : Int)) = some ((vs ByteArray.empty), F49_2_d0 a1 a2 a3 a4 a5)) apn)) (by kernel_rfl)
inductive R_F20 where
  | k0 (x0 : ByteArray) (x1 : Int)
def F20_v (a1 : TreeD) (r : R_F20) : AV := match r with | .k0 x0 x1 => (.tup [vs x0, i6 x1])
def F20 (Nf : Nat) (a1 : TreeD) : Option R_F20 :=
  ((F46 a1).bind fun x1 => (bif (decide (x1 > 16384)) then (some (.k0 (⟨([] : List UInt8).toArray⟩ : ByteArray) 3)) else ((F47_4 Nf a1 a1 0 ([]) false 0).bind fun r3 => match r3 with | .k0 x3_0 x3_1 x3_2 x3_3 => ((F49_2 x3_1 x3_3).bind fun r4 => match r4 with | .k0 x4_0 => (some (.k0 x4_0 0)) | .k1 x4_0 => (some (.k0 x4_0 0))))))
abbrev F20_d0 (a1 : TreeD) (x3_0 : Nat) (x3_1 : List Int) (x3_2 : Bool) (x3_3 : Nat) : List AB := [.cells 51 ((cT a1).map .p), yU x3_0 x3_1, .cells 94 [sp x3_2 2 0, .sl 1 x3_0 1 0 x3_3], .cells 95 [(.fn 47 [.ptr 2 0, .ptr 3 0])]]
abbrev F20_d1 (a1 : TreeD) (x3_2 : Bool) (x3_0 x3_3 : Nat) : List AB := [.cells 51 ((cT a1).map .p), .dead, .cells 94 [sp x3_2 2 0, .sl 1 x3_0 1 0 x3_3], .cells 95 [(.fn 47 [.ptr 2 0, .ptr 3 0])]]
abbrev F20_c0 (a1 : TreeD) (x3_0 : Nat) (x3_1 : List Int) (x3_2 : Bool) (x3_3 : Nat) : List (Nat × Hint) := [(12, .r (.tup []) (F20_d0 a1 x3_0 x3_1 x3_2 x3_3))]
theorem F20_ok (Nf : Nat) (a1 : TreeD) {r : R_F20} (h : F20 Nf a1 = some r) : PR1 prg 20 [(.agg ((cT a1).map .p))] (F20_v a1 r) := by
 unfold F20 at h
 refine bn h fun x1 h1 h => ?_
 have q0 := (((F46_ok a1 h1).cp rfl _) : CP prg 46 [(.agg ((cT a1).map .p))] [.cells 51 ((cT a1).map .p)] = some (i6 x1))
 refine bi h ?_ ?_ <;> intro h2 h
 ·
  rw [← sj h]
  exact fpr [(7, .v (i6 x1)), (8, .d true)] (apc q0 (av h2 apn)) rfl (by kernel_rfl)
 ·
  refine bn h fun r3 h3 h => ?_
  cases r3 with
  | k0 x3_0 x3_1 x3_2 x3_3 =>
   have q2 := ((F47_4_ok Nf a1 a1 0 ([]) false 0 h3 []) : CS prg 47 [(.agg ((cT a1).map .p)), .ptr 2 0, .ptr 3 0] [.cells 51 ((cT a1).map .p), yU0, .cells 94 [sp false 2 0, .sl 1 0 1 0 0], .cells 95 [(.fn 47 [.ptr 2 0, .ptr 3 0])]] = some ((.tup []), F20_d0 a1 x3_0 x3_1 x3_2 x3_3))
   refine bn h fun r4 h4 h => ?_
   cases r4 with
   | k0 x4_0 =>
    rw [← sj h]
    exact fpr ([(7, .v (i6 x1)), (8, .d false)] ++ ((F20_c0 a1 x3_0 x3_1 x3_2 x3_3) ++ [(13, .r (vs x4_0) (F20_d1 a1 x3_2 x3_0 x3_3))])) (apc q0 (av h2 (apc q2 (apc ((F49_2_ok a1 x3_0 x3_1 x3_2 x3_3 h4) : CS prg 49 [.ptr 2 0] (F20_d0 a1 x3_0 x3_1 x3_2 x3_3) = some ((vs x4_0), F20_d1 a1 x3_2 x3_0 x3_3)) apn)))) rfl (by kernel_rfl)
   | k1 x4_0 =>
    rw [← sj h]
    exact fpr ([(7, .v (i6 x1)), (8, .d false)] ++ ((F20_c0 a1 x3_0 x3_1 x3_2 x3_3) ++ [(13, .r (vs x4_0) (F20_d0 a1 x3_0 x3_1 x3_2 x3_3))])) (apc q0 (av h2 (apc q2 (apc ((F49_2_ok a1 x3_0 x3_1 x3_2 x3_3 h4) : CS prg 49 [.ptr 2 0] (F20_d0 a1 x3_0 x3_1 x3_2 x3_3) = some ((vs x4_0), F20_d0 a1 x3_0 x3_1 x3_2 x3_3)) apn)))) rfl (by kernel_rfl)
inductive E_L41_0 where
  | k0
  | k1 (x0 : List (ByteArray × Int))
section
variable (a1 : GramD) (a2 : Int)
def L41_0 (v1 : Int) (v2 : List (ByteArray × Int)) : Option (E_L41_0 ⊕ (Int × (List (ByteArray × Int)))) :=
  (bif (decide (v1 < a2)) then ((getI a1.sorts v1).bind fun x2 => (bif (x2.toList == (⟨([] : List UInt8).toArray⟩ : ByteArray).toList) then (some (.inl (.k0))) else (bif (decide ((x2.size : Int) > 1000)) then (some (.inl (.k0))) else (bif (decide ((mget 0 (mput x2 (IntKind.wrap .i64 ((mget 0 v2 x2) + 1)) v2) x2) > 1)) then (some (.inl (.k0))) else (some (.inr ((IntKind.wrap .i64 (v1 + 1)), (mput x2 (IntKind.wrap .i64 ((mget 0 v2 x2) + 1)) v2)))))))) else (some (.inl (.k1 v2))))
def L41_0_s (v1 : Int) (v2 : List (ByteArray × Int)) : St := ⟨fr 55 ug [(1, .ptr 0 0), (3, .mp 1), (8, ls 1 eStr a1.sorts), (9, i6 a2), (10, i6 v1)], [bG a1, .map (mrow (fun s => vs s) (fun n => vi .i64 n) v2)]⟩
abbrev L41_0_e (v1 : Int) (v2 : List (ByteArray × Int)) := evH prg 2 [1, 3, 8, 9, 10] ir41_l0 (L41_0_s a1 a2 v1 v2)
def L41_0_x (e : E_L41_0) (r : Option (Out × St)) : Prop := match e with | .k0 => ∃ g y, r = some (.ret, ⟨fr 55 g [(2, vb false)], y⟩) | .k1 x0 => ∃ g, r = some ((.brk 0), ⟨fr 55 g [(1, .ptr 0 0), (8, ls 1 eStr a1.sorts)], [bG a1, .map (mrow (fun s => vs s) (fun n => vi .i64 n) x0)]⟩)
abbrev L41_0_d0 (v2 : List (ByteArray × Int)) : List AB := [bG a1, .map (mrow (fun s => vs s) (fun n => vi .i64 n) v2)]
abbrev L41_0_d1 (x2 : ByteArray) (v2 : List (ByteArray × Int)) : List AB := [bG a1, .map (mrow (fun s => vs s) (fun n => vi .i64 n) (mput x2 (w6 ((mget 0 v2 x2) + 1)) v2))]
abbrev L41_0_c0 (x2 : ByteArray) (v2 : List (ByteArray × Int)) : List (Nat × Hint) := [(12, .v (.ro [.val (.string x2)])), (16, .v (i6 (mget 0 v2 x2))), (7017, .r ud (L41_0_d1 a1 x2 v2))]
abbrev L41_0_c1 (x2 : ByteArray) (v2 : List (ByteArray × Int)) : List (Nat × Hint) := [(23, .d false), (28, .v (i6 (mget 0 (mput x2 (w6 ((mget 0 v2 x2) + 1)) v2) x2)))]
theorem L41_0_ok (v1 : Int) (v2 : List (ByteArray × Int)) {r : E_L41_0 ⊕ (Int × (List (ByteArray × Int)))} (h : L41_0 a1 a2 v1 v2 = some r) : OkR (fun e => L41_0_x a1 e (L41_0_e a1 a2 v1 v2)) (fun s => L41_0_e a1 a2 v1 v2 = L41_0_e a1 a2 s.1 s.2) r := by
 unfold L41_0 at h
 refine bi h ?_ ?_ <;> intro h1 h
 ·
  refine bn h fun x2 h2 h => ?_
  have q2 := ((lk_row key_str (es := v2) (k := x2) (z := 0) rfl rfl) : lkA (L41_0_d0 a1 v2) [2] .false .false [(.val (.int .i64 0))] .false (.mp 1) (vs x2) = some (i6 (mget 0 v2 x2)))
  have q3 := (⟨up_row key_str (es := v2) (k := x2) (v := (w6 ((mget 0 v2 x2) + 1))) rfl, rfl⟩ : upA (L41_0_d0 a1 v2) [2] .false (.mp 1) (vs x2) (i6 (w6 ((mget 0 v2 x2) + 1))) = some (L41_0_d1 a1 x2 v2) ∧ ud = ud)
  refine bi h ?_ ?_ <;> intro h3 h
  ·
   rw [← sj h]
   exact xretY ([(11, .d true)] ++ ((L41_0_c0 a1 x2 v2) ++ [(19, .d true), (6000, .d true)])) (av h1 (apc (ig eStr 1 .i64 h2) (apc q2 (apc q3 (av h3 apn))))) (by kernel_rfl)
  ·
   refine bi h ?_ ?_ <;> intro h4 h
   ·
    rw [← sj h]
    exact xretY ([(11, .d true)] ++ ((L41_0_c0 a1 x2 v2) ++ [(19, .d false), (23, .d true), (6000, .d true)])) (av h1 (apc (ig eStr 1 .i64 h2) (apc q2 (apc q3 (av h3 (av h4 apn)))))) (by kernel_rfl)
   ·
    have q6 := ((lk_row key_str (es := (mput x2 (w6 ((mget 0 v2 x2) + 1)) v2)) (k := x2) (z := 0) rfl rfl) : lkA (L41_0_d1 a1 x2 v2) [2] .false .false [(.val (.int .i64 0))] .false (.mp 1) (vs x2) = some (i6 (mget 0 (mput x2 (w6 ((mget 0 v2 x2) + 1)) v2) x2)))
    refine bi h ?_ ?_ <;> intro h5 h
    ·
     rw [← sj h]
     exact xretY ([(11, .d true)] ++ ((L41_0_c0 a1 x2 v2) ++ ([(19, .d false)] ++ ((L41_0_c1 x2 v2) ++ [(29, .d true), (6000, .d true)])))) (av h1 (apc (ig eStr 1 .i64 h2) (apc q2 (apc q3 (av h3 (av h4 (apc q6 (av h5 apn)))))))) (by kernel_rfl)
    ·
     rw [← sj h]
     exact rnd ([(11, .d true)] ++ ((L41_0_c0 a1 x2 v2) ++ ([(19, .d false)] ++ ((L41_0_c1 x2 v2) ++ [(29, .d false), (6000, .d true)])))) (av h1 (apc (ig eStr 1 .i64 h2) (apc q2 (apc q3 (av h3 (av h4 (apc q6 (av h5 (apc ((oK (ac (abl_cons (abl_map (fun _ => rfl) (fun _ => rfl)) rfl))) : okT 2 (L41_0_d1 a1 x2 v2) = true) apn))))))))) (by kernel_rfl)
 ·
  rw [← sj h]
  exact xbrk [(11, .d false), (6000, .d true)] (av h1 apn) (by kernel_rfl)
theorem L41_0_run (s0 : Int × (List (ByteArray × Int))) (e : E_L41_0) (h : runL (fun s => L41_0 a1 a2 s.1 s.2) s0 = some e) : L41_0_x a1 e (L41_0_e a1 a2 s0.1 s0.2) := by
  have q := @loop_sound' (Int × (List (ByteArray × Int))) E_L41_0 (fun s => L41_0 a1 a2 s.1 s.2) (fun s => L41_0_e a1 a2 s.1 s.2) (L41_0_x a1) (fun s r h => L41_0_ok a1 a2 s.1 s.2 h) s0 e h
  exact q
end
def F41_v (a1 : GramD) (x0 : Bool) : AV := (vb x0)
def F41 (a1 : GramD) : Option Bool :=
  ((runL (fun s => L41_0 a1 (a1.sorts.length : Int) s.1 s.2) (0, [])).bind fun r1 => match r1 with | .k0 => (some false) | .k1 x1_0 => (bif (decide ((a1.sorts.length : Int) ≥ 1)) then (bif (decide ((a1.sorts.length : Int) ≤ 1000)) then (bif (decide (a1.start ≥ 0)) then (some (decide (a1.start < (a1.sorts.length : Int)))) else (some false)) else (some false)) else (some false)))
abbrev F41_d0 (g1 : Nat → AV) (a1 : GramD) (x1_0 : List (ByteArray × Int)) : St := ⟨fr 55 g1 [(1, .ptr 0 0), (8, ls 1 eStr a1.sorts)], [bG a1, .map (mrow (fun s => vs s) (fun n => vi .i64 n) x1_0)]⟩
abbrev F41_c0 (g1 : Nat → AV) (a1 : GramD) (x1_0 : List (ByteArray × Int)) : List (Nat × Hint) := [(2000, .l (.brk 0) (F41_d0 g1 a1 x1_0)), (34, .v (i6 (lS a1)))]
theorem F41_ok (a1 : GramD) {r : Bool} (h : F41 a1 = some r) : PR1 prg 41 [aG a1] (F41_v a1 r) := by
 unfold F41 at h
 refine bn h fun r1 h1 h => ?_
 cases r1 with
 | k0 =>
  obtain ⟨g1, y1, e1⟩ := L41_0_run a1 (lS a1) (0, []) _ h1
  rw [← sj h]
  exact fpr [(9, .v (i6 (lS a1))), (2000, .l .ret ⟨fr 55 g1 [(2, vb false)], y1⟩), (6000, .d true)] (apc (lg a1.sorts eStr 1) (apc ((oK (ac (ac rfl))) : okT 2 [bG a1, .map []] = true) (apc (e1 : L41_0_e a1 (lS a1) 0 ([]) = some (.ret, ⟨fr 55 g1 [(2, vb false)], y1⟩)) apn))) rfl (by kernel_rfl)
 | k1 x1_0 =>
  obtain ⟨g1, e1⟩ := L41_0_run a1 (lS a1) (0, []) _ h1
  have q1 := ((oK (ac (ac rfl))) : okT 2 [bG a1, .map []] = true)
  have q2 := (e1 : L41_0_e a1 (lS a1) 0 ([]) = some ((.brk 0), F41_d0 g1 a1 x1_0))
  refine bi h ?_ ?_ <;> intro h2 h
  ·
   refine bi h ?_ ?_ <;> intro h3 h
   ·
    refine bi h ?_ ?_ <;> intro h4 h
    ·
     rw [← sj h]
     exact fpr ([(9, .v (i6 (lS a1)))] ++ ((F41_c0 g1 a1 x1_0) ++ [(35, .d true), (39, .v (i6 (lS a1))), (40, .d true), (45, .d true), (52, .v (i6 (lS a1))), (6000, .d true)])) (apc (lg a1.sorts eStr 1) (apc q1 (apc q2 (apc (lg a1.sorts eStr 1) (av h2 (apc (lg a1.sorts eStr 1) (av h3 (av h4 (apc (lg a1.sorts eStr 1) apn))))))))) rfl (by kernel_rfl)
    ·
     rw [← sj h]
     exact fpr ([(9, .v (i6 (lS a1)))] ++ ((F41_c0 g1 a1 x1_0) ++ [(35, .d true), (39, .v (i6 (lS a1))), (40, .d true), (45, .d false), (6000, .d true)])) (apc (lg a1.sorts eStr 1) (apc q1 (apc q2 (apc (lg a1.sorts eStr 1) (av h2 (apc (lg a1.sorts eStr 1) (av h3 (av h4 apn)))))))) rfl (by kernel_rfl)
   ·
    rw [← sj h]
    exact fpr ([(9, .v (i6 (lS a1)))] ++ ((F41_c0 g1 a1 x1_0) ++ [(35, .d true), (39, .v (i6 (lS a1))), (40, .d false), (6000, .d true)])) (apc (lg a1.sorts eStr 1) (apc q1 (apc q2 (apc (lg a1.sorts eStr 1) (av h2 (apc (lg a1.sorts eStr 1) (av h3 apn))))))) rfl (by kernel_rfl)
  ·
   rw [← sj h]
   exact fpr ([(9, .v (i6 (lS a1)))] ++ ((F41_c0 g1 a1 x1_0) ++ [(35, .d false), (6000, .d true)])) (apc (lg a1.sorts eStr 1) (apc q1 (apc q2 (apc (lg a1.sorts eStr 1) (av h2 apn))))) rfl (by kernel_rfl)
def F67_v (a1 : ProdD) (a2 : GramD) (x0 : Bool) : AV := (vb x0)
def F67 (a1 : ProdD) (a2 : GramD) : Option Bool :=
  (bif (decide (a1.left ≥ 0)) then (some (decide (a1.left < (a2.sorts.length : Int)))) else (some false))
theorem F67_ok (a1 : ProdD) (a2 : GramD) {r : Bool} (h : F67 a1 a2 = some r) : PR1 prg 67 [i6 a1.left, (.ro (eGram a2))] (F67_v a1 a2 r) := by
 unfold F67 at h
 refine bi h ?_ ?_ <;> intro h1 h
 ·
  rw [← sj h]
  exact fpr [(5, .d true), (10, .v (i6 (lS a2)))] (av h1 (apc (lg a2.sorts eStr 1) apn)) rfl (by kernel_rfl)
 ·
  rw [← sj h]
  exact fpr [(5, .d false)] (av h1 apn) rfl (by kernel_rfl)
def F67_2_v (a1 : SymD) (a2 : GramD) (x0 : Bool) : AV := (vb x0)
def F67_2 (a1 : SymD) (a2 : GramD) : Option Bool :=
  (bif (decide (a1.sort ≥ 0)) then (some (decide (a1.sort < (a2.sorts.length : Int)))) else (some false))
theorem F67_2_ok (a1 : SymD) (a2 : GramD) {r : Bool} (h : F67_2 a1 a2 = some r) : PR1 prg 67 [i6 a1.sort, (.ro (eGram a2))] (F67_2_v a1 a2 r) := by
 unfold F67_2 at h
 refine bi h ?_ ?_ <;> intro h1 h
 ·
  rw [← sj h]
  exact fpr [(5, .d true), (10, .v (i6 (lS a2)))] (av h1 (apc (lg a2.sorts eStr 1) apn)) rfl (by kernel_rfl)
 ·
  rw [← sj h]
  exact fpr [(5, .d false)] (av h1 apn) rfl (by kernel_rfl)
inductive E_L42_0_2 where
  | k0
  | k1
section
variable (a1 : GramD) (a2 a3 : Int) (a4 : ProdD) (a5 : Int)
def L42_0_2 (v1 : Int) : Option (E_L42_0_2 ⊕ (Int)) :=
  (bif (decide (v1 < a5)) then ((getI a4.right v1).bind fun x2 => (bif (x2.kind == 0) then (bif ((x2.a == 0) && ((x2.b == 0) && ((x2.c == 0) && ((x2.d == 0) && true)))) then (some (.inl (.k0))) else (bif (x2.sort != 0) then (some (.inl (.k0))) else (some (.inr ((IntKind.wrap .i64 (v1 + 1))))))) else (bif (x2.kind == 1) then (bif (!((x2.a == 0) && ((x2.b == 0) && ((x2.c == 0) && ((x2.d == 0) && true))))) then (some (.inl (.k0))) else ((F67_2 x2 a1).bind fun x6 => (bif x6 then (bif (a4.role == 11) then (some (.inl (.k0))) else (some (.inr ((IntKind.wrap .i64 (v1 + 1)))))) else (some (.inl (.k0)))))) else (some (.inl (.k0)))))) else (some (.inl (.k1))))
def L42_0_2_s (v1 : Int) : St := ⟨fr 110 ug [(1, .ptr 0 0), (3, (.fn 67 [.ptr 0 0])), (5, .ptr 2 0), (10, ls 7 eProd a1.prods), (11, i6 a2), (12, i6 a3), (67, ls 6 eSym a4.right), (68, i6 a5), (69, i6 v1)], [bG a1, yY0, bP a4]⟩
abbrev L42_0_2_e (v1 : Int) := evH prg 3 [1, 3, 5, 10, 11, 12, 67, 68, 69] ir42_l0 (L42_0_2_s a1 a2 a3 a4 a5 v1)
def L42_0_2_x (e : E_L42_0_2) (r : Option (Out × St)) : Prop := match e with | .k0 => ∃ g y, r = some (.ret, ⟨fr 110 g [(2, vb false)], y⟩) | .k1 => ∃ g, r = some ((.brk 2), ⟨fr 110 g [(1, .ptr 0 0), (3, (.fn 67 [.ptr 0 0])), (5, .ptr 2 0), (10, ls 7 eProd a1.prods), (11, i6 a2), (12, i6 a3), (67, ls 6 eSym a4.right)], [bG a1, yY0, bP a4]⟩)
abbrev L42_0_2_d0 (x2 : SymD) : List AB := [bG a1, yY0, bP a4, .cells 68 ((eSym x2).map .p)]
theorem L42_0_2_ok (v1 : Int) {r : E_L42_0_2 ⊕ (Int)} (h : L42_0_2 a1 a4 a5 v1 = some r) : OkR (fun e => L42_0_2_x a1 a2 a3 a4 e (L42_0_2_e a1 a2 a3 a4 a5 v1)) (fun s => L42_0_2_e a1 a2 a3 a4 a5 v1 = L42_0_2_e a1 a2 a3 a4 a5 s) r := by
 unfold L42_0_2 at h
 refine bi h ?_ ?_ <;> intro h1 h
 ·
  refine bn h fun x2 h2 h => ?_
  refine bi h ?_ ?_ <;> intro h3 h
  ·
   refine bi h ?_ ?_ <;> intro h4 h
   ·
    rw [← sj h]
    exact xretY [(70, .d true), (71, .v (.ro (eSym x2))), (76, .d true), (80, .d true), (6000, .d true)] (av h1 (apc (ig eSym 6 .i64 h2) (av h3 (av h4 apn)))) (by kernel_rfl)
   ·
    refine bi h ?_ ?_ <;> intro h5 h
    ·
     rw [← sj h]
     exact xretY [(70, .d true), (71, .v (.ro (eSym x2))), (76, .d true), (80, .d false), (84, .d true), (6000, .d true)] (av h1 (apc (ig eSym 6 .i64 h2) (av h3 (av h4 (av h5 apn))))) (by kernel_rfl)
    ·
     rw [← sj h]
     exact rnd [(70, .d true), (71, .v (.ro (eSym x2))), (76, .d true), (80, .d false), (84, .d false), (6000, .d true)] (av h1 (apc (ig eSym 6 .i64 h2) (av h3 (av h4 (av h5 (apc ((oK (ac (ar (ac rfl)))) : okT 3 (L42_0_2_d0 a1 a4 x2) = true) apn)))))) (by kernel_rfl)
  ·
   refine bi h ?_ ?_ <;> intro h4 h
   ·
    refine bi h ?_ ?_ <;> intro h5 h
    ·
     rw [← sj h]
     exact xretY [(70, .d true), (71, .v (.ro (eSym x2))), (76, .d false), (87, .d true), (91, .d true), (6000, .d true)] (av h1 (apc (ig eSym 6 .i64 h2) (av h3 (av h4 (av h5 apn))))) (by kernel_rfl)
    ·
     refine bn h fun x6 h6 h => ?_
     refine bi h ?_ ?_ <;> intro h7 h
     ·
      have q5 := ((((F67_2_ok x2 a1 h6).own rfl (purAs_cons rfl (purAs_cons (purA_ptr rfl (mapO_con rfl (mapO_con rfl (mapO_con rfl (mapO_con rfl (mapO_con rfl rfl)))))) purAs_nil)) rfl).trans (congrArg (fun z => some (vb z)) h7)) : CP prg 67 [i6 x2.sort, .ptr 0 0] (L42_0_2_d0 a1 a4 x2) = some (vb true))
      refine bi h ?_ ?_ <;> intro h8 h
      ·
       rw [← sj h]
       exact xretY [(70, .d true), (71, .v (.ro (eSym x2))), (76, .d false), (87, .d true), (91, .d false), (96, .v (vb true)), (102, .d true), (6000, .d true)] (av h1 (apc (ig eSym 6 .i64 h2) (av h3 (av h4 (av h5 (apc q5 (av h8 apn))))))) (by kernel_rfl)
      ·
       rw [← sj h]
       exact rnd [(70, .d true), (71, .v (.ro (eSym x2))), (76, .d false), (87, .d true), (91, .d false), (96, .v (vb true)), (102, .d false), (6000, .d true)] (av h1 (apc (ig eSym 6 .i64 h2) (av h3 (av h4 (av h5 (apc q5 (av h8 (apc ((oK (ac (ar (ac rfl)))) : okT 3 (L42_0_2_d0 a1 a4 x2) = true) apn)))))))) (by kernel_rfl)
     ·
      rw [← sj h]
      exact xretY [(70, .d true), (71, .v (.ro (eSym x2))), (76, .d false), (87, .d true), (91, .d false), (96, .v (vb false)), (6000, .d true)] (av h1 (apc (ig eSym 6 .i64 h2) (av h3 (av h4 (av h5 (apc ((((F67_2_ok x2 a1 h6).own rfl (purAs_cons rfl (purAs_cons (purA_ptr rfl (mapO_con rfl (mapO_con rfl (mapO_con rfl (mapO_con rfl (mapO_con rfl rfl)))))) purAs_nil)) rfl).trans (congrArg (fun z => some (vb z)) h7)) : CP prg 67 [i6 x2.sort, .ptr 0 0] (L42_0_2_d0 a1 a4 x2) = some (vb false)) apn)))))) (by kernel_rfl)
   ·
    rw [← sj h]
    exact xretY [(70, .d true), (71, .v (.ro (eSym x2))), (76, .d false), (87, .d false), (6000, .d true)] (av h1 (apc (ig eSym 6 .i64 h2) (av h3 (av h4 apn)))) (by kernel_rfl)
 ·
  rw [← sj h]
  exact xbrk [(70, .d false), (6000, .d true)] (av h1 apn) (by kernel_rfl)
theorem L42_0_2_run (s0 : Int) (e : E_L42_0_2) (h : runL (fun s => L42_0_2 a1 a4 a5 s) s0 = some e) : L42_0_2_x a1 a2 a3 a4 e (L42_0_2_e a1 a2 a3 a4 a5 s0) := by
  have q := @loop_sound' (Int) E_L42_0_2 (fun s => L42_0_2 a1 a4 a5 s) (fun s => L42_0_2_e a1 a2 a3 a4 a5 s) (L42_0_2_x a1 a2 a3 a4) (fun s r h => L42_0_2_ok a1 a2 a3 a4 a5 s h) s0 e h
  exact q
end
inductive E_L42_1 where
  | k0
  | k1
section
variable (a1 : GramD) (a2 : Int)
def L42_1 (v1 : Int) : Option (E_L42_1 ⊕ (Int)) :=
  (bif (decide (v1 < a2)) then ((getI a1.prods v1).bind fun x2 => ((F67 x2 a1).bind fun x3 => (bif x3 then (bif (decide ((x2.right.length : Int) > 30)) then (some (.inl (.k0))) else (bif (decide (x2.role < 0)) then (some (.inl (.k0))) else (bif (decide (x2.role > 11)) then (some (.inl (.k0))) else (bif (decide (x2.frm < (-1))) then (some (.inl (.k0))) else (bif (decide ((x2.cons.size : Int) > 64)) then (some (.inl (.k0))) else (bif (!(x2.cons.toList == (⟨([] : List UInt8).toArray⟩ : ByteArray).toList)) then (bif (x2.role != 0) then (some (.inl (.k0))) else (bif x2.prefer then (bif x2.avoid then (some (.inl (.k0))) else ((runL (fun s => L42_0_2 a1 x2 (x2.right.length : Int) s) 0).bind fun r14 => match r14 with | .k0 => (some (.inl (.k0))) | .k1 => (some (.inr ((IntKind.wrap .i64 (v1 + 1))))))) else ((runL (fun s => L42_0_2 a1 x2 (x2.right.length : Int) s) 0).bind fun r13 => match r13 with | .k0 => (some (.inl (.k0))) | .k1 => (some (.inr ((IntKind.wrap .i64 (v1 + 1)))))))) else (bif x2.prefer then (bif x2.avoid then (some (.inl (.k0))) else ((runL (fun s => L42_0_2 a1 x2 (x2.right.length : Int) s) 0).bind fun r13 => match r13 with | .k0 => (some (.inl (.k0))) | .k1 => (some (.inr ((IntKind.wrap .i64 (v1 + 1))))))) else ((runL (fun s => L42_0_2 a1 x2 (x2.right.length : Int) s) 0).bind fun r12 => match r12 with | .k0 => (some (.inl (.k0))) | .k1 => (some (.inr ((IntKind.wrap .i64 (v1 + 1))))))))))))) else (some (.inl (.k0)))))) else (some (.inl (.k1))))
def L42_1_s (v1 : Int) : St := ⟨fr 110 ug [(1, .ptr 0 0), (3, (.fn 67 [.ptr 0 0])), (10, ls 7 eProd a1.prods), (11, i6 a2), (12, i6 v1)], [bG a1]⟩
abbrev L42_1_e (v1 : Int) := evH prg 1 [1, 3, 10, 11, 12] ir42_l1 (L42_1_s a1 a2 v1)
def L42_1_x (e : E_L42_1) (r : Option (Out × St)) : Prop := match e with | .k0 => ∃ g y, r = some (.ret, ⟨fr 110 g [(2, vb false)], y⟩) | .k1 => ∃ g, r = some ((.brk 0), ⟨fr 110 g [(1, .ptr 0 0), (10, ls 7 eProd a1.prods)], [bG a1]⟩)
abbrev L42_1_d0 (x2 : ProdD) : List AB := [bG a1, yY0, bP x2]
abbrev L42_1_d1 (g14 : Nat → AV) (v1 : Int) (x2 : ProdD) : St := ⟨fr 110 g14 [(1, .ptr 0 0), (3, (.fn 67 [.ptr 0 0])), (5, .ptr 2 0), (10, ls 7 eProd a1.prods), (11, i6 a2), (12, i6 v1), (67, ls 6 eSym x2.right)], [bG a1, yY0, bP x2]⟩
abbrev L42_1_d2 (g13 : Nat → AV) (v1 : Int) (x2 : ProdD) : St := ⟨fr 110 g13 [(1, .ptr 0 0), (3, (.fn 67 [.ptr 0 0])), (5, .ptr 2 0), (10, ls 7 eProd a1.prods), (11, i6 a2), (12, i6 v1), (67, ls 6 eSym x2.right)], [bG a1, yY0, bP x2]⟩
abbrev L42_1_d3 (g12 : Nat → AV) (v1 : Int) (x2 : ProdD) : St := ⟨fr 110 g12 [(1, .ptr 0 0), (3, (.fn 67 [.ptr 0 0])), (5, .ptr 2 0), (10, ls 7 eProd a1.prods), (11, i6 a2), (12, i6 v1), (67, ls 6 eSym x2.right)], [bG a1, yY0, bP x2]⟩
theorem L42_1_ok (v1 : Int) {r : E_L42_1 ⊕ (Int)} (h : L42_1 a1 a2 v1 = some r) : OkR (fun e => L42_1_x a1 e (L42_1_e a1 a2 v1)) (fun s => L42_1_e a1 a2 v1 = L42_1_e a1 a2 s) r := by
 unfold L42_1 at h
 refine bi h ?_ ?_ <;> intro h1 h
 ·
  refine bn h fun x2 h2 h => ?_
  refine bn h fun x3 h3 h => ?_
  refine bi h ?_ ?_ <;> intro h4 h
  ·
   have q2 := ((((F67_ok x2 a1 h3).own rfl (purAs_cons rfl (purAs_cons (purA_ptr rfl (mapO_con rfl (mapO_con rfl (mapO_con rfl (mapO_con rfl (mapO_con rfl rfl)))))) purAs_nil)) rfl).trans (congrArg (fun z => some (vb z)) h4)) : CP prg 67 [i6 x2.left, .ptr 0 0] (L42_1_d0 a1 x2) = some (vb true))
   refine bi h ?_ ?_ <;> intro h5 h
   ·
    rw [← sj h]
    exact xretY [(13, .d true), (14, .v (.ro (eProd x2))), (19, .v (vb true)), (24, .v (i6 (x2.right.length : Int))), (25, .d true), (6000, .d true)] (av h1 (apc (ig eProd 7 .i64 h2) (apc q2 (apc (lg x2.right eSym 6) (av h5 apn))))) (by kernel_rfl)
   ·
    refine bi h ?_ ?_ <;> intro h6 h
    ·
     rw [← sj h]
     exact xretY [(13, .d true), (14, .v (.ro (eProd x2))), (19, .v (vb true)), (24, .v (i6 (x2.right.length : Int))), (25, .d false), (30, .d true), (6000, .d true)] (av h1 (apc (ig eProd 7 .i64 h2) (apc q2 (apc (lg x2.right eSym 6) (av h5 (av h6 apn)))))) (by kernel_rfl)
    ·
     refine bi h ?_ ?_ <;> intro h7 h
     ·
      rw [← sj h]
      exact xretY [(13, .d true), (14, .v (.ro (eProd x2))), (19, .v (vb true)), (24, .v (i6 (x2.right.length : Int))), (25, .d false), (30, .d false), (35, .d true), (6000, .d true)] (av h1 (apc (ig eProd 7 .i64 h2) (apc q2 (apc (lg x2.right eSym 6) (av h5 (av h6 (av h7 apn))))))) (by kernel_rfl)
     ·
      refine bi h ?_ ?_ <;> intro h8 h
      ·
       rw [← sj h]
       exact xretY [(13, .d true), (14, .v (.ro (eProd x2))), (19, .v (vb true)), (24, .v (i6 (x2.right.length : Int))), (25, .d false), (30, .d false), (35, .d false), (40, .d true), (6000, .d true)] (av h1 (apc (ig eProd 7 .i64 h2) (apc q2 (apc (lg x2.right eSym 6) (av h5 (av h6 (av h7 (av h8 apn)))))))) (by kernel_rfl)
      ·
       refine bi h ?_ ?_ <;> intro h9 h
       ·
        rw [← sj h]
        exact xretY [(13, .d true), (14, .v (.ro (eProd x2))), (19, .v (vb true)), (24, .v (i6 (x2.right.length : Int))), (25, .d false), (30, .d false), (35, .d false), (40, .d false), (46, .d true), (6000, .d true)] (av h1 (apc (ig eProd 7 .i64 h2) (apc q2 (apc (lg x2.right eSym 6) (av h5 (av h6 (av h7 (av h8 (av h9 apn))))))))) (by kernel_rfl)
       ·
        refine bi h ?_ ?_ <;> intro h10 h
        ·
         refine bi h ?_ ?_ <;> intro h11 h
         ·
          rw [← sj h]
          exact xretY [(13, .d true), (14, .v (.ro (eProd x2))), (19, .v (vb true)), (24, .v (i6 (x2.right.length : Int))), (25, .d false), (30, .d false), (35, .d false), (40, .d false), (46, .d false), (51, .d true), (55, .d true), (6000, .d true)] (av h1 (apc (ig eProd 7 .i64 h2) (apc q2 (apc (lg x2.right eSym 6) (av h5 (av h6 (av h7 (av h8 (av h9 (av h10 (av h11 apn))))))))))) (by kernel_rfl)
         ·
          refine bi h ?_ ?_ <;> intro h12 h
          ·
           refine bi h ?_ ?_ <;> intro h13 h
           ·
            rw [← sj h]
            exact xretY [(13, .d true), (14, .v (.ro (eProd x2))), (19, .v (vb true)), (24, .v (i6 (x2.right.length : Int))), (25, .d false), (30, .d false), (35, .d false), (40, .d false), (46, .d false), (51, .d true), (55, .d false), (60, .d true), (63, .d true), (6000, .d true)] (av h1 (apc (ig eProd 7 .i64 h2) (apc q2 (apc (lg x2.right eSym 6) (av h5 (av h6 (av h7 (av h8 (av h9 (av h10 (av h11 (av h12 (av h13 apn))))))))))))) (by kernel_rfl)
           ·
            refine bn h fun r14 h14 h => ?_
            cases r14 with
            | k0 =>
             obtain ⟨g14, y14, e14⟩ := L42_0_2_run a1 a2 v1 x2 (x2.right.length : Int) 0 _ h14
             rw [← sj h]
             exact xretY [(13, .d true), (14, .v (.ro (eProd x2))), (19, .v (vb true)), (24, .v (i6 (x2.right.length : Int))), (25, .d false), (30, .d false), (35, .d false), (40, .d false), (46, .d false), (51, .d true), (55, .d false), (60, .d true), (63, .d false), (68, .v (i6 (x2.right.length : Int))), (2002, .l .ret ⟨fr 110 g14 [(2, vb false)], y14⟩), (6000, .d true)] (av h1 (apc (ig eProd 7 .i64 h2) (apc q2 (apc (lg x2.right eSym 6) (av h5 (av h6 (av h7 (av h8 (av h9 (av h10 (av h11 (av h12 (av h13 (apc (lg x2.right eSym 6) (apc ((oK (ac (ar (ac rfl)))) : okT 3 (L42_1_d0 a1 x2) = true) (apc (e14 : L42_0_2_e a1 a2 v1 x2 (x2.right.length : Int) 0 = some (.ret, ⟨fr 110 g14 [(2, vb false)], y14⟩)) apn)))))))))))))))) (by kernel_rfl)
            | k1 =>
             obtain ⟨g14, e14⟩ := L42_0_2_run a1 a2 v1 x2 (x2.right.length : Int) 0 _ h14
             rw [← sj h]
             exact rnd [(13, .d true), (14, .v (.ro (eProd x2))), (19, .v (vb true)), (24, .v (i6 (x2.right.length : Int))), (25, .d false), (30, .d false), (35, .d false), (40, .d false), (46, .d false), (51, .d true), (55, .d false), (60, .d true), (63, .d false), (68, .v (i6 (x2.right.length : Int))), (2002, .l (.brk 2) (L42_1_d1 a1 a2 g14 v1 x2)), (6000, .d true)] (av h1 (apc (ig eProd 7 .i64 h2) (apc q2 (apc (lg x2.right eSym 6) (av h5 (av h6 (av h7 (av h8 (av h9 (av h10 (av h11 (av h12 (av h13 (apc (lg x2.right eSym 6) (apc ((oK (ac (ar (ac rfl)))) : okT 3 (L42_1_d0 a1 x2) = true) (apc (e14 : L42_0_2_e a1 a2 v1 x2 (x2.right.length : Int) 0 = some ((.brk 2), L42_1_d1 a1 a2 g14 v1 x2)) (apc ((oK (ac rfl)) : okT 1 (L42_1_d0 a1 x2) = true) apn))))))))))))))))) (by kernel_rfl)
          ·
           refine bn h fun r13 h13 h => ?_
           cases r13 with
           | k0 =>
            obtain ⟨g13, y13, e13⟩ := L42_0_2_run a1 a2 v1 x2 (x2.right.length : Int) 0 _ h13
            rw [← sj h]
            exact xretY [(13, .d true), (14, .v (.ro (eProd x2))), (19, .v (vb true)), (24, .v (i6 (x2.right.length : Int))), (25, .d false), (30, .d false), (35, .d false), (40, .d false), (46, .d false), (51, .d true), (55, .d false), (60, .d false), (68, .v (i6 (x2.right.length : Int))), (2002, .l .ret ⟨fr 110 g13 [(2, vb false)], y13⟩), (6000, .d true)] (av h1 (apc (ig eProd 7 .i64 h2) (apc q2 (apc (lg x2.right eSym 6) (av h5 (av h6 (av h7 (av h8 (av h9 (av h10 (av h11 (av h12 (apc (lg x2.right eSym 6) (apc ((oK (ac (ar (ac rfl)))) : okT 3 (L42_1_d0 a1 x2) = true) (apc (e13 : L42_0_2_e a1 a2 v1 x2 (x2.right.length : Int) 0 = some (.ret, ⟨fr 110 g13 [(2, vb false)], y13⟩)) apn))))))))))))))) (by kernel_rfl)
           | k1 =>
            obtain ⟨g13, e13⟩ := L42_0_2_run a1 a2 v1 x2 (x2.right.length : Int) 0 _ h13
            rw [← sj h]
            exact rnd [(13, .d true), (14, .v (.ro (eProd x2))), (19, .v (vb true)), (24, .v (i6 (x2.right.length : Int))), (25, .d false), (30, .d false), (35, .d false), (40, .d false), (46, .d false), (51, .d true), (55, .d false), (60, .d false), (68, .v (i6 (x2.right.length : Int))), (2002, .l (.brk 2) (L42_1_d2 a1 a2 g13 v1 x2)), (6000, .d true)] (av h1 (apc (ig eProd 7 .i64 h2) (apc q2 (apc (lg x2.right eSym 6) (av h5 (av h6 (av h7 (av h8 (av h9 (av h10 (av h11 (av h12 (apc (lg x2.right eSym 6) (apc ((oK (ac (ar (ac rfl)))) : okT 3 (L42_1_d0 a1 x2) = true) (apc (e13 : L42_0_2_e a1 a2 v1 x2 (x2.right.length : Int) 0 = some ((.brk 2), L42_1_d2 a1 a2 g13 v1 x2)) (apc ((oK (ac rfl)) : okT 1 (L42_1_d0 a1 x2) = true) apn)))))))))))))))) (by kernel_rfl)
        ·
         refine bi h ?_ ?_ <;> intro h11 h
         ·
          refine bi h ?_ ?_ <;> intro h12 h
          ·
           rw [← sj h]
           exact xretY [(13, .d true), (14, .v (.ro (eProd x2))), (19, .v (vb true)), (24, .v (i6 (x2.right.length : Int))), (25, .d false), (30, .d false), (35, .d false), (40, .d false), (46, .d false), (51, .d false), (60, .d true), (63, .d true), (6000, .d true)] (av h1 (apc (ig eProd 7 .i64 h2) (apc q2 (apc (lg x2.right eSym 6) (av h5 (av h6 (av h7 (av h8 (av h9 (av h10 (av h11 (av h12 apn)))))))))))) (by kernel_rfl)
          ·
           refine bn h fun r13 h13 h => ?_
           cases r13 with
           | k0 =>
            obtain ⟨g13, y13, e13⟩ := L42_0_2_run a1 a2 v1 x2 (x2.right.length : Int) 0 _ h13
            rw [← sj h]
            exact xretY [(13, .d true), (14, .v (.ro (eProd x2))), (19, .v (vb true)), (24, .v (i6 (x2.right.length : Int))), (25, .d false), (30, .d false), (35, .d false), (40, .d false), (46, .d false), (51, .d false), (60, .d true), (63, .d false), (68, .v (i6 (x2.right.length : Int))), (2002, .l .ret ⟨fr 110 g13 [(2, vb false)], y13⟩), (6000, .d true)] (av h1 (apc (ig eProd 7 .i64 h2) (apc q2 (apc (lg x2.right eSym 6) (av h5 (av h6 (av h7 (av h8 (av h9 (av h10 (av h11 (av h12 (apc (lg x2.right eSym 6) (apc ((oK (ac (ar (ac rfl)))) : okT 3 (L42_1_d0 a1 x2) = true) (apc (e13 : L42_0_2_e a1 a2 v1 x2 (x2.right.length : Int) 0 = some (.ret, ⟨fr 110 g13 [(2, vb false)], y13⟩)) apn))))))))))))))) (by kernel_rfl)
           | k1 =>
            obtain ⟨g13, e13⟩ := L42_0_2_run a1 a2 v1 x2 (x2.right.length : Int) 0 _ h13
            rw [← sj h]
            exact rnd [(13, .d true), (14, .v (.ro (eProd x2))), (19, .v (vb true)), (24, .v (i6 (x2.right.length : Int))), (25, .d false), (30, .d false), (35, .d false), (40, .d false), (46, .d false), (51, .d false), (60, .d true), (63, .d false), (68, .v (i6 (x2.right.length : Int))), (2002, .l (.brk 2) (L42_1_d2 a1 a2 g13 v1 x2)), (6000, .d true)] (av h1 (apc (ig eProd 7 .i64 h2) (apc q2 (apc (lg x2.right eSym 6) (av h5 (av h6 (av h7 (av h8 (av h9 (av h10 (av h11 (av h12 (apc (lg x2.right eSym 6) (apc ((oK (ac (ar (ac rfl)))) : okT 3 (L42_1_d0 a1 x2) = true) (apc (e13 : L42_0_2_e a1 a2 v1 x2 (x2.right.length : Int) 0 = some ((.brk 2), L42_1_d2 a1 a2 g13 v1 x2)) (apc ((oK (ac rfl)) : okT 1 (L42_1_d0 a1 x2) = true) apn)))))))))))))))) (by kernel_rfl)
         ·
          refine bn h fun r12 h12 h => ?_
          cases r12 with
          | k0 =>
           obtain ⟨g12, y12, e12⟩ := L42_0_2_run a1 a2 v1 x2 (x2.right.length : Int) 0 _ h12
           rw [← sj h]
           exact xretY [(13, .d true), (14, .v (.ro (eProd x2))), (19, .v (vb true)), (24, .v (i6 (x2.right.length : Int))), (25, .d false), (30, .d false), (35, .d false), (40, .d false), (46, .d false), (51, .d false), (60, .d false), (68, .v (i6 (x2.right.length : Int))), (2002, .l .ret ⟨fr 110 g12 [(2, vb false)], y12⟩), (6000, .d true)] (av h1 (apc (ig eProd 7 .i64 h2) (apc q2 (apc (lg x2.right eSym 6) (av h5 (av h6 (av h7 (av h8 (av h9 (av h10 (av h11 (apc (lg x2.right eSym 6) (apc ((oK (ac (ar (ac rfl)))) : okT 3 (L42_1_d0 a1 x2) = true) (apc (e12 : L42_0_2_e a1 a2 v1 x2 (x2.right.length : Int) 0 = some (.ret, ⟨fr 110 g12 [(2, vb false)], y12⟩)) apn)))))))))))))) (by kernel_rfl)
          | k1 =>
           obtain ⟨g12, e12⟩ := L42_0_2_run a1 a2 v1 x2 (x2.right.length : Int) 0 _ h12
           rw [← sj h]
           exact rnd [(13, .d true), (14, .v (.ro (eProd x2))), (19, .v (vb true)), (24, .v (i6 (x2.right.length : Int))), (25, .d false), (30, .d false), (35, .d false), (40, .d false), (46, .d false), (51, .d false), (60, .d false), (68, .v (i6 (x2.right.length : Int))), (2002, .l (.brk 2) (L42_1_d3 a1 a2 g12 v1 x2)), (6000, .d true)] (av h1 (apc (ig eProd 7 .i64 h2) (apc q2 (apc (lg x2.right eSym 6) (av h5 (av h6 (av h7 (av h8 (av h9 (av h10 (av h11 (apc (lg x2.right eSym 6) (apc ((oK (ac (ar (ac rfl)))) : okT 3 (L42_1_d0 a1 x2) = true) (apc (e12 : L42_0_2_e a1 a2 v1 x2 (x2.right.length : Int) 0 = some ((.brk 2), L42_1_d3 a1 a2 g12 v1 x2)) (apc ((oK (ac rfl)) : okT 1 (L42_1_d0 a1 x2) = true) apn))))))))))))))) (by kernel_rfl)
  ·
   rw [← sj h]
   exact xretY [(13, .d true), (14, .v (.ro (eProd x2))), (19, .v (vb false)), (6000, .d true)] (av h1 (apc (ig eProd 7 .i64 h2) (apc ((((F67_ok x2 a1 h3).own rfl (purAs_cons rfl (purAs_cons (purA_ptr rfl (mapO_con rfl (mapO_con rfl (mapO_con rfl (mapO_con rfl (mapO_con rfl rfl)))))) purAs_nil)) rfl).trans (congrArg (fun z => some (vb z)) h4)) : CP prg 67 [i6 x2.left, .ptr 0 0] (L42_1_d0 a1 x2) = some (vb false)) apn))) (by kernel_rfl)
 ·
  rw [← sj h]
  exact xbrk [(13, .d false), (6000, .d true)] (av h1 apn) (by kernel_rfl)
theorem L42_1_run (s0 : Int) (e : E_L42_1) (h : runL (fun s => L42_1 a1 a2 s) s0 = some e) : L42_1_x a1 e (L42_1_e a1 a2 s0) := by
  have q := @loop_sound' (Int) E_L42_1 (fun s => L42_1 a1 a2 s) (fun s => L42_1_e a1 a2 s) (L42_1_x a1) (fun s r h => L42_1_ok a1 a2 s h) s0 e h
  exact q
end
def F42_v (a1 : GramD) (x0 : Bool) : AV := (vb x0)
def F42 (a1 : GramD) : Option Bool :=
  ((runL (fun s => L42_1 a1 (a1.prods.length : Int) s) 0).bind fun r1 => match r1 with | .k0 => (some false) | .k1 => (some (decide ((a1.prods.length : Int) ≤ 1000))))
abbrev F42_d0 (g1 : Nat → AV) (a1 : GramD) : St := ⟨fr 110 g1 [(1, .ptr 0 0), (10, ls 7 eProd a1.prods)], [bG a1]⟩
theorem F42_ok (a1 : GramD) {r : Bool} (h : F42 a1 = some r) : PR1 prg 42 [aG a1] (F42_v a1 r) := by
 unfold F42 at h
 refine bn h fun r1 h1 h => ?_
 cases r1 with
 | k0 =>
  obtain ⟨g1, y1, e1⟩ := L42_1_run a1 (lP a1) 0 _ h1
  rw [← sj h]
  exact fpr [(11, .v (i6 (lP a1))), (2000, .l .ret ⟨fr 110 g1 [(2, vb false)], y1⟩), (6000, .d true)] (apc (lg a1.prods eProd 7) (apc ((oK (ac rfl)) : okT 1 [bG a1] = true) (apc (e1 : L42_1_e a1 (lP a1) 0 = some (.ret, ⟨fr 110 g1 [(2, vb false)], y1⟩)) apn))) rfl (by kernel_rfl)
 | k1 =>
  obtain ⟨g1, e1⟩ := L42_1_run a1 (lP a1) 0 _ h1
  rw [← sj h]
  exact fpr [(11, .v (i6 (lP a1))), (2000, .l (.brk 0) (F42_d0 g1 a1)), (108, .v (i6 (lP a1))), (6000, .d true)] (apc (lg a1.prods eProd 7) (apc ((oK (ac rfl)) : okT 1 [bG a1] = true) (apc (e1 : L42_1_e a1 (lP a1) 0 = some ((.brk 0), F42_d0 g1 a1)) (apc (lg a1.prods eProd 7) apn)))) rfl (by kernel_rfl)
def F68_v (a1 : ForbD) (a2 : GramD) (x0 : Bool) : AV := (vb x0)
def F68 (a1 : ForbD) (a2 : GramD) : Option Bool :=
  (bif (decide (a1.parent ≥ 0)) then (bif (decide (a1.parent < (a2.prods.length : Int))) then ((getI a2.prods a1.parent).bind fun x3 => (some (x3.role != 11))) else (some false)) else (some false))
theorem F68_ok (a1 : ForbD) (a2 : GramD) {r : Bool} (h : F68 a1 a2 = some r) : PR1 prg 68 [i6 a1.parent, (.ro (eGram a2))] (F68_v a1 a2 r) := by
 unfold F68 at h
 refine bi h ?_ ?_ <;> intro h1 h
 ·
  refine bi h ?_ ?_ <;> intro h2 h
  ·
   refine bn h fun x3 h3 h => ?_
   rw [← sj h]
   exact fpr [(5, .d true), (10, .v (i6 (lP a2))), (11, .d true), (17, .v (.ro (eProd x3)))] (av h1 (apc (lg a2.prods eProd 7) (av h2 (apc (ig eProd 7 .i64 h3) apn)))) rfl (by kernel_rfl)
  ·
   rw [← sj h]
   exact fpr [(5, .d true), (10, .v (i6 (lP a2))), (11, .d false)] (av h1 (apc (lg a2.prods eProd 7) (av h2 apn))) rfl (by kernel_rfl)
 ·
  rw [← sj h]
  exact fpr [(5, .d false)] (av h1 apn) rfl (by kernel_rfl)
def F68_2_v (a1 : ForbD) (a2 : GramD) (x0 : Bool) : AV := (vb x0)
def F68_2 (a1 : ForbD) (a2 : GramD) : Option Bool :=
  (bif (decide (a1.child ≥ 0)) then (bif (decide (a1.child < (a2.prods.length : Int))) then ((getI a2.prods a1.child).bind fun x3 => (some (x3.role != 11))) else (some false)) else (some false))
theorem F68_2_ok (a1 : ForbD) (a2 : GramD) {r : Bool} (h : F68_2 a1 a2 = some r) : PR1 prg 68 [i6 a1.child, (.ro (eGram a2))] (F68_2_v a1 a2 r) := by
 unfold F68_2 at h
 refine bi h ?_ ?_ <;> intro h1 h
 ·
  refine bi h ?_ ?_ <;> intro h2 h
  ·
   refine bn h fun x3 h3 h => ?_
   rw [← sj h]
   exact fpr [(5, .d true), (10, .v (i6 (lP a2))), (11, .d true), (17, .v (.ro (eProd x3)))] (av h1 (apc (lg a2.prods eProd 7) (av h2 (apc (ig eProd 7 .i64 h3) apn)))) rfl (by kernel_rfl)
  ·
   rw [← sj h]
   exact fpr [(5, .d true), (10, .v (i6 (lP a2))), (11, .d false)] (av h1 (apc (lg a2.prods eProd 7) (av h2 apn))) rfl (by kernel_rfl)
 ·
  rw [← sj h]
  exact fpr [(5, .d false)] (av h1 apn) rfl (by kernel_rfl)
inductive E_L43_0 where
  | k0
  | k1 (x0 : List ((Int × Int × Int) × Int))
section
variable (a1 : GramD) (a2 : Int)
def L43_0 (v1 : Int) (v2 : List ((Int × Int × Int) × Int)) : Option (E_L43_0 ⊕ (Int × (List ((Int × Int × Int) × Int)))) :=
  (bif (decide (v1 < a2)) then ((getI a1.forbid v1).bind fun x2 => (bif (decide ((mget 0 (mput (x2.parent, x2.at_, x2.child) (IntKind.wrap .i64 ((mget 0 v2 (x2.parent, x2.at_, x2.child)) + 1)) v2) (x2.parent, x2.at_, x2.child)) > 1)) then (some (.inl (.k0))) else ((F68 x2 a1).bind fun x4 => (bif x4 then ((F68_2 x2 a1).bind fun x6 => (bif x6 then (bif (decide (x2.at_ < 1)) then (some (.inl (.k0))) else ((getI a1.prods x2.parent).bind fun x9 => (bif (decide (x2.at_ > (x9.right.length : Int))) then (some (.inl (.k0))) else ((getI x9.right (IntKind.wrap .i64 (x2.at_ - 1))).bind fun x11 => (bif (x11.kind != 1) then (some (.inl (.k0))) else ((getI a1.prods x2.child).bind fun x13 => (bif (x11.sort != x13.left) then (some (.inl (.k0))) else (some (.inr ((IntKind.wrap .i64 (v1 + 1)), (mput (x2.parent, x2.at_, x2.child) (IntKind.wrap .i64 ((mget 0 v2 (x2.parent, x2.at_, x2.child)) + 1)) v2))))))))))) else (some (.inl (.k0))))) else (some (.inl (.k0))))))) else (some (.inl (.k1 v2))))
def L43_0_s (v1 : Int) (v2 : List ((Int × Int × Int) × Int)) : St := ⟨fr 87 ug [(1, .ptr 0 0), (3, .mp 1), (4, (.fn 68 [.ptr 0 0])), (11, ls 3 eForb a1.forbid), (12, i6 a2), (13, i6 v1)], [bG a1, .map (mrow (fun n => .agg [vi .i64 n.1, vi .i64 n.2.1, vi .i64 n.2.2]) (fun n => vi .i64 n) v2)]⟩
abbrev L43_0_e (v1 : Int) (v2 : List ((Int × Int × Int) × Int)) := evH prg 2 [1, 3, 4, 11, 12, 13] ir43_l0 (L43_0_s a1 a2 v1 v2)
def L43_0_x (e : E_L43_0) (r : Option (Out × St)) : Prop := match e with | .k0 => ∃ g y, r = some (.ret, ⟨fr 87 g [(2, vb false)], y⟩) | .k1 x0 => ∃ g, r = some ((.brk 0), ⟨fr 87 g [(1, .ptr 0 0), (11, ls 3 eForb a1.forbid)], [bG a1, .map (mrow (fun n => .agg [vi .i64 n.1, vi .i64 n.2.1, vi .i64 n.2.2]) (fun n => vi .i64 n) x0)]⟩)
abbrev L43_0_d0 (v2 : List ((Int × Int × Int) × Int)) (x2 : ForbD) : List AB := [bG a1, .map (mrow (fun n => .agg [vi .i64 n.1, vi .i64 n.2.1, vi .i64 n.2.2]) (fun n => vi .i64 n) v2), .cells 78 ((eForb x2).map .p)]
abbrev L43_0_d1 (v2 : List ((Int × Int × Int) × Int)) (x2 : ForbD) : List AB := [bG a1, .map (mrow (fun n => .agg [vi .i64 n.1, vi .i64 n.2.1, vi .i64 n.2.2]) (fun n => vi .i64 n) (ment 0 v2 (x2.parent, x2.at_, x2.child))), .cells 78 ((eForb x2).map .p)]
abbrev L43_0_d2 (x2 : ForbD) (v2 : List ((Int × Int × Int) × Int)) : List AB := [bG a1, .map (mrow (fun n => .agg [vi .i64 n.1, vi .i64 n.2.1, vi .i64 n.2.2]) (fun n => vi .i64 n) (mput (x2.parent, x2.at_, x2.child) (w6 ((mget 0 v2 (x2.parent, x2.at_, x2.child)) + 1)) v2)), .cells 78 ((eForb x2).map .p)]
abbrev L43_0_c0 (x2 : ForbD) (v2 : List ((Int × Int × Int) × Int)) : List (Nat × Hint) := [(15, .v (.ro (eForb x2))), (19, .v (i6 (mget 0 v2 (x2.parent, x2.at_, x2.child)))), (21, .r (.tup [(i6 (mget 0 v2 (x2.parent, x2.at_, x2.child))), (i6 (midx v2 (x2.parent, x2.at_, x2.child) : Int))]) (L43_0_d1 a1 v2 x2)), (8020, .r ud (L43_0_d2 a1 x2 v2)), (25, .v (i6 (mget 0 (mput (x2.parent, x2.at_, x2.child) (w6 ((mget 0 v2 (x2.parent, x2.at_, x2.child)) + 1)) v2) (x2.parent, x2.at_, x2.child))))]
theorem L43_0_ok (v1 : Int) (v2 : List ((Int × Int × Int) × Int)) {r : E_L43_0 ⊕ (Int × (List ((Int × Int × Int) × Int)))} (h : L43_0 a1 a2 v1 v2 = some r) : OkR (fun e => L43_0_x a1 e (L43_0_e a1 a2 v1 v2)) (fun s => L43_0_e a1 a2 v1 v2 = L43_0_e a1 a2 s.1 s.2) r := by
 unfold L43_0 at h
 refine bi h ?_ ?_ <;> intro h1 h
 ·
  refine bn h fun x2 h2 h => ?_
  have q2 := ((lk_row key_int3 (es := v2) (k := (x2.parent, x2.at_, x2.child)) (z := 0) rfl rfl) : lkA (L43_0_d0 a1 v2 x2) [1, 1, 1] .true .false [(.val (.int .i64 0))] .false (.mp 1) (.agg ((eForb x2).map .p)) = some (i6 (mget 0 v2 (x2.parent, x2.at_, x2.child))))
  have q3 := ((en_row key_int3 (es := v2) (k := (x2.parent, x2.at_, x2.child)) (z := 0) rfl rfl) : enA (L43_0_d0 a1 v2 x2) [1, 1, 1] .true .false [(.val (.int .i64 0))] (.mp 1) (.agg ((eForb x2).map .p)) = some ((.tup [(i6 (mget 0 v2 (x2.parent, x2.at_, x2.child))), (i6 (midx v2 (x2.parent, x2.at_, x2.child) : Int))]), L43_0_d1 a1 v2 x2))
  have q4 := (⟨es_row key_int3 (es := v2) (k := (x2.parent, x2.at_, x2.child)) (v := (w6 ((mget 0 v2 (x2.parent, x2.at_, x2.child)) + 1))) (z := 0) rfl, rfl⟩ : esA (L43_0_d1 a1 v2 x2) (.mp 1) (i6 (midx v2 (x2.parent, x2.at_, x2.child) : Int)) (i6 (w6 ((mget 0 v2 (x2.parent, x2.at_, x2.child)) + 1))) = some (L43_0_d2 a1 x2 v2) ∧ ud = ud)
  have q5 := ((lk_row key_int3 (es := (mput (x2.parent, x2.at_, x2.child) (w6 ((mget 0 v2 (x2.parent, x2.at_, x2.child)) + 1)) v2)) (k := (x2.parent, x2.at_, x2.child)) (z := 0) rfl rfl) : lkA (L43_0_d2 a1 x2 v2) [1, 1, 1] .true .false [(.val (.int .i64 0))] .false (.mp 1) (.agg ((eForb x2).map .p)) = some (i6 (mget 0 (mput (x2.parent, x2.at_, x2.child) (w6 ((mget 0 v2 (x2.parent, x2.at_, x2.child)) + 1)) v2) (x2.parent, x2.at_, x2.child))))
  refine bi h ?_ ?_ <;> intro h3 h
  ·
   rw [← sj h]
   exact xretY ([(14, .d true)] ++ ((L43_0_c0 a1 x2 v2) ++ [(26, .d true), (6000, .d true)])) (av h1 (apc (ig eForb 3 .i64 h2) (apc q2 (apc q3 (apc q4 (apc q5 (av h3 apn))))))) (by kernel_rfl)
  ·
   refine bn h fun x4 h4 h => ?_
   refine bi h ?_ ?_ <;> intro h5 h
   ·
    have q7 := ((((F68_ok x2 a1 h4).own rfl (purAs_cons rfl (purAs_cons (purA_ptr rfl (mapO_con rfl (mapO_con rfl (mapO_con rfl (mapO_con rfl (mapO_con rfl rfl)))))) purAs_nil)) rfl).trans (congrArg (fun z => some (vb z)) h5)) : CP prg 68 [i6 x2.parent, .ptr 0 0] (L43_0_d2 a1 x2 v2) = some (vb true))
    refine bn h fun x6 h6 h => ?_
    refine bi h ?_ ?_ <;> intro h7 h
    ·
     have q8 := ((((F68_2_ok x2 a1 h6).own rfl (purAs_cons rfl (purAs_cons (purA_ptr rfl (mapO_con rfl (mapO_con rfl (mapO_con rfl (mapO_con rfl (mapO_con rfl rfl)))))) purAs_nil)) rfl).trans (congrArg (fun z => some (vb z)) h7)) : CP prg 68 [i6 x2.child, .ptr 0 0] (L43_0_d2 a1 x2 v2) = some (vb true))
     refine bi h ?_ ?_ <;> intro h8 h
     ·
      rw [← sj h]
      exact xretY ([(14, .d true)] ++ ((L43_0_c0 a1 x2 v2) ++ [(26, .d false), (31, .v (vb true)), (38, .v (vb true)), (44, .d true), (6000, .d true)])) (av h1 (apc (ig eForb 3 .i64 h2) (apc q2 (apc q3 (apc q4 (apc q5 (av h3 (apc q7 (apc q8 (av h8 apn)))))))))) (by kernel_rfl)
     ·
      refine bn h fun x9 h9 h => ?_
      refine bi h ?_ ?_ <;> intro h10 h
      ·
       rw [← sj h]
       exact xretY ([(14, .d true)] ++ ((L43_0_c0 a1 x2 v2) ++ [(26, .d false), (31, .v (vb true)), (38, .v (vb true)), (44, .d false), (53, .v (.ro (eProd x9))), (56, .v (i6 (x9.right.length : Int))), (57, .d true), (6000, .d true)])) (av h1 (apc (ig eForb 3 .i64 h2) (apc q2 (apc q3 (apc q4 (apc q5 (av h3 (apc q7 (apc q8 (av h8 (apc (ig eProd 7 .i64 h9) (apc (lg x9.right eSym 6) (av h10 apn))))))))))))) (by kernel_rfl)
      ·
       refine bn h fun x11 h11 h => ?_
       refine bi h ?_ ?_ <;> intro h12 h
       ·
        rw [← sj h]
        exact xretY ([(14, .d true)] ++ ((L43_0_c0 a1 x2 v2) ++ [(26, .d false), (31, .v (vb true)), (38, .v (vb true)), (44, .d false), (53, .v (.ro (eProd x9))), (56, .v (i6 (x9.right.length : Int))), (57, .d false), (63, .v (.ro (eProd x9))), (69, .v (.ro (eSym x11))), (73, .d true), (6000, .d true)])) (av h1 (apc (ig eForb 3 .i64 h2) (apc q2 (apc q3 (apc q4 (apc q5 (av h3 (apc q7 (apc q8 (av h8 (apc (ig eProd 7 .i64 h9) (apc (lg x9.right eSym 6) (av h10 (apc (ig eProd 7 .i64 h9) (apc (ig eSym 6 .i64 h11) (av h12 apn)))))))))))))))) (by kernel_rfl)
       ·
        refine bn h fun x13 h13 h => ?_
        refine bi h ?_ ?_ <;> intro h14 h
        ·
         rw [← sj h]
         exact xretY ([(14, .d true)] ++ ((L43_0_c0 a1 x2 v2) ++ [(26, .d false), (31, .v (vb true)), (38, .v (vb true)), (44, .d false), (53, .v (.ro (eProd x9))), (56, .v (i6 (x9.right.length : Int))), (57, .d false), (63, .v (.ro (eProd x9))), (69, .v (.ro (eSym x11))), (73, .d false), (81, .v (.ro (eProd x13))), (84, .d true), (6000, .d true)])) (av h1 (apc (ig eForb 3 .i64 h2) (apc q2 (apc q3 (apc q4 (apc q5 (av h3 (apc q7 (apc q8 (av h8 (apc (ig eProd 7 .i64 h9) (apc (lg x9.right eSym 6) (av h10 (apc (ig eProd 7 .i64 h9) (apc (ig eSym 6 .i64 h11) (av h12 (apc (ig eProd 7 .i64 h13) (av h14 apn)))))))))))))))))) (by kernel_rfl)
        ·
         rw [← sj h]
         exact rnd ([(14, .d true)] ++ ((L43_0_c0 a1 x2 v2) ++ [(26, .d false), (31, .v (vb true)), (38, .v (vb true)), (44, .d false), (53, .v (.ro (eProd x9))), (56, .v (i6 (x9.right.length : Int))), (57, .d false), (63, .v (.ro (eProd x9))), (69, .v (.ro (eSym x11))), (73, .d false), (81, .v (.ro (eProd x13))), (84, .d false), (6000, .d true)])) (av h1 (apc (ig eForb 3 .i64 h2) (apc q2 (apc q3 (apc q4 (apc q5 (av h3 (apc q7 (apc q8 (av h8 (apc (ig eProd 7 .i64 h9) (apc (lg x9.right eSym 6) (av h10 (apc (ig eProd 7 .i64 h9) (apc (ig eSym 6 .i64 h11) (av h12 (apc (ig eProd 7 .i64 h13) (av h14 (apc ((oK (ac (abl_cons (abl_map (fun _ => rfl) (fun _ => rfl)) rfl))) : okT 2 [bG a1, .map (mrow (fun n => .agg [vi .i64 n.1, vi .i64 n.2.1, vi .i64 n.2.2]) (fun n => vi .i64 n) (mput (x2.parent, x2.at_, x2.child) (w6 ((mget 0 v2 (x2.parent, x2.at_, x2.child)) + 1)) v2)), .cells 78 ((eForb x2).map .p), .cells 68 ((eSym x11).map .p)] = true) apn))))))))))))))))))) (by kernel_rfl)
    ·
     rw [← sj h]
     exact xretY ([(14, .d true)] ++ ((L43_0_c0 a1 x2 v2) ++ [(26, .d false), (31, .v (vb true)), (38, .v (vb false)), (6000, .d true)])) (av h1 (apc (ig eForb 3 .i64 h2) (apc q2 (apc q3 (apc q4 (apc q5 (av h3 (apc q7 (apc ((((F68_2_ok x2 a1 h6).own rfl (purAs_cons rfl (purAs_cons (purA_ptr rfl (mapO_con rfl (mapO_con rfl (mapO_con rfl (mapO_con rfl (mapO_con rfl rfl)))))) purAs_nil)) rfl).trans (congrArg (fun z => some (vb z)) h7)) : CP prg 68 [i6 x2.child, .ptr 0 0] (L43_0_d2 a1 x2 v2) = some (vb false)) apn))))))))) (by kernel_rfl)
   ·
    rw [← sj h]
    exact xretY ([(14, .d true)] ++ ((L43_0_c0 a1 x2 v2) ++ [(26, .d false), (31, .v (vb false)), (6000, .d true)])) (av h1 (apc (ig eForb 3 .i64 h2) (apc q2 (apc q3 (apc q4 (apc q5 (av h3 (apc ((((F68_ok x2 a1 h4).own rfl (purAs_cons rfl (purAs_cons (purA_ptr rfl (mapO_con rfl (mapO_con rfl (mapO_con rfl (mapO_con rfl (mapO_con rfl rfl)))))) purAs_nil)) rfl).trans (congrArg (fun z => some (vb z)) h5)) : CP prg 68 [i6 x2.parent, .ptr 0 0] (L43_0_d2 a1 x2 v2) = some (vb false)) apn)))))))) (by kernel_rfl)
 ·
  rw [← sj h]
  exact xbrk [(14, .d false), (6000, .d true)] (av h1 apn) (by kernel_rfl)
theorem L43_0_run (s0 : Int × (List ((Int × Int × Int) × Int))) (e : E_L43_0) (h : runL (fun s => L43_0 a1 a2 s.1 s.2) s0 = some e) : L43_0_x a1 e (L43_0_e a1 a2 s0.1 s0.2) := by
  have q := @loop_sound' (Int × (List ((Int × Int × Int) × Int))) E_L43_0 (fun s => L43_0 a1 a2 s.1 s.2) (fun s => L43_0_e a1 a2 s.1 s.2) (L43_0_x a1) (fun s r h => L43_0_ok a1 a2 s.1 s.2 h) s0 e h
  exact q
end
def F43_v (a1 : GramD) (x0 : Bool) : AV := (vb x0)
def F43 (a1 : GramD) : Option Bool :=
  ((runL (fun s => L43_0 a1 (a1.forbid.length : Int) s.1 s.2) (0, [])).bind fun r1 => match r1 with | .k0 => (some false) | .k1 x1_0 => (some true))
abbrev F43_d0 (g1 : Nat → AV) (a1 : GramD) (x1_0 : List ((Int × Int × Int) × Int)) : St := ⟨fr 87 g1 [(1, .ptr 0 0), (11, ls 3 eForb a1.forbid)], [bG a1, .map (mrow (fun n => .agg [vi .i64 n.1, vi .i64 n.2.1, vi .i64 n.2.2]) (fun n => vi .i64 n) x1_0)]⟩
theorem F43_ok (a1 : GramD) {r : Bool} (h : F43 a1 = some r) : PR1 prg 43 [aG a1] (F43_v a1 r) := by
 unfold F43 at h
 refine bn h fun r1 h1 h => ?_
 cases r1 with
 | k0 =>
  obtain ⟨g1, y1, e1⟩ := L43_0_run a1 (lF a1) (0, []) _ h1
  rw [← sj h]
  exact fpr [(12, .v (i6 (lF a1))), (2000, .l .ret ⟨fr 87 g1 [(2, vb false)], y1⟩), (6000, .d true)] (apc (lg a1.forbid eForb 3) (apc ((oK (ac (ac rfl))) : okT 2 [bG a1, .map []] = true) (apc (e1 : L43_0_e a1 (lF a1) 0 ([]) = some (.ret, ⟨fr 87 g1 [(2, vb false)], y1⟩)) apn))) rfl (by kernel_rfl)
 | k1 x1_0 =>
  obtain ⟨g1, e1⟩ := L43_0_run a1 (lF a1) (0, []) _ h1
  rw [← sj h]
  exact fpr [(12, .v (i6 (lF a1))), (2000, .l (.brk 0) (F43_d0 g1 a1 x1_0)), (6000, .d true)] (apc (lg a1.forbid eForb 3) (apc ((oK (ac (ac rfl))) : okT 2 [bG a1, .map []] = true) (apc (e1 : L43_0_e a1 (lF a1) 0 ([]) = some ((.brk 0), F43_d0 g1 a1 x1_0)) apn))) rfl (by kernel_rfl)
inductive E_L44_0 where
  | k0
  | k1 (x0 : List (Int × Int))
section
variable (a1 : GramD) (a2 : Int)
def L44_0 (v1 : Int) (v2 : List (Int × Int)) : Option (E_L44_0 ⊕ (Int × (List (Int × Int)))) :=
  (bif (decide (v1 < a2)) then ((getI a1.follow v1).bind fun x2 => (bif (decide ((mget 0 (mput x2.sort (IntKind.wrap .i64 ((mget 0 v2 x2.sort) + 1)) v2) x2.sort) > 1)) then (some (.inl (.k0))) else (bif (decide (x2.sort < 0)) then (some (.inl (.k0))) else (bif (decide (x2.sort ≥ (a1.sorts.length : Int))) then (some (.inl (.k0))) else (bif ((x2.a == 0) && ((x2.b == 0) && ((x2.c == 0) && ((x2.d == 0) && true)))) then (some (.inl (.k0))) else (some (.inr ((IntKind.wrap .i64 (v1 + 1)), (mput x2.sort (IntKind.wrap .i64 ((mget 0 v2 x2.sort) + 1)) v2))))))))) else (some (.inl (.k1 v2))))
def L44_0_s (v1 : Int) (v2 : List (Int × Int)) : St := ⟨fr 44 ug [(1, .ptr 0 0), (3, .mp 1), (8, ls 5 eFoll a1.follow), (9, i6 a2), (10, i6 v1)], [bG a1, .map (mrow (fun n => vi .i64 n) (fun n => vi .i64 n) v2)]⟩
abbrev L44_0_e (v1 : Int) (v2 : List (Int × Int)) := evH prg 2 [1, 3, 8, 9, 10] ir44_l0 (L44_0_s a1 a2 v1 v2)
def L44_0_x (e : E_L44_0) (r : Option (Out × St)) : Prop := match e with | .k0 => ∃ g y, r = some (.ret, ⟨fr 44 g [(2, vb false)], y⟩) | .k1 x0 => ∃ g, r = some ((.brk 0), ⟨fr 44 g [(1, .ptr 0 0), (8, ls 5 eFoll a1.follow)], [bG a1, .map (mrow (fun n => vi .i64 n) (fun n => vi .i64 n) x0)]⟩)
abbrev L44_0_d0 (v2 : List (Int × Int)) (x2 : FollD) : List AB := [bG a1, .map (mrow (fun n => vi .i64 n) (fun n => vi .i64 n) v2), .cells 80 ((eFoll x2).map .p)]
abbrev L44_0_d1 (x2 : FollD) (v2 : List (Int × Int)) : List AB := [bG a1, .map (mrow (fun n => vi .i64 n) (fun n => vi .i64 n) (mput x2.sort (w6 ((mget 0 v2 x2.sort) + 1)) v2)), .cells 80 ((eFoll x2).map .p)]
abbrev L44_0_c0 (x2 : FollD) (v2 : List (Int × Int)) : List (Nat × Hint) := [(12, .v (.ro (eFoll x2))), (17, .v (i6 (mget 0 v2 x2.sort))), (7018, .r ud (L44_0_d1 a1 x2 v2)), (22, .v (i6 (mget 0 (mput x2.sort (w6 ((mget 0 v2 x2.sort) + 1)) v2) x2.sort)))]
theorem L44_0_ok (v1 : Int) (v2 : List (Int × Int)) {r : E_L44_0 ⊕ (Int × (List (Int × Int)))} (h : L44_0 a1 a2 v1 v2 = some r) : OkR (fun e => L44_0_x a1 e (L44_0_e a1 a2 v1 v2)) (fun s => L44_0_e a1 a2 v1 v2 = L44_0_e a1 a2 s.1 s.2) r := by
 unfold L44_0 at h
 refine bi h ?_ ?_ <;> intro h1 h
 ·
  refine bn h fun x2 h2 h => ?_
  have q2 := ((lk_row key_int (es := v2) (k := x2.sort) (z := 0) rfl rfl) : lkA (L44_0_d0 a1 v2 x2) [1] .false .false [(.val (.int .i64 0))] .false (.mp 1) (i6 x2.sort) = some (i6 (mget 0 v2 x2.sort)))
  have q3 := (⟨up_row key_int (es := v2) (k := x2.sort) (v := (w6 ((mget 0 v2 x2.sort) + 1))) rfl, rfl⟩ : upA (L44_0_d0 a1 v2 x2) [1] .false (.mp 1) (i6 x2.sort) (i6 (w6 ((mget 0 v2 x2.sort) + 1))) = some (L44_0_d1 a1 x2 v2) ∧ ud = ud)
  have q4 := ((lk_row key_int (es := (mput x2.sort (w6 ((mget 0 v2 x2.sort) + 1)) v2)) (k := x2.sort) (z := 0) rfl rfl) : lkA (L44_0_d1 a1 x2 v2) [1] .false .false [(.val (.int .i64 0))] .false (.mp 1) (i6 x2.sort) = some (i6 (mget 0 (mput x2.sort (w6 ((mget 0 v2 x2.sort) + 1)) v2) x2.sort)))
  refine bi h ?_ ?_ <;> intro h3 h
  ·
   rw [← sj h]
   exact xretY ([(11, .d true)] ++ ((L44_0_c0 a1 x2 v2) ++ [(23, .d true), (6000, .d true)])) (av h1 (apc (ig eFoll 5 .i64 h2) (apc q2 (apc q3 (apc q4 (av h3 apn)))))) (by kernel_rfl)
  ·
   refine bi h ?_ ?_ <;> intro h4 h
   ·
    rw [← sj h]
    exact xretY ([(11, .d true)] ++ ((L44_0_c0 a1 x2 v2) ++ [(23, .d false), (27, .d true), (6000, .d true)])) (av h1 (apc (ig eFoll 5 .i64 h2) (apc q2 (apc q3 (apc q4 (av h3 (av h4 apn))))))) (by kernel_rfl)
   ·
    refine bi h ?_ ?_ <;> intro h5 h
    ·
     rw [← sj h]
     exact xretY ([(11, .d true)] ++ ((L44_0_c0 a1 x2 v2) ++ [(23, .d false), (27, .d false), (34, .v (i6 (lS a1))), (35, .d true), (6000, .d true)])) (av h1 (apc (ig eFoll 5 .i64 h2) (apc q2 (apc q3 (apc q4 (av h3 (av h4 (apc (lg a1.sorts eStr 1) (av h5 apn))))))))) (by kernel_rfl)
    ·
     refine bi h ?_ ?_ <;> intro h6 h
     ·
      rw [← sj h]
      exact xretY ([(11, .d true)] ++ ((L44_0_c0 a1 x2 v2) ++ [(23, .d false), (27, .d false), (34, .v (i6 (lS a1))), (35, .d false), (41, .d true), (6000, .d true)])) (av h1 (apc (ig eFoll 5 .i64 h2) (apc q2 (apc q3 (apc q4 (av h3 (av h4 (apc (lg a1.sorts eStr 1) (av h5 (av h6 apn)))))))))) (by kernel_rfl)
     ·
      rw [← sj h]
      exact rnd ([(11, .d true)] ++ ((L44_0_c0 a1 x2 v2) ++ [(23, .d false), (27, .d false), (34, .v (i6 (lS a1))), (35, .d false), (41, .d false), (6000, .d true)])) (av h1 (apc (ig eFoll 5 .i64 h2) (apc q2 (apc q3 (apc q4 (av h3 (av h4 (apc (lg a1.sorts eStr 1) (av h5 (av h6 (apc ((oK (ac (abl_cons (abl_map (fun _ => rfl) (fun _ => rfl)) rfl))) : okT 2 (L44_0_d1 a1 x2 v2) = true) apn))))))))))) (by kernel_rfl)
 ·
  rw [← sj h]
  exact xbrk [(11, .d false), (6000, .d true)] (av h1 apn) (by kernel_rfl)
theorem L44_0_run (s0 : Int × (List (Int × Int))) (e : E_L44_0) (h : runL (fun s => L44_0 a1 a2 s.1 s.2) s0 = some e) : L44_0_x a1 e (L44_0_e a1 a2 s0.1 s0.2) := by
  have q := @loop_sound' (Int × (List (Int × Int))) E_L44_0 (fun s => L44_0 a1 a2 s.1 s.2) (fun s => L44_0_e a1 a2 s.1 s.2) (L44_0_x a1) (fun s r h => L44_0_ok a1 a2 s.1 s.2 h) s0 e h
  exact q
end
def F44_v (a1 : GramD) (x0 : Bool) : AV := (vb x0)
def F44 (a1 : GramD) : Option Bool :=
  ((runL (fun s => L44_0 a1 (a1.follow.length : Int) s.1 s.2) (0, [])).bind fun r1 => match r1 with | .k0 => (some false) | .k1 x1_0 => (some true))
abbrev F44_d0 (g1 : Nat → AV) (a1 : GramD) (x1_0 : List (Int × Int)) : St := ⟨fr 44 g1 [(1, .ptr 0 0), (8, ls 5 eFoll a1.follow)], [bG a1, .map (mrow (fun n => vi .i64 n) (fun n => vi .i64 n) x1_0)]⟩
theorem F44_ok (a1 : GramD) {r : Bool} (h : F44 a1 = some r) : PR1 prg 44 [aG a1] (F44_v a1 r) := by
 unfold F44 at h
 refine bn h fun r1 h1 h => ?_
 cases r1 with
 | k0 =>
  obtain ⟨g1, y1, e1⟩ := L44_0_run a1 (lW a1) (0, []) _ h1
  rw [← sj h]
  exact fpr [(9, .v (i6 (lW a1))), (2000, .l .ret ⟨fr 44 g1 [(2, vb false)], y1⟩), (6000, .d true)] (apc (lg a1.follow eFoll 5) (apc ((oK (ac (ac rfl))) : okT 2 [bG a1, .map []] = true) (apc (e1 : L44_0_e a1 (lW a1) 0 ([]) = some (.ret, ⟨fr 44 g1 [(2, vb false)], y1⟩)) apn))) rfl (by kernel_rfl)
 | k1 x1_0 =>
  obtain ⟨g1, e1⟩ := L44_0_run a1 (lW a1) (0, []) _ h1
  rw [← sj h]
  exact fpr [(9, .v (i6 (lW a1))), (2000, .l (.brk 0) (F44_d0 g1 a1 x1_0)), (6000, .d true)] (apc (lg a1.follow eFoll 5) (apc ((oK (ac (ac rfl))) : okT 2 [bG a1, .map []] = true) (apc (e1 : L44_0_e a1 (lW a1) 0 ([]) = some ((.brk 0), F44_d0 g1 a1 x1_0)) apn))) rfl (by kernel_rfl)
inductive E_L15_0 where
  | k0
  | k1
section
variable (a1 : GramD)
def L15_0 (v1 : Int) : Option (E_L15_0 ⊕ (Int)) :=
  (bif (decide (v1 < 4)) then (bif (v1 == 0) then ((F41 a1).bind fun x3 => (bif x3 then (some (.inr ((IntKind.wrap .i64 (v1 + 1))))) else (some (.inl (.k0))))) else (bif (v1 == 1) then ((F42 a1).bind fun x4 => (bif x4 then (some (.inr ((IntKind.wrap .i64 (v1 + 1))))) else (some (.inl (.k0))))) else (bif (v1 == 2) then ((F43 a1).bind fun x5 => (bif x5 then (some (.inr ((IntKind.wrap .i64 (v1 + 1))))) else (some (.inl (.k0))))) else (bif (v1 == 3) then ((F44 a1).bind fun x6 => (bif x6 then (some (.inr ((IntKind.wrap .i64 (v1 + 1))))) else (some (.inl (.k0))))) else none)))) else (some (.inl (.k1))))
def L15_0_s (v1 : Int) : St := ⟨fr 14 ug [(1, .ptr 0 0), (5, (.agg [(.fn 41 []), (.fn 42 []), (.fn 43 []), (.fn 44 [])])), (6, i6 v1)], [bG a1]⟩
abbrev L15_0_e (v1 : Int) := evH prg 1 [1, 5, 6] ir15_l0 (L15_0_s a1 v1)
def L15_0_x (e : E_L15_0) (r : Option (Out × St)) : Prop := match e with | .k0 => ∃ g y, r = some (.ret, ⟨fr 14 g [(2, i6 160)], y⟩) | .k1 => ∃ g, r = some ((.brk 0), ⟨fr 14 g [], [bG a1]⟩)
theorem L15_0_ok (v1 : Int) {r : E_L15_0 ⊕ (Int)} (h : L15_0 a1 v1 = some r) : OkR (fun e => L15_0_x a1 e (L15_0_e a1 v1)) (fun s => L15_0_e a1 v1 = L15_0_e a1 s) r := by
 unfold L15_0 at h
 refine bi h ?_ ?_ <;> intro h1 h
 ·
  refine bi h ?_ ?_ <;> intro h2 h
  ·
   have q1 := ((ix_lit h2 (fun z => ixG false 4 1 (.agg [(.fn 41 []), (.fn 42 []), (.fn 43 []), (.fn 44 [])]) (i6 z)) rfl) : ixG false 4 1 (.agg [(.fn 41 []), (.fn 42 []), (.fn 43 []), (.fn 44 [])]) (i6 v1) = some (.fn 41 []))
   refine bn h fun x3 h3 h => ?_
   refine bi h ?_ ?_ <;> intro h4 h
   ·
    rw [← sj h]
    exact rnd [(7, .d true), (8, .v (.fn 41 [])), (11, .v (vb true)), (6000, .d true)] (av h1 (apc q1 (apc ((((F41_ok a1 h3).cp rfl _).trans (congrArg (fun z => some (vb z)) h4)) : CP prg 41 [aG a1] [bG a1] = some (vb true)) (apc ((oK (ac rfl)) : okT 1 [bG a1] = true) apn)))) (by kernel_rfl)
   ·
    rw [← sj h]
    exact xretY [(7, .d true), (8, .v (.fn 41 [])), (11, .v (vb false)), (6000, .d true)] (av h1 (apc q1 (apc ((((F41_ok a1 h3).cp rfl _).trans (congrArg (fun z => some (vb z)) h4)) : CP prg 41 [aG a1] [bG a1] = some (vb false)) apn))) (by kernel_rfl)
  ·
   refine bi h ?_ ?_ <;> intro h3 h
   ·
    have q1 := ((ix_lit h3 (fun z => ixG false 4 1 (.agg [(.fn 41 []), (.fn 42 []), (.fn 43 []), (.fn 44 [])]) (i6 z)) rfl) : ixG false 4 1 (.agg [(.fn 41 []), (.fn 42 []), (.fn 43 []), (.fn 44 [])]) (i6 v1) = some (.fn 42 []))
    refine bn h fun x4 h4 h => ?_
    refine bi h ?_ ?_ <;> intro h5 h
    ·
     rw [← sj h]
     exact rnd [(7, .d true), (8, .v (.fn 42 [])), (11, .v (vb true)), (6000, .d true)] (av h1 (apc q1 (apc ((((F42_ok a1 h4).cp rfl _).trans (congrArg (fun z => some (vb z)) h5)) : CP prg 42 [aG a1] [bG a1] = some (vb true)) (apc ((oK (ac rfl)) : okT 1 [bG a1] = true) apn)))) (by kernel_rfl)
    ·
     rw [← sj h]
     exact xretY [(7, .d true), (8, .v (.fn 42 [])), (11, .v (vb false)), (6000, .d true)] (av h1 (apc q1 (apc ((((F42_ok a1 h4).cp rfl _).trans (congrArg (fun z => some (vb z)) h5)) : CP prg 42 [aG a1] [bG a1] = some (vb false)) apn))) (by kernel_rfl)
   ·
    refine bi h ?_ ?_ <;> intro h4 h
    ·
     have q1 := ((ix_lit h4 (fun z => ixG false 4 1 (.agg [(.fn 41 []), (.fn 42 []), (.fn 43 []), (.fn 44 [])]) (i6 z)) rfl) : ixG false 4 1 (.agg [(.fn 41 []), (.fn 42 []), (.fn 43 []), (.fn 44 [])]) (i6 v1) = some (.fn 43 []))
     refine bn h fun x5 h5 h => ?_
     refine bi h ?_ ?_ <;> intro h6 h
     ·
      rw [← sj h]
      exact rnd [(7, .d true), (8, .v (.fn 43 [])), (11, .v (vb true)), (6000, .d true)] (av h1 (apc q1 (apc ((((F43_ok a1 h5).cp rfl _).trans (congrArg (fun z => some (vb z)) h6)) : CP prg 43 [aG a1] [bG a1] = some (vb true)) (apc ((oK (ac rfl)) : okT 1 [bG a1] = true) apn)))) (by kernel_rfl)
     ·
      rw [← sj h]
      exact xretY [(7, .d true), (8, .v (.fn 43 [])), (11, .v (vb false)), (6000, .d true)] (av h1 (apc q1 (apc ((((F43_ok a1 h5).cp rfl _).trans (congrArg (fun z => some (vb z)) h6)) : CP prg 43 [aG a1] [bG a1] = some (vb false)) apn))) (by kernel_rfl)
    ·
     refine bi h ?_ ?_ <;> intro h5 h
     ·
      have q1 := ((ix_lit h5 (fun z => ixG false 4 1 (.agg [(.fn 41 []), (.fn 42 []), (.fn 43 []), (.fn 44 [])]) (i6 z)) rfl) : ixG false 4 1 (.agg [(.fn 41 []), (.fn 42 []), (.fn 43 []), (.fn 44 [])]) (i6 v1) = some (.fn 44 []))
      refine bn h fun x6 h6 h => ?_
      refine bi h ?_ ?_ <;> intro h7 h
      ·
       rw [← sj h]
       exact rnd [(7, .d true), (8, .v (.fn 44 [])), (11, .v (vb true)), (6000, .d true)] (av h1 (apc q1 (apc ((((F44_ok a1 h6).cp rfl _).trans (congrArg (fun z => some (vb z)) h7)) : CP prg 44 [aG a1] [bG a1] = some (vb true)) (apc ((oK (ac rfl)) : okT 1 [bG a1] = true) apn)))) (by kernel_rfl)
      ·
       rw [← sj h]
       exact xretY [(7, .d true), (8, .v (.fn 44 [])), (11, .v (vb false)), (6000, .d true)] (av h1 (apc q1 (apc ((((F44_ok a1 h6).cp rfl _).trans (congrArg (fun z => some (vb z)) h7)) : CP prg 44 [aG a1] [bG a1] = some (vb false)) apn))) (by kernel_rfl)
     ·
      cases h
 ·
  rw [← sj h]
  exact xbrk [(7, .d false), (6000, .d true)] (av h1 apn) (by kernel_rfl)
theorem L15_0_run (s0 : Int) (e : E_L15_0) (h : runL (fun s => L15_0 a1 s) s0 = some e) : L15_0_x a1 e (L15_0_e a1 s0) := by
  have q := @loop_sound' (Int) E_L15_0 (fun s => L15_0 a1 s) (fun s => L15_0_e a1 s) (L15_0_x a1) (fun s r h => L15_0_ok a1 s h) s0 e h
  exact q
end
def F15_v (a1 : GramD) (x0 : Int) : AV := (i6 x0)
def F15 (a1 : GramD) : Option Int :=
  ((runL (fun s => L15_0 a1 s) 0).bind fun r1 => match r1 with | .k0 => (some 160) | .k1 => (some 0))
theorem F15_ok (a1 : GramD) {r : Int} (h : F15 a1 = some r) : PR1 prg 15 [aG a1] (F15_v a1 r) := by
 unfold F15 at h
 refine bn h fun r1 h1 h => ?_
 cases r1 with
 | k0 =>
  obtain ⟨g1, y1, e1⟩ := L15_0_run a1 0 _ h1
  rw [← sj h]
  exact fpr [(2000, .l .ret ⟨fr 14 g1 [(2, i6 160)], y1⟩), (6000, .d true)] (apc ((oK (ac rfl)) : okT 1 [bG a1] = true) (apc (e1 : L15_0_e a1 0 = some (.ret, ⟨fr 14 g1 [(2, i6 160)], y1⟩)) apn)) rfl (by kernel_rfl)
 | k1 =>
  obtain ⟨g1, e1⟩ := L15_0_run a1 0 _ h1
  rw [← sj h]
  exact fpr [(2000, .l (.brk 0) ⟨fr 14 g1 [], [bG a1]⟩), (6000, .d true)] (apc ((oK (ac rfl)) : okT 1 [bG a1] = true) (apc (e1 : L15_0_e a1 0 = some ((.brk 0), ⟨fr 14 g1 [], [bG a1]⟩)) apn)) rfl (by kernel_rfl)
def F50_v (a1 : GramD) (a2 : SymD) (a3 : TreeD) (x0 : Bool) : AV := (vb x0)
abbrev T_F50 := GramD → SymD → TreeD → Option Bool
abbrev H_F50 (f : T_F50) : Prop := ∀ (a1 : GramD) (a2 : SymD) (a3 : TreeD) {r : Bool}, f a1 a2 a3 = some r → PR1 prg 50 [aG a1, (.agg ((eSym a2).map .p)), (.agg ((cT a3).map .p))] (F50_v a1 a2 a3 r)
def F70_v (a1 : SymD) (a2 : TreeD) (x0 : Bool) : AV := (vb x0)
def F70 (a1 : SymD) (a2 : TreeD) : Option Bool :=
  (bif ((Int.fdiv a2.byte (2 ^ (min (Int.toNat 6) (IntKind.bits .u8)))) == 0) then (bif (decide ((IntKind.wrap .u8 ((BitVec.ofInt (IntKind.bits .u8) a2.byte &&& BitVec.ofInt (IntKind.bits .u8) 63).toNat : Int)) < 0)) then none else (some ((IntKind.wrap .u64 ((BitVec.ofInt (IntKind.bits .u64) (Int.fdiv a1.a (2 ^ (min (Int.toNat (IntKind.wrap .u8 ((BitVec.ofInt (IntKind.bits .u8) a2.byte &&& BitVec.ofInt (IntKind.bits .u8) 63).toNat : Int))) (IntKind.bits .u64)))) &&& BitVec.ofInt (IntKind.bits .u64) 1).toNat : Int)) == 1))) else (bif ((Int.fdiv a2.byte (2 ^ (min (Int.toNat 6) (IntKind.bits .u8)))) == 1) then (bif (decide ((IntKind.wrap .u8 ((BitVec.ofInt (IntKind.bits .u8) a2.byte &&& BitVec.ofInt (IntKind.bits .u8) 63).toNat : Int)) < 0)) then none else (some ((IntKind.wrap .u64 ((BitVec.ofInt (IntKind.bits .u64) (Int.fdiv a1.b (2 ^ (min (Int.toNat (IntKind.wrap .u8 ((BitVec.ofInt (IntKind.bits .u8) a2.byte &&& BitVec.ofInt (IntKind.bits .u8) 63).toNat : Int))) (IntKind.bits .u64)))) &&& BitVec.ofInt (IntKind.bits .u64) 1).toNat : Int)) == 1))) else (bif ((Int.fdiv a2.byte (2 ^ (min (Int.toNat 6) (IntKind.bits .u8)))) == 2) then (bif (decide ((IntKind.wrap .u8 ((BitVec.ofInt (IntKind.bits .u8) a2.byte &&& BitVec.ofInt (IntKind.bits .u8) 63).toNat : Int)) < 0)) then none else (some ((IntKind.wrap .u64 ((BitVec.ofInt (IntKind.bits .u64) (Int.fdiv a1.c (2 ^ (min (Int.toNat (IntKind.wrap .u8 ((BitVec.ofInt (IntKind.bits .u8) a2.byte &&& BitVec.ofInt (IntKind.bits .u8) 63).toNat : Int))) (IntKind.bits .u64)))) &&& BitVec.ofInt (IntKind.bits .u64) 1).toNat : Int)) == 1))) else (bif ((Int.fdiv a2.byte (2 ^ (min (Int.toNat 6) (IntKind.bits .u8)))) == 3) then (bif (decide ((IntKind.wrap .u8 ((BitVec.ofInt (IntKind.bits .u8) a2.byte &&& BitVec.ofInt (IntKind.bits .u8) 63).toNat : Int)) < 0)) then none else (some ((IntKind.wrap .u64 ((BitVec.ofInt (IntKind.bits .u64) (Int.fdiv a1.d (2 ^ (min (Int.toNat (IntKind.wrap .u8 ((BitVec.ofInt (IntKind.bits .u8) a2.byte &&& BitVec.ofInt (IntKind.bits .u8) 63).toNat : Int))) (IntKind.bits .u64)))) &&& BitVec.ofInt (IntKind.bits .u64) 1).toNat : Int)) == 1))) else none))))
theorem F70_ok (a1 : SymD) (a2 : TreeD) {r : Bool} (h : F70 a1 a2 = some r) : PR1 prg 70 [(.agg ((List.take 4 (List.drop 1 (eSym a1))).map .p)), vi .u8 a2.byte] (F70_v a1 a2 r) := by
 unfold F70 at h
 have q0 := ((sh_shr (by decide)) : binA .shr (vi .u8 a2.byte) (vi .u64 6) = some (vi .u8 (Int.fdiv a2.byte (2 ^ (min (Int.toNat 6) (IntKind.bits .u8))))))
 refine bi h ?_ ?_ <;> intro h1 h
 ·
  have q1 := ((ix_lit h1 (fun z => ixP 4 1 (.ptr 0 0) (vi .u8 z)) rfl) : ixP 4 1 (.ptr 0 0) (vi .u8 (Int.fdiv a2.byte (2 ^ (min (Int.toNat 6) (IntKind.bits .u8))))) = some (.ptr 0 0))
  refine bi h ?_ ?_ <;> intro h2 h
  ·
   cases h
  ·
   rw [← sj h]
   exact fpr [(6, .v (vi .u8 (Int.fdiv a2.byte (2 ^ (min (Int.toNat 6) (IntKind.bits .u8)))))), (7, .v (.ptr 0 0)), (11, .v (vi .u64 (Int.fdiv a1.a (2 ^ (min (Int.toNat (IntKind.wrap .u8 ((BitVec.ofInt (IntKind.bits .u8) a2.byte &&& BitVec.ofInt (IntKind.bits .u8) 63).toNat : Int))) (IntKind.bits .u64))))))] (apc q0 (apc q1 (apc ((sh_shr (of_decide_eq_false h2)) : binA .shr (vi .u64 a1.a) (vi .u8 (IntKind.wrap .u8 ((BitVec.ofInt (IntKind.bits .u8) a2.byte &&& BitVec.ofInt (IntKind.bits .u8) 63).toNat : Int))) = some (vi .u64 (Int.fdiv a1.a (2 ^ (min (Int.toNat (IntKind.wrap .u8 ((BitVec.ofInt (IntKind.bits .u8) a2.byte &&& BitVec.ofInt (IntKind.bits .u8) 63).toNat : Int))) (IntKind.bits .u64)))))) apn))) rfl (by kernel_rfl)
 ·
  refine bi h ?_ ?_ <;> intro h2 h
  ·
   have q1 := ((ix_lit h2 (fun z => ixP 4 1 (.ptr 0 0) (vi .u8 z)) rfl) : ixP 4 1 (.ptr 0 0) (vi .u8 (Int.fdiv a2.byte (2 ^ (min (Int.toNat 6) (IntKind.bits .u8))))) = some (.ptr 0 1))
   refine bi h ?_ ?_ <;> intro h3 h
   ·
    cases h
   ·
    rw [← sj h]
    exact fpr [(6, .v (vi .u8 (Int.fdiv a2.byte (2 ^ (min (Int.toNat 6) (IntKind.bits .u8)))))), (7, .v (.ptr 0 1)), (11, .v (vi .u64 (Int.fdiv a1.b (2 ^ (min (Int.toNat (IntKind.wrap .u8 ((BitVec.ofInt (IntKind.bits .u8) a2.byte &&& BitVec.ofInt (IntKind.bits .u8) 63).toNat : Int))) (IntKind.bits .u64))))))] (apc q0 (apc q1 (apc ((sh_shr (of_decide_eq_false h3)) : binA .shr (vi .u64 a1.b) (vi .u8 (IntKind.wrap .u8 ((BitVec.ofInt (IntKind.bits .u8) a2.byte &&& BitVec.ofInt (IntKind.bits .u8) 63).toNat : Int))) = some (vi .u64 (Int.fdiv a1.b (2 ^ (min (Int.toNat (IntKind.wrap .u8 ((BitVec.ofInt (IntKind.bits .u8) a2.byte &&& BitVec.ofInt (IntKind.bits .u8) 63).toNat : Int))) (IntKind.bits .u64)))))) apn))) rfl (by kernel_rfl)
  ·
   refine bi h ?_ ?_ <;> intro h3 h
   ·
    have q1 := ((ix_lit h3 (fun z => ixP 4 1 (.ptr 0 0) (vi .u8 z)) rfl) : ixP 4 1 (.ptr 0 0) (vi .u8 (Int.fdiv a2.byte (2 ^ (min (Int.toNat 6) (IntKind.bits .u8))))) = some (.ptr 0 2))
    refine bi h ?_ ?_ <;> intro h4 h
    ·
     cases h
    ·
     rw [← sj h]
     exact fpr [(6, .v (vi .u8 (Int.fdiv a2.byte (2 ^ (min (Int.toNat 6) (IntKind.bits .u8)))))), (7, .v (.ptr 0 2)), (11, .v (vi .u64 (Int.fdiv a1.c (2 ^ (min (Int.toNat (IntKind.wrap .u8 ((BitVec.ofInt (IntKind.bits .u8) a2.byte &&& BitVec.ofInt (IntKind.bits .u8) 63).toNat : Int))) (IntKind.bits .u64))))))] (apc q0 (apc q1 (apc ((sh_shr (of_decide_eq_false h4)) : binA .shr (vi .u64 a1.c) (vi .u8 (IntKind.wrap .u8 ((BitVec.ofInt (IntKind.bits .u8) a2.byte &&& BitVec.ofInt (IntKind.bits .u8) 63).toNat : Int))) = some (vi .u64 (Int.fdiv a1.c (2 ^ (min (Int.toNat (IntKind.wrap .u8 ((BitVec.ofInt (IntKind.bits .u8) a2.byte &&& BitVec.ofInt (IntKind.bits .u8) 63).toNat : Int))) (IntKind.bits .u64)))))) apn))) rfl (by kernel_rfl)
   ·
    refine bi h ?_ ?_ <;> intro h4 h
    ·
     have q1 := ((ix_lit h4 (fun z => ixP 4 1 (.ptr 0 0) (vi .u8 z)) rfl) : ixP 4 1 (.ptr 0 0) (vi .u8 (Int.fdiv a2.byte (2 ^ (min (Int.toNat 6) (IntKind.bits .u8))))) = some (.ptr 0 3))
     refine bi h ?_ ?_ <;> intro h5 h
     ·
      cases h
     ·
      rw [← sj h]
      exact fpr [(6, .v (vi .u8 (Int.fdiv a2.byte (2 ^ (min (Int.toNat 6) (IntKind.bits .u8)))))), (7, .v (.ptr 0 3)), (11, .v (vi .u64 (Int.fdiv a1.d (2 ^ (min (Int.toNat (IntKind.wrap .u8 ((BitVec.ofInt (IntKind.bits .u8) a2.byte &&& BitVec.ofInt (IntKind.bits .u8) 63).toNat : Int))) (IntKind.bits .u64))))))] (apc q0 (apc q1 (apc ((sh_shr (of_decide_eq_false h5)) : binA .shr (vi .u64 a1.d) (vi .u8 (IntKind.wrap .u8 ((BitVec.ofInt (IntKind.bits .u8) a2.byte &&& BitVec.ofInt (IntKind.bits .u8) 63).toNat : Int))) = some (vi .u64 (Int.fdiv a1.d (2 ^ (min (Int.toNat (IntKind.wrap .u8 ((BitVec.ofInt (IntKind.bits .u8) a2.byte &&& BitVec.ofInt (IntKind.bits .u8) 63).toNat : Int))) (IntKind.bits .u64)))))) apn))) rfl (by kernel_rfl)
    ·
     cases h
inductive E_L50_0 where
  | k0
  | k1
def L50_0 (rF50 : T_F50) (a1 : TreeD) (a2 : Int) (a3 : GramD) (a5 : ProdD) (v1 : Int) : Option (E_L50_0 ⊕ (Int)) :=
  (bif (decide (v1 < a2)) then ((getI a1.kids v1).bind fun x2 => ((getI a5.right v1).bind fun x3 => ((rF50 a3 x3 x2).bind fun x4 => (bif x4 then (some (.inr ((IntKind.wrap .i64 (v1 + 1))))) else (some (.inl (.k0))))))) else (some (.inl (.k1))))
def L50_0_s (a1 : TreeD) (a2 : Int) (a3 : GramD) (a4 : SymD) (a5 : ProdD) (v1 : Int) : St := ⟨fr 88 ug [(3, .ptr 0 0), (7, .ptr 4 0), (71, (.p (.lst 3 (eTrees a1.kids)))), (72, i6 a2), (73, i6 v1)], [bG a3, .cells 68 ((eSym a4).map .p), .cells 51 ((cT a1).map .p), yY0, bP a5]⟩
abbrev L50_0_e (a1 : TreeD) (a2 : Int) (a3 : GramD) (a4 : SymD) (a5 : ProdD) (v1 : Int) := evH prg 5 [3, 7, 71, 72, 73] ir50_l0 (L50_0_s a1 a2 a3 a4 a5 v1)
def L50_0_x (a1 : TreeD) (a2 : Int) (a3 : GramD) (a4 : SymD) (a5 : ProdD) (e : E_L50_0) (r : Option (Out × St)) : Prop := match e with | .k0 => ∃ g y, r = some (.ret, ⟨fr 88 g [(6, vb false)], y⟩) | .k1 => ∃ g, r = some ((.brk 0), ⟨fr 88 g [(3, .ptr 0 0), (7, .ptr 4 0), (71, (.p (.lst 3 (eTrees a1.kids))))], [bG a3, .cells 68 ((eSym a4).map .p), .cells 51 ((cT a1).map .p), yY0, bP a5]⟩)
abbrev L50_0_d0 (a3 : GramD) (a4 : SymD) (a1 : TreeD) (a5 : ProdD) (x2 : TreeD) : List AB := [bG a3, .cells 68 ((eSym a4).map .p), .cells 51 ((cT a1).map .p), yY0, bP a5, yT0, .cells 51 ((cT x2).map .p)]
theorem L50_0_ok (rF50 : T_F50) (hF50 : H_F50 rF50) (a1 : TreeD) (a2 : Int) (a3 : GramD) (a4 : SymD) (a5 : ProdD) (v1 : Int) {r : E_L50_0 ⊕ (Int)} (h : L50_0 rF50 a1 a2 a3 a5 v1 = some r) : OkR (fun e => L50_0_x a1 a2 a3 a4 a5 e (L50_0_e a1 a2 a3 a4 a5 v1)) (fun s => L50_0_e a1 a2 a3 a4 a5 v1 = L50_0_e a1 a2 a3 a4 a5 s) r := by
 unfold L50_0 at h
 refine bi h ?_ ?_ <;> intro h1 h
 ·
  refine bn h fun x2 h2 h => ?_
  have q1 := ((igr tr_map h2) : idxA 3 (.p (.lst 3 (eTrees a1.kids))) (i6 v1) = some (.ro (cT x2)))
  refine bn h fun x3 h3 h => ?_
  refine bn h fun x4 h4 h => ?_
  refine bi h ?_ ?_ <;> intro h5 h
  ·
   rw [← sj h]
   exact rnd [(74, .d true), (76, .v (.ro (cT x2))), (82, .v (.ro (eSym x3))), (85, .v (vb true)), (6000, .d true)] (av h1 (apc q1 (apc (ig eSym 6 .i64 h3) (apc ((((hF50 a3 x3 x2 h4).cp rfl _).trans (congrArg (fun z => some (vb z)) h5)) : CP prg 50 [aG a3, (.agg ((eSym x3).map .p)), (.agg ((cT x2).map .p))] (L50_0_d0 a3 a4 a1 a5 x2) = some (vb true)) (apc ((oK (ac (ac (ac (ar (ac rfl)))))) : okT 5 (L50_0_d0 a3 a4 a1 a5 x2) = true) apn))))) (by kernel_rfl)
  ·
   rw [← sj h]
   exact xretY [(74, .d true), (76, .v (.ro (cT x2))), (82, .v (.ro (eSym x3))), (85, .v (vb false)), (6000, .d true)] (av h1 (apc q1 (apc (ig eSym 6 .i64 h3) (apc ((((hF50 a3 x3 x2 h4).cp rfl _).trans (congrArg (fun z => some (vb z)) h5)) : CP prg 50 [aG a3, (.agg ((eSym x3).map .p)), (.agg ((cT x2).map .p))] (L50_0_d0 a3 a4 a1 a5 x2) = some (vb false)) apn)))) (by kernel_rfl)
 ·
  rw [← sj h]
  exact xbrk [(74, .d false), (6000, .d true)] (av h1 apn) (by kernel_rfl)
theorem L50_0_run (rF50 : T_F50) (hF50 : H_F50 rF50) (a1 : TreeD) (a2 : Int) (a3 : GramD) (a4 : SymD) (a5 : ProdD) (s0 : Int) (e : E_L50_0) (h : runL (fun s => L50_0 rF50 a1 a2 a3 a5 s) s0 = some e) : L50_0_x a1 a2 a3 a4 a5 e (L50_0_e a1 a2 a3 a4 a5 s0) := by
  have q := @loop_sound' (Int) E_L50_0 (fun s => L50_0 rF50 a1 a2 a3 a5 s) (fun s => L50_0_e a1 a2 a3 a4 a5 s) (L50_0_x a1 a2 a3 a4 a5) (fun s r h => L50_0_ok rF50 hF50 a1 a2 a3 a4 a5 s h) s0 e h
  exact q
def F50_b (rF50 : T_F50) (a1 : GramD) (a2 : SymD) (a3 : TreeD) : Option Bool :=
  (bif (a2.kind == 0) then (bif (a3.prod == (-1)) then (bif ((a3.kids.length : Int) == 0) then ((F70 a2 a3).bind fun x4 => (some x4)) else (some false)) else (some false)) else (bif (decide (a3.prod < 0)) then (some false) else (bif (decide (a3.prod ≥ (a1.prods.length : Int))) then (some false) else (bif (a3.byte != 0) then (some false) else ((getI a1.prods a3.prod).bind fun x5 => (bif (x5.left != a2.sort) then (some false) else (bif (x5.role == 11) then (some false) else (bif ((a3.kids.length : Int) != (x5.right.length : Int)) then (some false) else ((runL (fun s => L50_0 rF50 a3 (a3.kids.length : Int) a1 x5 s) 0).bind fun r9 => match r9 with | .k0 => (some false) | .k1 => (some true))))))))))
abbrev F50_d0 (a1 : GramD) (a2 : SymD) (a3 : TreeD) (x5 : ProdD) : List AB := [bG a1, .cells 68 ((eSym a2).map .p), .cells 51 ((cT a3).map .p), yY0, bP x5]
abbrev F50_d1 (g9 : Nat → AV) (a3 : TreeD) (a1 : GramD) (a2 : SymD) (x5 : ProdD) : St := ⟨fr 88 g9 [(3, .ptr 0 0), (7, .ptr 4 0), (71, (.p (.lst 3 (eTrees a3.kids))))], [bG a1, .cells 68 ((eSym a2).map .p), .cells 51 ((cT a3).map .p), yY0, bP x5]⟩
abbrev F50_c0 (a3 : TreeD) (x5 : ProdD) : List (Nat × Hint) := [(59, .d false), (64, .v (i6 (a3.kids.length : Int))), (67, .v (i6 (x5.right.length : Int)))]
theorem F50_bok (rF50 : T_F50) (hF50 : H_F50 rF50) (a1 : GramD) (a2 : SymD) (a3 : TreeD) {r : Bool} (h : F50_b rF50 a1 a2 a3 = some r) : PR1 prg 50 [aG a1, (.agg ((eSym a2).map .p)), (.agg ((cT a3).map .p))] (F50_v a1 a2 a3 r) := by
 unfold F50_b at h
 refine bi h ?_ ?_ <;> intro h1 h
 ·
  refine bi h ?_ ?_ <;> intro h2 h
  ·
   have q2 := ((lgr tr_map) : lnA (.p (.lst 3 (eTrees a3.kids))) = some (i6 (a3.kids.length : Int)))
   refine bi h ?_ ?_ <;> intro h3 h
   ·
    refine bn h fun x4 h4 h => ?_
    rw [← sj h]
    exact fpr [(12, .d true), (15, .d true), (19, .v (i6 (a3.kids.length : Int))), (20, .d true), (27, .v (vb x4))] (av h1 (av h2 (apc q2 (av h3 (apc (((F70_ok a2 a3 h4).cp rfl _) : CP prg 70 [(.agg ((List.take 4 (List.drop 1 (eSym a2))).map .p)), vi .u8 a3.byte] [bG a1, .cells 68 ((eSym a2).map .p), .cells 51 ((cT a3).map .p)] = some (vb x4)) apn))))) rfl (by kernel_rfl)
   ·
    rw [← sj h]
    exact fpr [(12, .d true), (15, .d true), (19, .v (i6 (a3.kids.length : Int))), (20, .d false)] (av h1 (av h2 (apc q2 (av h3 apn)))) rfl (by kernel_rfl)
  ·
   rw [← sj h]
   exact fpr [(12, .d true), (15, .d false)] (av h1 (av h2 apn)) rfl (by kernel_rfl)
 ·
  refine bi h ?_ ?_ <;> intro h2 h
  ·
   rw [← sj h]
   exact fpr [(12, .d false), (31, .d true)] (av h1 (av h2 apn)) rfl (by kernel_rfl)
  ·
   refine bi h ?_ ?_ <;> intro h3 h
   ·
    rw [← sj h]
    exact fpr [(12, .d false), (31, .d false), (37, .v (i6 (lP a1))), (38, .d true)] (av h1 (av h2 (apc (lg a1.prods eProd 7) (av h3 apn)))) rfl (by kernel_rfl)
   ·
    refine bi h ?_ ?_ <;> intro h4 h
    ·
     rw [← sj h]
     exact fpr [(12, .d false), (31, .d false), (37, .v (i6 (lP a1))), (38, .d false), (43, .d true)] (av h1 (av h2 (apc (lg a1.prods eProd 7) (av h3 (av h4 apn))))) rfl (by kernel_rfl)
    ·
     refine bn h fun x5 h5 h => ?_
     refine bi h ?_ ?_ <;> intro h6 h
     ·
      rw [← sj h]
      exact fpr [(12, .d false), (31, .d false), (37, .v (i6 (lP a1))), (38, .d false), (43, .d false), (49, .v (.ro (eProd x5))), (55, .d true)] (av h1 (av h2 (apc (lg a1.prods eProd 7) (av h3 (av h4 (apc (ig eProd 7 .i64 h5) (av h6 apn))))))) rfl (by kernel_rfl)
     ·
      refine bi h ?_ ?_ <;> intro h7 h
      ·
       rw [← sj h]
       exact fpr [(12, .d false), (31, .d false), (37, .v (i6 (lP a1))), (38, .d false), (43, .d false), (49, .v (.ro (eProd x5))), (55, .d false), (59, .d true)] (av h1 (av h2 (apc (lg a1.prods eProd 7) (av h3 (av h4 (apc (ig eProd 7 .i64 h5) (av h6 (av h7 apn)))))))) rfl (by kernel_rfl)
      ·
       have q8 := ((lgr tr_map) : lnA (.p (.lst 3 (eTrees a3.kids))) = some (i6 (a3.kids.length : Int)))
       refine bi h ?_ ?_ <;> intro h8 h
       ·
        rw [← sj h]
        exact fpr ([(12, .d false), (31, .d false), (37, .v (i6 (lP a1))), (38, .d false), (43, .d false), (49, .v (.ro (eProd x5))), (55, .d false)] ++ ((F50_c0 a3 x5) ++ [(68, .d true)])) (av h1 (av h2 (apc (lg a1.prods eProd 7) (av h3 (av h4 (apc (ig eProd 7 .i64 h5) (av h6 (av h7 (apc q8 (apc (lg x5.right eSym 6) (av h8 apn))))))))))) rfl (by kernel_rfl)
       ·
        have q11 := ((lgr tr_map) : lnA (.p (.lst 3 (eTrees a3.kids))) = some (i6 (a3.kids.length : Int)))
        refine bn h fun r9 h9 h => ?_
        cases r9 with
        | k0 =>
         obtain ⟨g9, y9, e9⟩ := L50_0_run rF50 hF50 a3 (a3.kids.length : Int) a1 a2 x5 0 _ h9
         rw [← sj h]
         exact fpr ([(12, .d false), (31, .d false), (37, .v (i6 (lP a1))), (38, .d false), (43, .d false), (49, .v (.ro (eProd x5))), (55, .d false)] ++ ((F50_c0 a3 x5) ++ [(68, .d false), (72, .v (i6 (a3.kids.length : Int))), (2000, .l .ret ⟨fr 88 g9 [(6, vb false)], y9⟩), (6000, .d true)])) (av h1 (av h2 (apc (lg a1.prods eProd 7) (av h3 (av h4 (apc (ig eProd 7 .i64 h5) (av h6 (av h7 (apc q8 (apc (lg x5.right eSym 6) (av h8 (apc q11 (apc ((oK (ac (ac (ac (ar (ac rfl)))))) : okT 5 (F50_d0 a1 a2 a3 x5) = true) (apc (e9 : L50_0_e a3 (a3.kids.length : Int) a1 a2 x5 0 = some (.ret, ⟨fr 88 g9 [(6, vb false)], y9⟩)) apn)))))))))))))) rfl (by kernel_rfl)
        | k1 =>
         obtain ⟨g9, e9⟩ := L50_0_run rF50 hF50 a3 (a3.kids.length : Int) a1 a2 x5 0 _ h9
         rw [← sj h]
         exact fpr ([(12, .d false), (31, .d false), (37, .v (i6 (lP a1))), (38, .d false), (43, .d false), (49, .v (.ro (eProd x5))), (55, .d false)] ++ ((F50_c0 a3 x5) ++ [(68, .d false), (72, .v (i6 (a3.kids.length : Int))), (2000, .l (.brk 0) (F50_d1 g9 a3 a1 a2 x5)), (6000, .d true)])) (av h1 (av h2 (apc (lg a1.prods eProd 7) (av h3 (av h4 (apc (ig eProd 7 .i64 h5) (av h6 (av h7 (apc q8 (apc (lg x5.right eSym 6) (av h8 (apc q11 (apc ((oK (ac (ac (ac (ar (ac rfl)))))) : okT 5 (F50_d0 a1 a2 a3 x5) = true) (apc (e9 : L50_0_e a3 (a3.kids.length : Int) a1 a2 x5 0 = some ((.brk 0), F50_d1 g9 a3 a1 a2 x5)) apn)))))))))))))) rfl (by kernel_rfl)
def F50 : Nat → T_F50
  | 0 => fun _ _ _ => none
  | Nf + 1 => F50_b (F50 Nf)
theorem F50_ok (Nf : Nat) : H_F50 (F50 Nf) := by
  induction Nf with
  | zero => intro a1 a2 a3 r h; have h : (none : Option Bool) = some r := h; cases h
  | succ Nf ih => intro a1 a2 a3 r h; exact F50_bok (F50 Nf) ih a1 a2 a3 h
def F21_v (a1 : GramD) (a2 : TreeD) (x0 : Int) : AV := (i6 x0)
def F21 (Nf : Nat) (a1 : GramD) (a2 : TreeD) : Option Int :=
  ((F15 a1).bind fun x1 => (bif (x1 != 0) then (some 160) else ((F46 a2).bind fun x3 => (bif (decide (x3 > 16384)) then (some 3) else (bif (decide (a2.prod < 0)) then (some 163) else (bif (decide (a2.prod ≥ (a1.prods.length : Int))) then (some 163) else ((getI a1.prods a2.prod).bind fun x7 => ((F50 Nf a1 (⟨1, 0, 0, 0, 0, x7.left⟩ : SymD) a2).bind fun x8 => (bif x8 then (some 0) else (some 163))))))))))
theorem F21_ok (Nf : Nat) (a1 : GramD) (a2 : TreeD) {r : Int} (h : F21 Nf a1 a2 = some r) : PR1 prg 21 [aG a1, (.agg ((cT a2).map .p))] (F21_v a1 a2 r) := by
 unfold F21 at h
 refine bn h fun x1 h1 h => ?_
 have q0 := (((F15_ok a1 h1).cp rfl _) : CP prg 15 [aG a1] [bG a1, .cells 51 ((cT a2).map .p)] = some (i6 x1))
 refine bi h ?_ ?_ <;> intro h2 h
 ·
  rw [← sj h]
  exact fpr [(7, .v (i6 x1)), (8, .d true)] (apc q0 (av h2 apn)) rfl (by kernel_rfl)
 ·
  refine bn h fun x3 h3 h => ?_
  have q2 := (((F46_ok a2 h3).cp rfl _) : CP prg 46 [(.agg ((cT a2).map .p))] [bG a1, .cells 51 ((cT a2).map .p)] = some (i6 x3))
  refine bi h ?_ ?_ <;> intro h4 h
  ·
   rw [← sj h]
   exact fpr [(7, .v (i6 x1)), (8, .d false), (11, .v (i6 x3)), (12, .d true)] (apc q0 (av h2 (apc q2 (av h4 apn)))) rfl (by kernel_rfl)
  ·
   refine bi h ?_ ?_ <;> intro h5 h
   ·
    rw [← sj h]
    exact fpr [(7, .v (i6 x1)), (8, .d false), (11, .v (i6 x3)), (12, .d false), (16, .d true)] (apc q0 (av h2 (apc q2 (av h4 (av h5 apn))))) rfl (by kernel_rfl)
   ·
    refine bi h ?_ ?_ <;> intro h6 h
    ·
     rw [← sj h]
     exact fpr [(7, .v (i6 x1)), (8, .d false), (11, .v (i6 x3)), (12, .d false), (16, .d false), (22, .v (i6 (lP a1))), (23, .d true)] (apc q0 (av h2 (apc q2 (av h4 (av h5 (apc (lg a1.prods eProd 7) (av h6 apn))))))) rfl (by kernel_rfl)
    ·
     refine bn h fun x7 h7 h => ?_
     refine bn h fun x8 h8 h => ?_
     refine bi h ?_ ?_ <;> intro h9 h
     ·
      rw [← sj h]
      exact fpr [(7, .v (i6 x1)), (8, .d false), (11, .v (i6 x3)), (12, .d false), (16, .d false), (22, .v (i6 (lP a1))), (23, .d false), (31, .v (.ro (eProd x7))), (36, .v (vb true))] (apc q0 (av h2 (apc q2 (av h4 (av h5 (apc (lg a1.prods eProd 7) (av h6 (apc (ig eProd 7 .i64 h7) (apc ((((F50_ok Nf a1 (⟨1, 0, 0, 0, 0, x7.left⟩ : SymD) a2 h8).cp rfl _).trans (congrArg (fun z => some (vb z)) h9)) : CP prg 50 [aG a1, (.agg [i6 1, vi .u64 0, vi .u64 0, vi .u64 0, vi .u64 0, i6 x7.left]), (.agg ((cT a2).map .p))] [bG a1, .cells 51 ((cT a2).map .p)] = some (vb true)) apn))))))))) rfl (by kernel_rfl)
     ·
      rw [← sj h]
      exact fpr [(7, .v (i6 x1)), (8, .d false), (11, .v (i6 x3)), (12, .d false), (16, .d false), (22, .v (i6 (lP a1))), (23, .d false), (31, .v (.ro (eProd x7))), (36, .v (vb false))] (apc q0 (av h2 (apc q2 (av h4 (av h5 (apc (lg a1.prods eProd 7) (av h6 (apc (ig eProd 7 .i64 h7) (apc ((((F50_ok Nf a1 (⟨1, 0, 0, 0, 0, x7.left⟩ : SymD) a2 h8).cp rfl _).trans (congrArg (fun z => some (vb z)) h9)) : CP prg 50 [aG a1, (.agg [i6 1, vi .u64 0, vi .u64 0, vi .u64 0, vi .u64 0, i6 x7.left]), (.agg ((cT a2).map .p))] [bG a1, .cells 51 ((cT a2).map .p)] = some (vb false)) apn))))))))) rfl (by kernel_rfl)
inductive E_L6_0_2 where
  | k0 (x0 x1 : Int) (x2 : List TreeD)
section
variable (a1 a2 a3 a4 a5 : Int)
def L6_0_2 (v1 v2 v3 : Int) (v4 : List TreeD) : Option (E_L6_0_2 ⊕ (Int × Int × Int × (List TreeD))) :=
  (bif (decide (v1 < a1)) then (some (.inr ((IntKind.wrap .i64 (v1 + 1)), 0, 0, [TreeD.mk v2 v3 v4]))) else (some (.inl (.k0 v2 v3 v4))))
def L6_0_2_s (v1 v2 v3 : Int) (v4 : List TreeD) : St := ⟨fr 79 ug [(0, i6 a1), (3, .ptr 8 0), (4, .ptr 10 0), (5, i6 v1)], [.row 9 1 0 [[(vs (⟨([83] : List UInt8).toArray⟩ : ByteArray))]], .row 68 6 0 [[i6 1, vi .u64 0, vi .u64 0, vi .u64 0, vi .u64 0, i6 0]], .row 68 6 0 [[i6 0, vi .u64 a2, vi .u64 a3, vi .u64 a4, vi .u64 a5, i6 0]], .row 46 7 0 [[i6 0, .sl 1 0 6 0 1, vs b0, i6 0, vb false, vb false, (i6 (-1))], [i6 0, .sl 2 0 6 0 1, vs b0, i6 0, vb false, vb false, (i6 (-1))]], yS0, yP0, yF0, yW0, .cells 27 [.sl 0 0 1 0 1, .sl 3 0 7 0 2, i6 0, (.p (.lst 3 ([].map eForb))), (.p (.lst 5 ([].map eFoll)))], yT0, .cells 51 [i6 v2, vi .u8 v3, (.p (.lst 3 (eTrees v4)))]]⟩
abbrev L6_0_2_e (v1 v2 v3 : Int) (v4 : List TreeD) := evH prg 11 [0, 3, 4, 5, 4000004, 10040203, 10030303, 10030405] ir6_l0 (L6_0_2_s a1 a2 a3 a4 a5 v1 v2 v3 v4)
def L6_0_2_x (e : E_L6_0_2) (r : Option (Out × St)) : Prop := match e with | .k0 x0 x1 x2 => ∃ g, r = some ((.brk 0), ⟨fr 79 g [(0, i6 a1), (3, .ptr 8 0), (4, .ptr 10 0)], [.row 9 1 0 [[(vs (⟨([83] : List UInt8).toArray⟩ : ByteArray))]], .row 68 6 0 [[i6 1, vi .u64 0, vi .u64 0, vi .u64 0, vi .u64 0, i6 0]], .row 68 6 0 [[i6 0, vi .u64 a2, vi .u64 a3, vi .u64 a4, vi .u64 a5, i6 0]], .row 46 7 0 [[i6 0, .sl 1 0 6 0 1, vs b0, i6 0, vb false, vb false, (i6 (-1))], [i6 0, .sl 2 0 6 0 1, vs b0, i6 0, vb false, vb false, (i6 (-1))]], yS0, yP0, yF0, yW0, .cells 27 [.sl 0 0 1 0 1, .sl 3 0 7 0 2, i6 0, (.p (.lst 3 ([].map eForb))), (.p (.lst 5 ([].map eFoll)))], yT0, .cells 51 [i6 x0, vi .u8 x1, (.p (.lst 3 (eTrees x2)))]]⟩)
abbrev L6_0_2_d0 (v2 v3 : Int) (v4 : List TreeD) : List AB := [.row 9 1 0 [[(vs (⟨([83] : List UInt8).toArray⟩ : ByteArray))]], .row 68 6 0 [[i6 1, vi .u64 0, vi .u64 0, vi .u64 0, vi .u64 0, i6 0]], .row 68 6 0 [[i6 0, vi .u64 a2, vi .u64 a3, vi .u64 a4, vi .u64 a5, i6 0]], .row 46 7 0 [[i6 0, .sl 1 0 6 0 1, vs b0, i6 0, vb false, vb false, (i6 (-1))], [i6 0, .sl 2 0 6 0 1, vs b0, i6 0, vb false, vb false, (i6 (-1))]], yS0, yP0, yF0, yW0, .cells 27 [.sl 0 0 1 0 1, .sl 3 0 7 0 2, i6 0, (.p (.lst 3 ([].map eForb))), (.p (.lst 5 ([].map eFoll)))], yT0, .cells 51 [i6 0, vi .u8 0, (.p (.lst 3 (eTrees ([TreeD.mk v2 v3 v4]))))]]
theorem L6_0_2_ok (v1 v2 v3 : Int) (v4 : List TreeD) {r : E_L6_0_2 ⊕ (Int × Int × Int × (List TreeD))} (h : L6_0_2 a1 v1 v2 v3 v4 = some r) : OkR (fun e => L6_0_2_x a1 a2 a3 a4 a5 e (L6_0_2_e a1 a2 a3 a4 a5 v1 v2 v3 v4)) (fun s => L6_0_2_e a1 a2 a3 a4 a5 v1 v2 v3 v4 = L6_0_2_e a1 a2 a3 a4 a5 s.1 s.2.1 s.2.2.1 s.2.2.2) r := by
 unfold L6_0_2 at h
 refine bi h ?_ ?_ <;> intro h1 h
 ·
  rw [← sj h]
  exact rnd [(34, .d true), (6000, .d true), (6001, .r ud (L6_0_2_d0 a2 a3 a4 a5 v2 v3 v4))] (av h1 (apc ((frz_of rfl (frz_same rfl (frz_same rfl (frz_same rfl (frz_same rfl (frz_same abl_row (frz_same abl_row (frz_same abl_row (frz_same abl_row (frz_same rfl (frz_same abl_row (frz_con (frz_cel (fzc_p (fzc_p (fzc_s rfl (by kernel_rfl) fzc_nil)))) frz_nil)))))))))))) : frzT 11 [.row 9 1 0 [[(vs (⟨([83] : List UInt8).toArray⟩ : ByteArray))]], .row 68 6 0 [[i6 1, vi .u64 0, vi .u64 0, vi .u64 0, vi .u64 0, i6 0]], .row 68 6 0 [[i6 0, vi .u64 a2, vi .u64 a3, vi .u64 a4, vi .u64 a5, i6 0]], .row 46 7 0 [[i6 0, .sl 1 0 6 0 1, vs b0, i6 0, vb false, vb false, (i6 (-1))], [i6 0, .sl 2 0 6 0 1, vs b0, i6 0, vb false, vb false, (i6 (-1))]], yS0, yP0, yF0, yW0, .cells 27 [.sl 0 0 1 0 1, .sl 3 0 7 0 2, i6 0, (.p (.lst 3 ([].map eForb))), (.p (.lst 5 ([].map eFoll)))], yT0, .cells 51 [i6 0, vi .u8 0, .sl 11 0 3 0 1], .row 51 3 0 [[i6 v2, vi .u8 v3, (.p (.lst 3 (eTrees v4)))]]] = some (L6_0_2_d0 a2 a3 a4 a5 v2 v3 v4)) apn)) (by kernel_rfl)
 ·
  rw [← sj h]
  exact xbrk [(34, .d false), (6000, .d true)] (av h1 apn) (by kernel_rfl)
theorem L6_0_2_run (s0 : Int × Int × Int × (List TreeD)) (e : E_L6_0_2) (h : runL (fun s => L6_0_2 a1 s.1 s.2.1 s.2.2.1 s.2.2.2) s0 = some e) : L6_0_2_x a1 a2 a3 a4 a5 e (L6_0_2_e a1 a2 a3 a4 a5 s0.1 s0.2.1 s0.2.2.1 s0.2.2.2) := by
  have q := @loop_sound' (Int × Int × Int × (List TreeD)) E_L6_0_2 (fun s => L6_0_2 a1 s.1 s.2.1 s.2.2.1 s.2.2.2) (fun s => L6_0_2_e a1 a2 a3 a4 a5 s.1 s.2.1 s.2.2.1 s.2.2.2) (L6_0_2_x a1 a2 a3 a4 a5) (fun s r h => L6_0_2_ok a1 a2 a3 a4 a5 s.1 s.2.1 s.2.2.1 s.2.2.2 h) s0 e h
  exact q
end
def F6_v (a1 : Int) (x0 : Bool) : AV := (vb x0)
def F6 (Nf : Nat) (a1 : Int) : Option Bool :=
  (bif (decide (a1 < 1)) then ((F10).bind fun x2 => (some x2)) else (bif (decide (a1 > 40000)) then ((F10).bind fun x3 => (some x3)) else ((F26).bind fun r3 => match r3 with | .k0 x3_0 x3_1 x3_2 x3_3 => (bif (decide (a1 > 1)) then ((runL (fun s => L6_0 a1 s.1 s.2.1 s.2.2) (2, 1, ([(TreeD.mk (-1) 97 [])]))).bind fun r5 => match r5 with | .k0 x5_0 x5_1 => ((F20 Nf (TreeD.mk x5_0 0 x5_1)).bind fun r6 => match r6 with | .k0 x6_0 x6_1 => ((F21 Nf (⟨[(⟨([83] : List UInt8).toArray⟩ : ByteArray)], [(⟨0, [(⟨1, 0, 0, 0, 0, 0⟩ : SymD)], (⟨([] : List UInt8).toArray⟩ : ByteArray), 0, false, false, -1⟩ : ProdD), (⟨0, [(⟨0, x3_0, x3_1, x3_2, x3_3, 0⟩ : SymD)], (⟨([] : List UInt8).toArray⟩ : ByteArray), 0, false, false, -1⟩ : ProdD)], 0, [], []⟩ : GramD) (TreeD.mk x5_0 0 x5_1)).bind fun x7 => (bif (decide (a1 > 16384)) then (bif (x6_0.toList == (⟨([] : List UInt8).toArray⟩ : ByteArray).toList) then (bif (x6_1 == 3) then (bif (x7 == 3) then ((F10).bind fun x12 => (some x12)) else (some false)) else (some false)) else (some false)) else (bif (x6_0.toList == (⟨([97] : List UInt8).toArray⟩ : ByteArray).toList) then (bif (x6_1 == 0) then (bif (((x7 == 0) == (decide (a1 > 1))) && true) then ((F10).bind fun x12 => (some x12)) else (some false)) else (some false)) else (some false)))))) else ((runL (fun s => L6_0_2 a1 s.1 s.2.1 s.2.2.1 s.2.2.2) (2, -1, 97, [])).bind fun r5 => match r5 with | .k0 x5_0 x5_1 x5_2 => ((F20 Nf (TreeD.mk x5_0 x5_1 x5_2)).bind fun r6 => match r6 with | .k0 x6_0 x6_1 => ((F21 Nf (⟨[(⟨([83] : List UInt8).toArray⟩ : ByteArray)], [(⟨0, [(⟨1, 0, 0, 0, 0, 0⟩ : SymD)], (⟨([] : List UInt8).toArray⟩ : ByteArray), 0, false, false, -1⟩ : ProdD), (⟨0, [(⟨0, x3_0, x3_1, x3_2, x3_3, 0⟩ : SymD)], (⟨([] : List UInt8).toArray⟩ : ByteArray), 0, false, false, -1⟩ : ProdD)], 0, [], []⟩ : GramD) (TreeD.mk x5_0 x5_1 x5_2)).bind fun x7 => (bif (decide (a1 > 16384)) then (bif (x6_0.toList == (⟨([] : List UInt8).toArray⟩ : ByteArray).toList) then (bif (x6_1 == 3) then (bif (x7 == 3) then ((F10).bind fun x12 => (some x12)) else (some false)) else (some false)) else (some false)) else (bif (x6_0.toList == (⟨([97] : List UInt8).toArray⟩ : ByteArray).toList) then (bif (x6_1 == 0) then (bif (((x7 == 0) == (decide (a1 > 1))) && true) then ((F10).bind fun x12 => (some x12)) else (some false)) else (some false)) else (some false))))))))))
abbrev F6_c0 (g5 : Nat → AV) (a1 x3_0 x3_1 x3_2 x3_3 x5_0 : Int) (x5_1 : List TreeD) : List (Nat × Hint) := [(2000, .l (.brk 0) ⟨fr 79 g5 [(0, i6 a1), (3, .ptr 8 0), (4, .ptr 10 0)], [.row 9 1 0 [[(vs (⟨([83] : List UInt8).toArray⟩ : ByteArray))]], .row 68 6 0 [[i6 1, vi .u64 0, vi .u64 0, vi .u64 0, vi .u64 0, i6 0]], .row 68 6 0 [[i6 0, vi .u64 x3_0, vi .u64 x3_1, vi .u64 x3_2, vi .u64 x3_3, i6 0]], .row 46 7 0 [[i6 0, .sl 1 0 6 0 1, vs b0, i6 0, vb false, vb false, (i6 (-1))], [i6 0, .sl 2 0 6 0 1, vs b0, i6 0, vb false, vb false, (i6 (-1))]], yS0, yP0, yF0, yW0, .cells 27 [.sl 0 0 1 0 1, .sl 3 0 7 0 2, i6 0, (.p (.lst 3 ([].map eForb))), (.p (.lst 5 ([].map eFoll)))], yT0, .cells 51 [i6 x5_0, vi .u8 0, (.p (.lst 3 (eTrees x5_1)))], .frz 3 0 [[.val (.int .i64 (-1)), .val (.int .u8 97), .val (.slice .none 0 0)]]]⟩)]
abbrev F6_c1 (g5 : Nat → AV) (a1 x3_0 x3_1 x3_2 x3_3 x5_0 x5_1 : Int) (x5_2 : List TreeD) : List (Nat × Hint) := [(2000, .l (.brk 0) ⟨fr 79 g5 [(0, i6 a1), (3, .ptr 8 0), (4, .ptr 10 0)], [.row 9 1 0 [[(vs (⟨([83] : List UInt8).toArray⟩ : ByteArray))]], .row 68 6 0 [[i6 1, vi .u64 0, vi .u64 0, vi .u64 0, vi .u64 0, i6 0]], .row 68 6 0 [[i6 0, vi .u64 x3_0, vi .u64 x3_1, vi .u64 x3_2, vi .u64 x3_3, i6 0]], .row 46 7 0 [[i6 0, .sl 1 0 6 0 1, vs b0, i6 0, vb false, vb false, (i6 (-1))], [i6 0, .sl 2 0 6 0 1, vs b0, i6 0, vb false, vb false, (i6 (-1))]], yS0, yP0, yF0, yW0, .cells 27 [.sl 0 0 1 0 1, .sl 3 0 7 0 2, i6 0, (.p (.lst 3 ([].map eForb))), (.p (.lst 5 ([].map eFoll)))], yT0, .cells 51 [i6 x5_0, vi .u8 x5_1, (.p (.lst 3 (eTrees x5_2)))]]⟩)]
theorem F6_ok (Nf : Nat) (a1 : Int) {r : Bool} (h : F6 Nf a1 = some r) : PR1 prg 6 [i6 a1] (F6_v a1 r) := by
 unfold F6 at h
 refine bi h ?_ ?_ <;> intro h1 h
 ·
  refine bn h fun x2 h2 h => ?_
  rw [← sj h]
  exact fpr [(10, .d true), (15, .v (vb x2))] (av h1 (apc (((F10_ok  h2).cp rfl _) : CP prg 10 [] [] = some (vb x2)) apn)) rfl (by kernel_rfl)
 ·
  refine bi h ?_ ?_ <;> intro h2 h
  ·
   refine bn h fun x3 h3 h => ?_
   rw [← sj h]
   exact fpr [(10, .d false), (13, .d true), (15, .v (vb x3))] (av h1 (av h2 (apc (((F10_ok  h3).cp rfl _) : CP prg 10 [] [] = some (vb x3)) apn))) rfl (by kernel_rfl)
  ·
   refine bn h fun r3 h3 h => ?_
   cases r3 with
   | k0 x3_0 x3_1 x3_2 x3_3 =>
    have q2 := (((F26_ok  h3).cp rfl _) : CP prg 26 [vi .u8 97] [.row 9 1 0 [[(vs (⟨([83] : List UInt8).toArray⟩ : ByteArray))]], .row 68 6 0 [[i6 1, vi .u64 0, vi .u64 0, vi .u64 0, vi .u64 0, i6 0]]] = some (.agg [vi .u64 x3_0, vi .u64 x3_1, vi .u64 x3_2, vi .u64 x3_3]))
    refine bi h ?_ ?_ <;> intro h4 h
    ·
     refine bn h fun r5 h5 h => ?_
     cases r5 with
     | k0 x5_0 x5_1 =>
      obtain ⟨g5, e5⟩ := L6_0_run a1 x3_0 x3_1 x3_2 x3_3 (2, 1, ([(TreeD.mk (-1) 97 [])])) _ h5
      have q4 := ((oK (ac (ac (ac (ac (ar (ar (ar (ar (ac (ar (ac (ac rfl))))))))))))) : okT 12 [.row 9 1 0 [[(vs (⟨([83] : List UInt8).toArray⟩ : ByteArray))]], .row 68 6 0 [[i6 1, vi .u64 0, vi .u64 0, vi .u64 0, vi .u64 0, i6 0]], .row 68 6 0 [[i6 0, vi .u64 x3_0, vi .u64 x3_1, vi .u64 x3_2, vi .u64 x3_3, i6 0]], .row 46 7 0 [[i6 0, .sl 1 0 6 0 1, vs b0, i6 0, vb false, vb false, (i6 (-1))], [i6 0, .sl 2 0 6 0 1, vs b0, i6 0, vb false, vb false, (i6 (-1))]], yS0, yP0, yF0, yW0, .cells 27 [.sl 0 0 1 0 1, .sl 3 0 7 0 2, i6 0, (.p (.lst 3 ([].map eForb))), (.p (.lst 5 ([].map eFoll)))], yT0, .cells 51 [i6 1, vi .u8 0, (.p (.lst 3 (eTrees ([(TreeD.mk (-1) 97 [])]))))], .frz 3 0 [[.val (.int .i64 (-1)), .val (.int .u8 97), .val (.slice .none 0 0)]]] = true)
      have q5 := (e5 : L6_0_e a1 x3_0 x3_1 x3_2 x3_3 2 1 ([(TreeD.mk (-1) 97 [])]) = some ((.brk 0), ⟨fr 79 g5 [(0, i6 a1), (3, .ptr 8 0), (4, .ptr 10 0)], [.row 9 1 0 [[(vs (⟨([83] : List UInt8).toArray⟩ : ByteArray))]], .row 68 6 0 [[i6 1, vi .u64 0, vi .u64 0, vi .u64 0, vi .u64 0, i6 0]], .row 68 6 0 [[i6 0, vi .u64 x3_0, vi .u64 x3_1, vi .u64 x3_2, vi .u64 x3_3, i6 0]], .row 46 7 0 [[i6 0, .sl 1 0 6 0 1, vs b0, i6 0, vb false, vb false, (i6 (-1))], [i6 0, .sl 2 0 6 0 1, vs b0, i6 0, vb false, vb false, (i6 (-1))]], yS0, yP0, yF0, yW0, .cells 27 [.sl 0 0 1 0 1, .sl 3 0 7 0 2, i6 0, (.p (.lst 3 ([].map eForb))), (.p (.lst 5 ([].map eFoll)))], yT0, .cells 51 [i6 x5_0, vi .u8 0, (.p (.lst 3 (eTrees x5_1)))], .frz 3 0 [[.val (.int .i64 (-1)), .val (.int .u8 97), .val (.slice .none 0 0)]]]⟩))
      refine bn h fun r6 h6 h => ?_
      cases r6 with
      | k0 x6_0 x6_1 =>
       have q6 := (((F20_ok Nf (TreeD.mk x5_0 0 x5_1) h6).cp rfl _) : CP prg 20 [(.agg [i6 x5_0, vi .u8 0, (.p (.lst 3 (eTrees x5_1)))])] [.row 9 1 0 [[(vs (⟨([83] : List UInt8).toArray⟩ : ByteArray))]], .row 68 6 0 [[i6 1, vi .u64 0, vi .u64 0, vi .u64 0, vi .u64 0, i6 0]], .row 68 6 0 [[i6 0, vi .u64 x3_0, vi .u64 x3_1, vi .u64 x3_2, vi .u64 x3_3, i6 0]], .row 46 7 0 [[i6 0, .sl 1 0 6 0 1, vs b0, i6 0, vb false, vb false, (i6 (-1))], [i6 0, .sl 2 0 6 0 1, vs b0, i6 0, vb false, vb false, (i6 (-1))]], yS0, yP0, yF0, yW0, .cells 27 [.sl 0 0 1 0 1, .sl 3 0 7 0 2, i6 0, (.p (.lst 3 ([].map eForb))), (.p (.lst 5 ([].map eFoll)))], yT0, .cells 51 [i6 x5_0, vi .u8 0, (.p (.lst 3 (eTrees x5_1)))], .frz 3 0 [[.val (.int .i64 (-1)), .val (.int .u8 97), .val (.slice .none 0 0)]]] = some (.tup [vs x6_0, i6 x6_1]))
       refine bn h fun x7 h7 h => ?_
       have q7 := (((F21_ok Nf (⟨[(⟨([83] : List UInt8).toArray⟩ : ByteArray)], [(⟨0, [(⟨1, 0, 0, 0, 0, 0⟩ : SymD)], b0, 0, false, false, -1⟩ : ProdD), (⟨0, [(⟨0, x3_0, x3_1, x3_2, x3_3, 0⟩ : SymD)], b0, 0, false, false, -1⟩ : ProdD)], 0, [], []⟩ : GramD) (TreeD.mk x5_0 0 x5_1) h7).own rfl (purAs_cons (by kernel_rfl) (purAs_cons rfl purAs_nil)) rfl) : CP prg 21 [(.agg [.sl 0 0 1 0 1, .sl 3 0 7 0 2, i6 0, (.p (.lst 3 ([].map eForb))), (.p (.lst 5 ([].map eFoll)))]), (.agg [i6 x5_0, vi .u8 0, (.p (.lst 3 (eTrees x5_1)))])] [.row 9 1 0 [[(vs (⟨([83] : List UInt8).toArray⟩ : ByteArray))]], .row 68 6 0 [[i6 1, vi .u64 0, vi .u64 0, vi .u64 0, vi .u64 0, i6 0]], .row 68 6 0 [[i6 0, vi .u64 x3_0, vi .u64 x3_1, vi .u64 x3_2, vi .u64 x3_3, i6 0]], .row 46 7 0 [[i6 0, .sl 1 0 6 0 1, vs b0, i6 0, vb false, vb false, (i6 (-1))], [i6 0, .sl 2 0 6 0 1, vs b0, i6 0, vb false, vb false, (i6 (-1))]], yS0, yP0, yF0, yW0, .cells 27 [.sl 0 0 1 0 1, .sl 3 0 7 0 2, i6 0, (.p (.lst 3 ([].map eForb))), (.p (.lst 5 ([].map eFoll)))], yT0, .cells 51 [i6 x5_0, vi .u8 0, (.p (.lst 3 (eTrees x5_1)))], .frz 3 0 [[.val (.int .i64 (-1)), .val (.int .u8 97), .val (.slice .none 0 0)]]] = some (i6 x7))
       refine bi h ?_ ?_ <;> intro h8 h
       ·
        refine bi h ?_ ?_ <;> intro h9 h
        ·
         refine bi h ?_ ?_ <;> intro h10 h
         ·
          refine bi h ?_ ?_ <;> intro h11 h
          ·
           refine bn h fun x12 h12 h => ?_
           rw [← sj h]
           exact fpr ([(10, .d false), (13, .d false), (20, .v (.agg [vi .u64 x3_0, vi .u64 x3_1, vi .u64 x3_2, vi .u64 x3_3])), (28, .d true)] ++ ((F6_c0 g5 a1 x3_0 x3_1 x3_2 x3_3 x5_0 x5_1) ++ [(42, .v (.tup [vs x6_0, i6 x6_1])), (47, .v (i6 x7)), (49, .d true), (51, .d true), (54, .d true), (58, .d true), (61, .v (vb x12)), (6000, .d true)])) (av h1 (av h2 (apc q2 (av h4 (apc q4 (apc q5 (apc q6 (apc q7 (av h8 (av h9 (av h10 (av h11 (apc (((F10_ok  h12).cp rfl _) : CP prg 10 [] [.row 9 1 0 [[(vs (⟨([83] : List UInt8).toArray⟩ : ByteArray))]], .row 68 6 0 [[i6 1, vi .u64 0, vi .u64 0, vi .u64 0, vi .u64 0, i6 0]], .row 68 6 0 [[i6 0, vi .u64 x3_0, vi .u64 x3_1, vi .u64 x3_2, vi .u64 x3_3, i6 0]], .row 46 7 0 [[i6 0, .sl 1 0 6 0 1, vs b0, i6 0, vb false, vb false, (i6 (-1))], [i6 0, .sl 2 0 6 0 1, vs b0, i6 0, vb false, vb false, (i6 (-1))]], yS0, yP0, yF0, yW0, .cells 27 [.sl 0 0 1 0 1, .sl 3 0 7 0 2, i6 0, (.p (.lst 3 ([].map eForb))), (.p (.lst 5 ([].map eFoll)))], yT0, .cells 51 [i6 x5_0, vi .u8 0, (.p (.lst 3 (eTrees x5_1)))], .frz 3 0 [[.val (.int .i64 (-1)), .val (.int .u8 97), .val (.slice .none 0 0)]]] = some (vb x12)) apn))))))))))))) rfl (by kernel_rfl)
          ·
           rw [← sj h]
           exact fpr ([(10, .d false), (13, .d false), (20, .v (.agg [vi .u64 x3_0, vi .u64 x3_1, vi .u64 x3_2, vi .u64 x3_3])), (28, .d true)] ++ ((F6_c0 g5 a1 x3_0 x3_1 x3_2 x3_3 x5_0 x5_1) ++ [(42, .v (.tup [vs x6_0, i6 x6_1])), (47, .v (i6 x7)), (49, .d true), (51, .d true), (54, .d true), (58, .d false), (6000, .d true)])) (av h1 (av h2 (apc q2 (av h4 (apc q4 (apc q5 (apc q6 (apc q7 (av h8 (av h9 (av h10 (av h11 apn)))))))))))) rfl (by kernel_rfl)
         ·
          rw [← sj h]
          exact fpr ([(10, .d false), (13, .d false), (20, .v (.agg [vi .u64 x3_0, vi .u64 x3_1, vi .u64 x3_2, vi .u64 x3_3])), (28, .d true)] ++ ((F6_c0 g5 a1 x3_0 x3_1 x3_2 x3_3 x5_0 x5_1) ++ [(42, .v (.tup [vs x6_0, i6 x6_1])), (47, .v (i6 x7)), (49, .d true), (51, .d true), (54, .d false), (6000, .d true)])) (av h1 (av h2 (apc q2 (av h4 (apc q4 (apc q5 (apc q6 (apc q7 (av h8 (av h9 (av h10 apn))))))))))) rfl (by kernel_rfl)
        ·
         rw [← sj h]
         exact fpr ([(10, .d false), (13, .d false), (20, .v (.agg [vi .u64 x3_0, vi .u64 x3_1, vi .u64 x3_2, vi .u64 x3_3])), (28, .d true)] ++ ((F6_c0 g5 a1 x3_0 x3_1 x3_2 x3_3 x5_0 x5_1) ++ [(42, .v (.tup [vs x6_0, i6 x6_1])), (47, .v (i6 x7)), (49, .d true), (51, .d false), (6000, .d true)])) (av h1 (av h2 (apc q2 (av h4 (apc q4 (apc q5 (apc q6 (apc q7 (av h8 (av h9 apn)))))))))) rfl (by kernel_rfl)
       ·
        refine bi h ?_ ?_ <;> intro h9 h
        ·
         refine bi h ?_ ?_ <;> intro h10 h
         ·
          refine bi h ?_ ?_ <;> intro h11 h
          ·
           refine bn h fun x12 h12 h => ?_
           rw [← sj h]
           exact fpr ([(10, .d false), (13, .d false), (20, .v (.agg [vi .u64 x3_0, vi .u64 x3_1, vi .u64 x3_2, vi .u64 x3_3])), (28, .d true)] ++ ((F6_c0 g5 a1 x3_0 x3_1 x3_2 x3_3 x5_0 x5_1) ++ [(42, .v (.tup [vs x6_0, i6 x6_1])), (47, .v (i6 x7)), (49, .d false), (64, .d true), (67, .d true), (74, .d true), (77, .v (vb x12)), (6000, .d true)])) (av h1 (av h2 (apc q2 (av h4 (apc q4 (apc q5 (apc q6 (apc q7 (av h8 (av h9 (av h10 (av h11 (apc (((F10_ok  h12).cp rfl _) : CP prg 10 [] [.row 9 1 0 [[(vs (⟨([83] : List UInt8).toArray⟩ : ByteArray))]], .row 68 6 0 [[i6 1, vi .u64 0, vi .u64 0, vi .u64 0, vi .u64 0, i6 0]], .row 68 6 0 [[i6 0, vi .u64 x3_0, vi .u64 x3_1, vi .u64 x3_2, vi .u64 x3_3, i6 0]], .row 46 7 0 [[i6 0, .sl 1 0 6 0 1, vs b0, i6 0, vb false, vb false, (i6 (-1))], [i6 0, .sl 2 0 6 0 1, vs b0, i6 0, vb false, vb false, (i6 (-1))]], yS0, yP0, yF0, yW0, .cells 27 [.sl 0 0 1 0 1, .sl 3 0 7 0 2, i6 0, (.p (.lst 3 ([].map eForb))), (.p (.lst 5 ([].map eFoll)))], yT0, .cells 51 [i6 x5_0, vi .u8 0, (.p (.lst 3 (eTrees x5_1)))], .frz 3 0 [[.val (.int .i64 (-1)), .val (.int .u8 97), .val (.slice .none 0 0)]]] = some (vb x12)) apn))))))))))))) rfl (by kernel_rfl)
          ·
           rw [← sj h]
           exact fpr ([(10, .d false), (13, .d false), (20, .v (.agg [vi .u64 x3_0, vi .u64 x3_1, vi .u64 x3_2, vi .u64 x3_3])), (28, .d true)] ++ ((F6_c0 g5 a1 x3_0 x3_1 x3_2 x3_3 x5_0 x5_1) ++ [(42, .v (.tup [vs x6_0, i6 x6_1])), (47, .v (i6 x7)), (49, .d false), (64, .d true), (67, .d true), (74, .d false), (6000, .d true)])) (av h1 (av h2 (apc q2 (av h4 (apc q4 (apc q5 (apc q6 (apc q7 (av h8 (av h9 (av h10 (av h11 apn)))))))))))) rfl (by kernel_rfl)
         ·
          rw [← sj h]
          exact fpr ([(10, .d false), (13, .d false), (20, .v (.agg [vi .u64 x3_0, vi .u64 x3_1, vi .u64 x3_2, vi .u64 x3_3])), (28, .d true)] ++ ((F6_c0 g5 a1 x3_0 x3_1 x3_2 x3_3 x5_0 x5_1) ++ [(42, .v (.tup [vs x6_0, i6 x6_1])), (47, .v (i6 x7)), (49, .d false), (64, .d true), (67, .d false), (6000, .d true)])) (av h1 (av h2 (apc q2 (av h4 (apc q4 (apc q5 (apc q6 (apc q7 (av h8 (av h9 (av h10 apn))))))))))) rfl (by kernel_rfl)
        ·
         rw [← sj h]
         exact fpr ([(10, .d false), (13, .d false), (20, .v (.agg [vi .u64 x3_0, vi .u64 x3_1, vi .u64 x3_2, vi .u64 x3_3])), (28, .d true)] ++ ((F6_c0 g5 a1 x3_0 x3_1 x3_2 x3_3 x5_0 x5_1) ++ [(42, .v (.tup [vs x6_0, i6 x6_1])), (47, .v (i6 x7)), (49, .d false), (64, .d false), (6000, .d true)])) (av h1 (av h2 (apc q2 (av h4 (apc q4 (apc q5 (apc q6 (apc q7 (av h8 (av h9 apn)))))))))) rfl (by kernel_rfl)
    ·
     refine bn h fun r5 h5 h => ?_
     cases r5 with
     | k0 x5_0 x5_1 x5_2 =>
      obtain ⟨g5, e5⟩ := L6_0_2_run a1 x3_0 x3_1 x3_2 x3_3 (2, -1, 97, []) _ h5
      have q4 := ((oK (ac (ac (ac (ac (ar (ar (ar (ar (ac (ar (ac rfl)))))))))))) : okT 11 [.row 9 1 0 [[(vs (⟨([83] : List UInt8).toArray⟩ : ByteArray))]], .row 68 6 0 [[i6 1, vi .u64 0, vi .u64 0, vi .u64 0, vi .u64 0, i6 0]], .row 68 6 0 [[i6 0, vi .u64 x3_0, vi .u64 x3_1, vi .u64 x3_2, vi .u64 x3_3, i6 0]], .row 46 7 0 [[i6 0, .sl 1 0 6 0 1, vs b0, i6 0, vb false, vb false, (i6 (-1))], [i6 0, .sl 2 0 6 0 1, vs b0, i6 0, vb false, vb false, (i6 (-1))]], yS0, yP0, yF0, yW0, .cells 27 [.sl 0 0 1 0 1, .sl 3 0 7 0 2, i6 0, (.p (.lst 3 ([].map eForb))), (.p (.lst 5 ([].map eFoll)))], yT0, .cells 51 [(i6 (-1)), vi .u8 97, (.p (.lst 3 (eTrees ([]))))]] = true)
      have q5 := (e5 : L6_0_2_e a1 x3_0 x3_1 x3_2 x3_3 2 (-1) 97 ([]) = some ((.brk 0), ⟨fr 79 g5 [(0, i6 a1), (3, .ptr 8 0), (4, .ptr 10 0)], [.row 9 1 0 [[(vs (⟨([83] : List UInt8).toArray⟩ : ByteArray))]], .row 68 6 0 [[i6 1, vi .u64 0, vi .u64 0, vi .u64 0, vi .u64 0, i6 0]], .row 68 6 0 [[i6 0, vi .u64 x3_0, vi .u64 x3_1, vi .u64 x3_2, vi .u64 x3_3, i6 0]], .row 46 7 0 [[i6 0, .sl 1 0 6 0 1, vs b0, i6 0, vb false, vb false, (i6 (-1))], [i6 0, .sl 2 0 6 0 1, vs b0, i6 0, vb false, vb false, (i6 (-1))]], yS0, yP0, yF0, yW0, .cells 27 [.sl 0 0 1 0 1, .sl 3 0 7 0 2, i6 0, (.p (.lst 3 ([].map eForb))), (.p (.lst 5 ([].map eFoll)))], yT0, .cells 51 [i6 x5_0, vi .u8 x5_1, (.p (.lst 3 (eTrees x5_2)))]]⟩))
      refine bn h fun r6 h6 h => ?_
      cases r6 with
      | k0 x6_0 x6_1 =>
       have q6 := (((F20_ok Nf (TreeD.mk x5_0 x5_1 x5_2) h6).cp rfl _) : CP prg 20 [(.agg [i6 x5_0, vi .u8 x5_1, (.p (.lst 3 (eTrees x5_2)))])] [.row 9 1 0 [[(vs (⟨([83] : List UInt8).toArray⟩ : ByteArray))]], .row 68 6 0 [[i6 1, vi .u64 0, vi .u64 0, vi .u64 0, vi .u64 0, i6 0]], .row 68 6 0 [[i6 0, vi .u64 x3_0, vi .u64 x3_1, vi .u64 x3_2, vi .u64 x3_3, i6 0]], .row 46 7 0 [[i6 0, .sl 1 0 6 0 1, vs b0, i6 0, vb false, vb false, (i6 (-1))], [i6 0, .sl 2 0 6 0 1, vs b0, i6 0, vb false, vb false, (i6 (-1))]], yS0, yP0, yF0, yW0, .cells 27 [.sl 0 0 1 0 1, .sl 3 0 7 0 2, i6 0, (.p (.lst 3 ([].map eForb))), (.p (.lst 5 ([].map eFoll)))], yT0, .cells 51 [i6 x5_0, vi .u8 x5_1, (.p (.lst 3 (eTrees x5_2)))]] = some (.tup [vs x6_0, i6 x6_1]))
       refine bn h fun x7 h7 h => ?_
       have q7 := (((F21_ok Nf (⟨[(⟨([83] : List UInt8).toArray⟩ : ByteArray)], [(⟨0, [(⟨1, 0, 0, 0, 0, 0⟩ : SymD)], b0, 0, false, false, -1⟩ : ProdD), (⟨0, [(⟨0, x3_0, x3_1, x3_2, x3_3, 0⟩ : SymD)], b0, 0, false, false, -1⟩ : ProdD)], 0, [], []⟩ : GramD) (TreeD.mk x5_0 x5_1 x5_2) h7).own rfl (purAs_cons (by kernel_rfl) (purAs_cons rfl purAs_nil)) rfl) : CP prg 21 [(.agg [.sl 0 0 1 0 1, .sl 3 0 7 0 2, i6 0, (.p (.lst 3 ([].map eForb))), (.p (.lst 5 ([].map eFoll)))]), (.agg [i6 x5_0, vi .u8 x5_1, (.p (.lst 3 (eTrees x5_2)))])] [.row 9 1 0 [[(vs (⟨([83] : List UInt8).toArray⟩ : ByteArray))]], .row 68 6 0 [[i6 1, vi .u64 0, vi .u64 0, vi .u64 0, vi .u64 0, i6 0]], .row 68 6 0 [[i6 0, vi .u64 x3_0, vi .u64 x3_1, vi .u64 x3_2, vi .u64 x3_3, i6 0]], .row 46 7 0 [[i6 0, .sl 1 0 6 0 1, vs b0, i6 0, vb false, vb false, (i6 (-1))], [i6 0, .sl 2 0 6 0 1, vs b0, i6 0, vb false, vb false, (i6 (-1))]], yS0, yP0, yF0, yW0, .cells 27 [.sl 0 0 1 0 1, .sl 3 0 7 0 2, i6 0, (.p (.lst 3 ([].map eForb))), (.p (.lst 5 ([].map eFoll)))], yT0, .cells 51 [i6 x5_0, vi .u8 x5_1, (.p (.lst 3 (eTrees x5_2)))]] = some (i6 x7))
       refine bi h ?_ ?_ <;> intro h8 h
       ·
        refine bi h ?_ ?_ <;> intro h9 h
        ·
         refine bi h ?_ ?_ <;> intro h10 h
         ·
          refine bi h ?_ ?_ <;> intro h11 h
          ·
           refine bn h fun x12 h12 h => ?_
           rw [← sj h]
           exact fpr ([(10, .d false), (13, .d false), (20, .v (.agg [vi .u64 x3_0, vi .u64 x3_1, vi .u64 x3_2, vi .u64 x3_3])), (28, .d false)] ++ ((F6_c1 g5 a1 x3_0 x3_1 x3_2 x3_3 x5_0 x5_1 x5_2) ++ [(42, .v (.tup [vs x6_0, i6 x6_1])), (47, .v (i6 x7)), (49, .d true), (51, .d true), (54, .d true), (58, .d true), (61, .v (vb x12)), (6000, .d true)])) (av h1 (av h2 (apc q2 (av h4 (apc q4 (apc q5 (apc q6 (apc q7 (av h8 (av h9 (av h10 (av h11 (apc (((F10_ok  h12).cp rfl _) : CP prg 10 [] [.row 9 1 0 [[(vs (⟨([83] : List UInt8).toArray⟩ : ByteArray))]], .row 68 6 0 [[i6 1, vi .u64 0, vi .u64 0, vi .u64 0, vi .u64 0, i6 0]], .row 68 6 0 [[i6 0, vi .u64 x3_0, vi .u64 x3_1, vi .u64 x3_2, vi .u64 x3_3, i6 0]], .row 46 7 0 [[i6 0, .sl 1 0 6 0 1, vs b0, i6 0, vb false, vb false, (i6 (-1))], [i6 0, .sl 2 0 6 0 1, vs b0, i6 0, vb false, vb false, (i6 (-1))]], yS0, yP0, yF0, yW0, .cells 27 [.sl 0 0 1 0 1, .sl 3 0 7 0 2, i6 0, (.p (.lst 3 ([].map eForb))), (.p (.lst 5 ([].map eFoll)))], yT0, .cells 51 [i6 x5_0, vi .u8 x5_1, (.p (.lst 3 (eTrees x5_2)))]] = some (vb x12)) apn))))))))))))) rfl (by kernel_rfl)
          ·
           rw [← sj h]
           exact fpr ([(10, .d false), (13, .d false), (20, .v (.agg [vi .u64 x3_0, vi .u64 x3_1, vi .u64 x3_2, vi .u64 x3_3])), (28, .d false)] ++ ((F6_c1 g5 a1 x3_0 x3_1 x3_2 x3_3 x5_0 x5_1 x5_2) ++ [(42, .v (.tup [vs x6_0, i6 x6_1])), (47, .v (i6 x7)), (49, .d true), (51, .d true), (54, .d true), (58, .d false), (6000, .d true)])) (av h1 (av h2 (apc q2 (av h4 (apc q4 (apc q5 (apc q6 (apc q7 (av h8 (av h9 (av h10 (av h11 apn)))))))))))) rfl (by kernel_rfl)
         ·
          rw [← sj h]
          exact fpr ([(10, .d false), (13, .d false), (20, .v (.agg [vi .u64 x3_0, vi .u64 x3_1, vi .u64 x3_2, vi .u64 x3_3])), (28, .d false)] ++ ((F6_c1 g5 a1 x3_0 x3_1 x3_2 x3_3 x5_0 x5_1 x5_2) ++ [(42, .v (.tup [vs x6_0, i6 x6_1])), (47, .v (i6 x7)), (49, .d true), (51, .d true), (54, .d false), (6000, .d true)])) (av h1 (av h2 (apc q2 (av h4 (apc q4 (apc q5 (apc q6 (apc q7 (av h8 (av h9 (av h10 apn))))))))))) rfl (by kernel_rfl)
        ·
         rw [← sj h]
         exact fpr ([(10, .d false), (13, .d false), (20, .v (.agg [vi .u64 x3_0, vi .u64 x3_1, vi .u64 x3_2, vi .u64 x3_3])), (28, .d false)] ++ ((F6_c1 g5 a1 x3_0 x3_1 x3_2 x3_3 x5_0 x5_1 x5_2) ++ [(42, .v (.tup [vs x6_0, i6 x6_1])), (47, .v (i6 x7)), (49, .d true), (51, .d false), (6000, .d true)])) (av h1 (av h2 (apc q2 (av h4 (apc q4 (apc q5 (apc q6 (apc q7 (av h8 (av h9 apn)))))))))) rfl (by kernel_rfl)
       ·
        refine bi h ?_ ?_ <;> intro h9 h
        ·
         refine bi h ?_ ?_ <;> intro h10 h
         ·
          refine bi h ?_ ?_ <;> intro h11 h
          ·
           refine bn h fun x12 h12 h => ?_
           rw [← sj h]
           exact fpr ([(10, .d false), (13, .d false), (20, .v (.agg [vi .u64 x3_0, vi .u64 x3_1, vi .u64 x3_2, vi .u64 x3_3])), (28, .d false)] ++ ((F6_c1 g5 a1 x3_0 x3_1 x3_2 x3_3 x5_0 x5_1 x5_2) ++ [(42, .v (.tup [vs x6_0, i6 x6_1])), (47, .v (i6 x7)), (49, .d false), (64, .d true), (67, .d true), (74, .d true), (77, .v (vb x12)), (6000, .d true)])) (av h1 (av h2 (apc q2 (av h4 (apc q4 (apc q5 (apc q6 (apc q7 (av h8 (av h9 (av h10 (av h11 (apc (((F10_ok  h12).cp rfl _) : CP prg 10 [] [.row 9 1 0 [[(vs (⟨([83] : List UInt8).toArray⟩ : ByteArray))]], .row 68 6 0 [[i6 1, vi .u64 0, vi .u64 0, vi .u64 0, vi .u64 0, i6 0]], .row 68 6 0 [[i6 0, vi .u64 x3_0, vi .u64 x3_1, vi .u64 x3_2, vi .u64 x3_3, i6 0]], .row 46 7 0 [[i6 0, .sl 1 0 6 0 1, vs b0, i6 0, vb false, vb false, (i6 (-1))], [i6 0, .sl 2 0 6 0 1, vs b0, i6 0, vb false, vb false, (i6 (-1))]], yS0, yP0, yF0, yW0, .cells 27 [.sl 0 0 1 0 1, .sl 3 0 7 0 2, i6 0, (.p (.lst 3 ([].map eForb))), (.p (.lst 5 ([].map eFoll)))], yT0, .cells 51 [i6 x5_0, vi .u8 x5_1, (.p (.lst 3 (eTrees x5_2)))]] = some (vb x12)) apn))))))))))))) rfl (by kernel_rfl)
          ·
           rw [← sj h]
           exact fpr ([(10, .d false), (13, .d false), (20, .v (.agg [vi .u64 x3_0, vi .u64 x3_1, vi .u64 x3_2, vi .u64 x3_3])), (28, .d false)] ++ ((F6_c1 g5 a1 x3_0 x3_1 x3_2 x3_3 x5_0 x5_1 x5_2) ++ [(42, .v (.tup [vs x6_0, i6 x6_1])), (47, .v (i6 x7)), (49, .d false), (64, .d true), (67, .d true), (74, .d false), (6000, .d true)])) (av h1 (av h2 (apc q2 (av h4 (apc q4 (apc q5 (apc q6 (apc q7 (av h8 (av h9 (av h10 (av h11 apn)))))))))))) rfl (by kernel_rfl)
         ·
          rw [← sj h]
          exact fpr ([(10, .d false), (13, .d false), (20, .v (.agg [vi .u64 x3_0, vi .u64 x3_1, vi .u64 x3_2, vi .u64 x3_3])), (28, .d false)] ++ ((F6_c1 g5 a1 x3_0 x3_1 x3_2 x3_3 x5_0 x5_1 x5_2) ++ [(42, .v (.tup [vs x6_0, i6 x6_1])), (47, .v (i6 x7)), (49, .d false), (64, .d true), (67, .d false), (6000, .d true)])) (av h1 (av h2 (apc q2 (av h4 (apc q4 (apc q5 (apc q6 (apc q7 (av h8 (av h9 (av h10 apn))))))))))) rfl (by kernel_rfl)
        ·
         rw [← sj h]
         exact fpr ([(10, .d false), (13, .d false), (20, .v (.agg [vi .u64 x3_0, vi .u64 x3_1, vi .u64 x3_2, vi .u64 x3_3])), (28, .d false)] ++ ((F6_c1 g5 a1 x3_0 x3_1 x3_2 x3_3 x5_0 x5_1 x5_2) ++ [(42, .v (.tup [vs x6_0, i6 x6_1])), (47, .v (i6 x7)), (49, .d false), (64, .d false), (6000, .d true)])) (av h1 (av h2 (apc q2 (av h4 (apc q4 (apc q5 (apc q6 (apc q7 (av h8 (av h9 apn)))))))))) rfl (by kernel_rfl)
end
end Go.Proofs.Try
