/- Decompiled by a program: functions as plain data see them, part 1. -/
import Derived.Test.YthpmanlglbfcdaaDoorW8
namespace Go.Proofs.Tryd
set_option linter.unusedSimpArgs false
set_option linter.unusedVariables false
set_option maxHeartbeats 4000000
open Go Go.Vs
noncomputable section
def F17_v (a1 : ByteArray) (x0 : Int) : AV := (i6 x0)
def F17 (a1 : ByteArray) : Option Int :=
  ((getI (⟨([10] : List UInt8).toArray⟩ : ByteArray).data.toList 0).bind fun x1 => (some ((a1.data.toList.count (Int.toNat (x1.toNat : Int)).toUInt8 : Nat) : Int)))
theorem F17_ok (a1 : ByteArray) {r : Int} (h : F17 a1 = some r) : PR1 prg 17 [vs a1, (vs (⟨([10] : List UInt8).toArray⟩ : ByteArray))] (F17_v a1 r) := by
 unfold F17 at h
 apply bn h; intro x1 h1 h
 rw [← sj h]
 exact fq [(18, .v (vi .u8 (x1.toNat : Int)))] (apc ((ix_str h1) : ixS (vs (⟨([10] : List UInt8).toArray⟩ : ByteArray)) (i6 0) = some (vi .u8 (x1.toNat : Int))) apn)
inductive E_L39_0 where
  | k0 (x0 : Int)
  | k1
section
variable (a1 : ByteArray)
def L39_0 (v1 : Int) : Option (E_L39_0 ⊕ (Int)) :=
  (bif (decide (v1 ≥ 0)) then ((getI a1.data.toList v1).bind fun x2 => (bif ((x2.toNat : Int) == 10) then (some (.inl (.k0 v1))) else (some (.inr ((IntKind.wrap .i64 (v1 - 1))))))) else (some (.inl (.k1))))
def L39_0_s (v1 : Int) : St := ⟨fr 19 ug [(0, vs a1), (1, vi .u8 10), (5, i6 v1)], []⟩
theorem L39_0_k (v1 : Int) : okT 0 (L39_0_s a1 v1).h = true := (okT_of rfl rfl)
abbrev L39_0_e (v1 : Int) := evH prg 0 [0, 1, 5] ir39_l0 (L39_0_s a1 v1)
def L39_0_x (e : E_L39_0) (r : Option (Out × St)) : Prop := match e with | .k0 x0 => ∃ g y, r = some (.ret, ⟨fr 19 g [(4, i6 x0)], y⟩) | .k1 => ∃ g, r = some ((.brk 0), ⟨fr 19 g [(0, vs a1)], []⟩)
theorem L39_0_ok (v1 : Int) {r : E_L39_0 ⊕ (Int)} (h : L39_0 a1 v1 = some r) : OkR (fun e => L39_0_x a1 e (L39_0_e a1 v1)) (fun s => L39_0_e a1 v1 = L39_0_e a1 s) r := by
 unfold L39_0 at h
 apply bi h <;> intro h1 h
 ·
  apply bn h; intro x2 h2 h
  have q0 := ((ix_str h2) : ixS (vs a1) (i6 v1) = some (vi .u8 (x2.toNat : Int)))
  have k1 := ka [(10, .d true), (15, .v (vi .u8 (x2.toNat : Int)))] (av h1 (apc q0 apn))
  apply bi h <;> intro h3 h
  ·
   rw [← sj h]
   exact xy ([(17, .d true), (6000, .d true)] ++ kH k1) (k1.b (av h3 apn))
  ·
   rw [← sj h]
   exact rn ([(17, .d false), (6000, .d true)] ++ kH k1) (k1.b (av h3 (apc (L39_0_k a1 (w6 (v1 - 1))) apn)))
 ·
  rw [← sj h]
  exact xb [(10, .d false), (6000, .d true)] (av h1 apn)
theorem L39_0_run (s0 : Int) (e : E_L39_0) (h : runL (fun s => L39_0 a1 s) s0 = some e) : L39_0_x a1 e (L39_0_e a1 s0) := by
  have q := @loop_sound' (Int) E_L39_0 (fun s => L39_0 a1 s) (fun s => L39_0_e a1 s) (L39_0_x a1) (fun s r h => L39_0_ok a1 s h) s0 e h
  exact q
end
def F39_v (a1 : ByteArray) (x0 : Int) : AV := (i6 x0)
def F39 (a1 : ByteArray) : Option Int :=
  ((runL (fun s => L39_0 a1 s) ((IntKind.wrap .i64 ((a1.size : Int) - 1)))).bind fun r1 => match r1 with | .k0 x1_0 => (some x1_0) | .k1 => (some (-1)))
theorem F39_ok (a1 : ByteArray) {r : Int} (h : F39 a1 = some r) : PR1 prg 39 [vs a1, vi .u8 10] (F39_v a1 r) := by
 unfold F39 at h
 apply bn h; intro r1 h1 h
 cases r1 with
 | k0 x1_0 =>
  obtain ⟨g1, y1, e1⟩ := L39_0_run a1 ((w6 ((a1.size : Int) - 1))) _ h1
  rw [← sj h]
  exact fq [(2000, .l .ret ⟨fr 19 g1 [(4, i6 x1_0)], y1⟩), (6000, .d true)] (apc (L39_0_k a1 (w6 ((a1.size : Int) - 1))) (apc (e1 : L39_0_e a1 (w6 ((a1.size : Int) - 1)) = some (.ret, ⟨fr 19 g1 [(4, i6 x1_0)], y1⟩)) apn))
 | k1 =>
  obtain ⟨g1, e1⟩ := L39_0_run a1 ((w6 ((a1.size : Int) - 1))) _ h1
  rw [← sj h]
  exact fq [(2000, .l (.brk 0) ⟨fr 19 g1 [(0, vs a1)], []⟩), (6000, .d true)] (apc (L39_0_k a1 (w6 ((a1.size : Int) - 1))) (apc (e1 : L39_0_e a1 (w6 ((a1.size : Int) - 1)) = some ((.brk 0), ⟨fr 19 g1 [(0, vs a1)], []⟩)) apn))
def F23_v (a1 : ByteArray) (x0 : Int) : AV := (i6 x0)
def F23 (a1 : ByteArray) : Option Int :=
  ((F39 a1).bind fun x1 => (some x1))
theorem F23_ok (a1 : ByteArray) {r : Int} (h : F23 a1 = some r) : PR1 prg 23 [vs a1, vi .u8 10] (F23_v a1 r) := by
 unfold F23 at h
 apply bn h; intro x1 h1 h
 rw [← sj h]
 exact fq [(7, .v (i6 x1))] (apc (((F39_ok a1 h1).cp rfl _) : CP prg 39 [vs a1, vi .u8 10] [] = some (i6 x1)) apn)
inductive R_F10_2 where
  | k0 (x0 x1 x2 : Int)
def F10_2_v (a1 : ByteArray) (r : R_F10_2) : AV := match r with | .k0 x0 x1 x2 => (.tup [(.agg [i6 x0, i6 x1]), i6 x2])
def F10_2 (a1 : ByteArray) : Option R_F10_2 :=
  (bif (decide ((a1.size : Int) > 1048576)) then (some (.k0 0 0 3)) else (bif (decide (0 > (a1.size : Int))) then (some (.k0 0 0 4)) else (bif (sl_ok 0 0 a1.size) then ((F17 (a1.extract (Int.toNat 0) (Int.toNat 0))).bind fun x4 => ((F23 (a1.extract (Int.toNat 0) (Int.toNat 0))).bind fun x5 => (some (.k0 (IntKind.wrap .i64 (x4 + 1)) (IntKind.wrap .i64 (0 - x5)) 0)))) else none)))
theorem F10_2_ok (a1 : ByteArray) {r : R_F10_2} (h : F10_2 a1 = some r) : PR1 prg 10 [vs a1, i6 0] (F10_2_v a1 r) := by
 unfold F10_2 at h
 apply bi h <;> intro h1 h
 ·
  rw [← sj h]
  exact fq [(10, .d true)] (av h1 apn)
 ·
  apply bi h <;> intro h2 h
  ·
   rw [← sj h]
   exact fq [(10, .d false), (19, .d true)] (av h1 (av h2 apn))
  ·
   have k0 := ka [(10, .d false), (19, .d false)] (av h1 (av h2 apn))
   apply bi h <;> intro h3 h
   ·
    apply bn h; intro x4 h4 h
    apply bn h; intro x5 h5 h
    rw [← sj h]
    exact fq ([(24, .v (vs (a1.extract (Int.toNat 0) (Int.toNat 0)))), (26, .v (i6 x4)), (30, .v (i6 x5))] ++ kH k0) (k0.b (apc ((sl_str h3) : slS (vs a1) (some 0) (some 0) = some (vs (a1.extract (Int.toNat 0) (Int.toNat 0)))) (apc (((F17_ok (a1.extract (Int.toNat 0) (Int.toNat 0)) h4).cp rfl _) : CP prg 17 [(vs (a1.extract (Int.toNat 0) (Int.toNat 0))), (vs (⟨([10] : List UInt8).toArray⟩ : ByteArray))] [.cells 23 [i6 0, i6 0]] = some (i6 x4)) (apc (((F23_ok (a1.extract (Int.toNat 0) (Int.toNat 0)) h5).cp rfl _) : CP prg 23 [(vs (a1.extract (Int.toNat 0) (Int.toNat 0))), vi .u8 10] [.cells 23 [i6 0, i6 0]] = some (i6 x5)) apn))))
   ·
    cases h
def F15_v (a1 : ByteArray) (x0 : ByteArray) : AV := (.fn 28 [(.ro [.val (.string x0)])])
def F15 (a1 : ByteArray) : Option ByteArray :=
  (some a1)
theorem F15_ok (a1 : ByteArray) {r : ByteArray} (h : F15 a1 = some r) : PR1 prg 15 [vs a1] (F15_v a1 r) := by
 unfold F15 at h
 rw [← sj h]
 exact fpo (v := (.fn 28 [.ptr 0 0])) (h' := [.cells 9 [vs a1]]) [] apn (purA_fn (purAs_cons (purA_ptr rfl (mapO_con rfl rfl)) purAs_nil)) (by kernel_rfl)
inductive R_F47_4 where
  | k0
def F47_4_v (a1 a2 : ByteArray) (a3 : Int) (r : R_F47_4) : AV := match r with | .k0 => (.fn 57 [.ptr 8 0, .ptr 7 0, .ptr 9 0])
def F47_4_h (a1 a2 : ByteArray) (a3 : Int) (r : R_F47_4) : List AB := match r with | .k0 => [.cells 23 [i6 1, i6 1], .cells 3 [i6 0], .cells 25 [i6 0], .cells 3 [i6 0], .loop 0 none [13, 14] [vs a2, (.agg [i6 1, i6 1]), (.p (.val undef)), .ptr 0 0, .ptr 1 0, .ptr 2 0, .ptr 3 0, (.p (.val undef)), vs a2, i6 a3, vb false, vs a2, (.fn 28 [(.ro [.val (.string a1)])]), (.p (.val undef)), (.p (.val undef)), (.p (.val undef)), (.p (.val undef)), (.p (.val undef)), (.p (.val undef)), (.p (.val undef)), (.p (.val undef)), (.p (.val undef)), (.p (.val undef)), (.p (.val undef)), (.p (.val undef)), (.p (.val undef)), (.p (.val undef)), (.p (.val undef)), (.p (.val undef)), (.p (.val undef)), (.p (.val undef)), (.p (.val undef)), (.p (.val undef)), (.p (.val undef)), (.p (.val undef)), (.p (.val undef)), (.p (.val undef)), (.p (.val undef)), (.p (.val undef)), (.p (.val undef)), (.p (.val undef))] ir11_a0 ir11_b0, .cells 66 [.yl 4], .cells 3 [i6 0], .cells 9 [vs a1], .cells 9 [(vs (⟨([10] : List UInt8).toArray⟩ : ByteArray))], .cells 3 [i6 0]]
def F47_4 : Option R_F47_4 :=
  (some (.k0))
theorem F47_4_ok (a1 a2 : ByteArray) (a3 : Int) {r : R_F47_4} (h : F47_4 = some r) : CS prg 47 [vs a1, (vs (⟨([10] : List UInt8).toArray⟩ : ByteArray)), i6 0] [.cells 23 [i6 1, i6 1], .cells 3 [i6 0], .cells 25 [i6 0], .cells 3 [i6 0], .loop 0 none [13, 14] [vs a2, (.agg [i6 1, i6 1]), (.p (.val undef)), .ptr 0 0, .ptr 1 0, .ptr 2 0, .ptr 3 0, (.p (.val undef)), vs a2, i6 a3, vb false, vs a2, (.fn 28 [(.ro [.val (.string a1)])]), (.p (.val undef)), (.p (.val undef)), (.p (.val undef)), (.p (.val undef)), (.p (.val undef)), (.p (.val undef)), (.p (.val undef)), (.p (.val undef)), (.p (.val undef)), (.p (.val undef)), (.p (.val undef)), (.p (.val undef)), (.p (.val undef)), (.p (.val undef)), (.p (.val undef)), (.p (.val undef)), (.p (.val undef)), (.p (.val undef)), (.p (.val undef)), (.p (.val undef)), (.p (.val undef)), (.p (.val undef)), (.p (.val undef)), (.p (.val undef)), (.p (.val undef)), (.p (.val undef)), (.p (.val undef)), (.p (.val undef))] ir11_a0 ir11_b0, .cells 66 [.yl 4], .cells 3 [i6 0]] = some (F47_4_v a1 a2 a3 r, F47_4_h a1 a2 a3 r) := by
 unfold F47_4 at h
 rw [← sj h]
 exact fc [] apn
inductive R_F29_4 where
  | k0
def F29_4_v (a1 a2 : ByteArray) (a3 : Int) (r : R_F29_4) : AV := match r with | .k0 => (.fn 57 [.ptr 8 0, .ptr 7 0, .ptr 9 0])
def F29_4_h (a1 a2 : ByteArray) (a3 : Int) (r : R_F29_4) : List AB := match r with | .k0 => [.cells 23 [i6 1, i6 1], .cells 3 [i6 0], .cells 25 [i6 0], .cells 3 [i6 0], .loop 0 none [13, 14] [vs a2, (.agg [i6 1, i6 1]), (.p (.val undef)), .ptr 0 0, .ptr 1 0, .ptr 2 0, .ptr 3 0, (.p (.val undef)), vs a2, i6 a3, vb false, vs a2, (.fn 28 [(.ro [.val (.string a1)])]), (.p (.val undef)), (.p (.val undef)), (.p (.val undef)), (.p (.val undef)), (.p (.val undef)), (.p (.val undef)), (.p (.val undef)), (.p (.val undef)), (.p (.val undef)), (.p (.val undef)), (.p (.val undef)), (.p (.val undef)), (.p (.val undef)), (.p (.val undef)), (.p (.val undef)), (.p (.val undef)), (.p (.val undef)), (.p (.val undef)), (.p (.val undef)), (.p (.val undef)), (.p (.val undef)), (.p (.val undef)), (.p (.val undef)), (.p (.val undef)), (.p (.val undef)), (.p (.val undef)), (.p (.val undef)), (.p (.val undef))] ir11_a0 ir11_b0, .cells 66 [.yl 4], .cells 3 [i6 0], .cells 9 [vs a1], .cells 9 [(vs (⟨([10] : List UInt8).toArray⟩ : ByteArray))], .cells 3 [i6 0]]
def F29_4 : Option R_F29_4 :=
  ((F47_4).bind fun r1 => match r1 with | .k0 => (some (.k0)))
abbrev F29_4_d0 (a2 : ByteArray) (a3 : Int) (a1 : ByteArray) : List AB := [.cells 23 [i6 1, i6 1], .cells 3 [i6 0], .cells 25 [i6 0], .cells 3 [i6 0], .loop 0 none [13, 14] [vs a2, (.agg [i6 1, i6 1]), (.p (.val undef)), .ptr 0 0, .ptr 1 0, .ptr 2 0, .ptr 3 0, (.p (.val undef)), vs a2, i6 a3, vb false, vs a2, (.fn 28 [(.ro [.val (.string a1)])]), (.p (.val undef)), (.p (.val undef)), (.p (.val undef)), (.p (.val undef)), (.p (.val undef)), (.p (.val undef)), (.p (.val undef)), (.p (.val undef)), (.p (.val undef)), (.p (.val undef)), (.p (.val undef)), (.p (.val undef)), (.p (.val undef)), (.p (.val undef)), (.p (.val undef)), (.p (.val undef)), (.p (.val undef)), (.p (.val undef)), (.p (.val undef)), (.p (.val undef)), (.p (.val undef)), (.p (.val undef)), (.p (.val undef)), (.p (.val undef)), (.p (.val undef)), (.p (.val undef)), (.p (.val undef)), (.p (.val undef))] ir11_a0 ir11_b0, .cells 66 [.yl 4], .cells 3 [i6 0], .cells 9 [vs a1], .cells 9 [(vs (⟨([10] : List UInt8).toArray⟩ : ByteArray))], .cells 3 [i6 0]]
theorem F29_4_ok (a1 a2 : ByteArray) (a3 : Int) {r : R_F29_4} (h : F29_4 = some r) : CS prg 29 [vs a1, (vs (⟨([10] : List UInt8).toArray⟩ : ByteArray))] [.cells 23 [i6 1, i6 1], .cells 3 [i6 0], .cells 25 [i6 0], .cells 3 [i6 0], .loop 0 none [13, 14] [vs a2, (.agg [i6 1, i6 1]), (.p (.val undef)), .ptr 0 0, .ptr 1 0, .ptr 2 0, .ptr 3 0, (.p (.val undef)), vs a2, i6 a3, vb false, vs a2, (.fn 28 [(.ro [.val (.string a1)])]), (.p (.val undef)), (.p (.val undef)), (.p (.val undef)), (.p (.val undef)), (.p (.val undef)), (.p (.val undef)), (.p (.val undef)), (.p (.val undef)), (.p (.val undef)), (.p (.val undef)), (.p (.val undef)), (.p (.val undef)), (.p (.val undef)), (.p (.val undef)), (.p (.val undef)), (.p (.val undef)), (.p (.val undef)), (.p (.val undef)), (.p (.val undef)), (.p (.val undef)), (.p (.val undef)), (.p (.val undef)), (.p (.val undef)), (.p (.val undef)), (.p (.val undef)), (.p (.val undef)), (.p (.val undef)), (.p (.val undef))] ir11_a0 ir11_b0, .cells 66 [.yl 4], .cells 3 [i6 0]] = some (F29_4_v a1 a2 a3 r, F29_4_h a1 a2 a3 r) := by
 unfold F29_4 at h
 apply bn h; intro r1 h1 h
 cases r1 with
 | k0 =>
  rw [← sj h]
  exact fc [(7, .r (.fn 57 [.ptr 8 0, .ptr 7 0, .ptr 9 0]) (F29_4_d0 a2 a3 a1))] (apc ((F47_4_ok a1 a2 a3 h1) : CS prg 47 [vs a1, (vs (⟨([10] : List UInt8).toArray⟩ : ByteArray)), i6 0] [.cells 23 [i6 1, i6 1], .cells 3 [i6 0], .cells 25 [i6 0], .cells 3 [i6 0], .loop 0 none [13, 14] [vs a2, (.agg [i6 1, i6 1]), (.p (.val undef)), .ptr 0 0, .ptr 1 0, .ptr 2 0, .ptr 3 0, (.p (.val undef)), vs a2, i6 a3, vb false, vs a2, (.fn 28 [(.ro [.val (.string a1)])]), (.p (.val undef)), (.p (.val undef)), (.p (.val undef)), (.p (.val undef)), (.p (.val undef)), (.p (.val undef)), (.p (.val undef)), (.p (.val undef)), (.p (.val undef)), (.p (.val undef)), (.p (.val undef)), (.p (.val undef)), (.p (.val undef)), (.p (.val undef)), (.p (.val undef)), (.p (.val undef)), (.p (.val undef)), (.p (.val undef)), (.p (.val undef)), (.p (.val undef)), (.p (.val undef)), (.p (.val undef)), (.p (.val undef)), (.p (.val undef)), (.p (.val undef)), (.p (.val undef)), (.p (.val undef)), (.p (.val undef))] ir11_a0 ir11_b0, .cells 66 [.yl 4], .cells 3 [i6 0]] = some ((.fn 57 [.ptr 8 0, .ptr 7 0, .ptr 9 0]), F29_4_d0 a2 a3 a1)) apn)
def F59_v (a1 : ByteArray) (a2 : Int) (x0 : Int) : AV := (i6 x0)
def F59 (a1 : ByteArray) (a2 : Int) : Option Int :=
  (some (firstIdx a1 (Int.toNat a2).toUInt8))
theorem F59_ok (a1 : ByteArray) (a2 : Int) {r : Int} (h : F59 a1 a2 = some r) : PR1 prg 59 [vs a1, vi .u8 a2] (F59_v a1 a2 r) := by
 unfold F59 at h
 rw [← sj h]
 exact fq [] apn
def F48_v (a1 : ByteArray) (x0 : Int) : AV := (i6 x0)
def F48 (a1 : ByteArray) : Option Int :=
  (bif ((⟨([10] : List UInt8).toArray⟩ : ByteArray).toList == a1.toList) then (some 0) else ((getI (⟨([10] : List UInt8).toArray⟩ : ByteArray).data.toList 0).bind fun x2 => ((F59 a1 (x2.toNat : Int)).bind fun x3 => (some x3))))
theorem F48_ok (a1 : ByteArray) {r : Int} (h : F48 a1 = some r) : PR1 prg 48 [vs a1, (vs (⟨([10] : List UInt8).toArray⟩ : ByteArray))] (F48_v a1 r) := by
 unfold F48 at h
 apply bi h <;> intro h1 h
 ·
  rw [← sj h]
  exact fq [(22, .d true)] (av h1 apn)
 ·
  apply bn h; intro x2 h2 h
  apply bn h; intro x3 h3 h
  rw [← sj h]
  exact fq [(22, .d false), (29, .v (vi .u8 (x2.toNat : Int))), (30, .v (i6 x3))] (av h1 (apc ((ix_str h2) : ixS (vs (⟨([10] : List UInt8).toArray⟩ : ByteArray)) (i6 0) = some (vi .u8 (x2.toNat : Int))) (apc (((F59_ok a1 (x2.toNat : Int) h3).cp rfl _) : CP prg 59 [vs a1, (vi .u8 (x2.toNat : Int))] [] = some (i6 x3)) apn)))
def F30_v (a1 : ByteArray) (x0 : Int) : AV := (i6 x0)
def F30 (a1 : ByteArray) : Option Int :=
  ((F48 a1).bind fun x1 => (some x1))
theorem F30_ok (a1 : ByteArray) {r : Int} (h : F30 a1 = some r) : PR1 prg 30 [vs a1, (vs (⟨([10] : List UInt8).toArray⟩ : ByteArray))] (F30_v a1 r) := by
 unfold F30 at h
 apply bn h; intro x1 h1 h
 rw [← sj h]
 exact fq [(7, .v (i6 x1))] (apc (((F48_ok a1 h1).cp rfl _) : CP prg 48 [vs a1, (vs (⟨([10] : List UInt8).toArray⟩ : ByteArray))] [] = some (i6 x1)) apn)
def Y11_0_v (a1 : Int) (a2 a3 : ByteArray) (a4 : Int) (a5 : ByteArray) (x0 : Int) : AV := (vb false)
def Y11_0_h (a1 : Int) (a2 a3 : ByteArray) (a4 : Int) (a5 : ByteArray) (x0 : Int) : List AB := [.cells 23 [i6 1, i6 1], .cells 3 [i6 0], .cells 25 [i6 x0], .cells 3 [i6 1], .loop 2 (some none) [13, 14] [vs a3, (.agg [i6 1, i6 1]), (.p (.val undef)), .ptr 0 0, .ptr 1 0, .ptr 2 0, .ptr 3 0, (.p (.val undef)), vs a3, i6 a4, vb false, vs a3, (.fn 28 [(.ro [.val (.string a5)])]), (.p (.val undef)), (.p (.val undef)), (.p (.val undef)), (.p (.val undef)), (.p (.val undef)), (.p (.val undef)), (.p (.val undef)), (.p (.val undef)), (.p (.val undef)), (.p (.val undef)), (.p (.val undef)), (.p (.val undef)), (.p (.val undef)), (.p (.val undef)), (.p (.val undef)), (.p (.val undef)), (.p (.val undef)), (.p (.val undef)), (.p (.val undef)), (.p (.val undef)), (.p (.val undef)), (.p (.val undef)), (.p (.val undef)), (.p (.val undef)), (.p (.val undef)), (.p (.val undef)), (.p (.val undef)), (.p (.val undef))] ir11_a0 ir11_b0, .cells 66 [.yl 4], .cells 3 [i6 0], .cells 9 [vs a5], .cells 9 [(vs (⟨([10] : List UInt8).toArray⟩ : ByteArray))], .cells 3 [i6 0], .loop 1 none [7] [.yl 4, (.ro [.val (.string a5)]), .ptr 5 0, .ptr 6 0, (.p (.val undef)), vs a5, (.fn 57 [.ptr 8 0, .ptr 7 0, .ptr 9 0]), (.p (.val undef)), (.p (.val undef)), (.p (.val undef)), (.p (.val undef)), (.p (.val undef)), (.p (.val undef)), (.p (.val undef)), (.p (.val undef)), (.p (.val undef)), (.p (.val undef)), (.p (.val undef)), (.p (.val undef)), (.p (.val undef)), (.p (.val undef)), (.p (.val undef)), (.p (.val undef))] ir28_a0 ir28_b0, .cells 32 [i6 0, i6 a1]]
def Y11_0 (a1 : Int) : Option Int :=
  (bif (decide (1 > (IntKind.wrap .i64 ((IntKind.wrap .i64 (a1 - 0)) + 1)))) then (some 4) else (some 0))
theorem Y11_0_ok (a1 : Int) (a2 a3 : ByteArray) (a4 : Int) (a5 : ByteArray) {r : Int} (h : Y11_0 a1 = some r) : callY (ev prg) 4 [(.agg [i6 0, i6 a1]), vs a2] [.cells 23 [i6 1, i6 1], .cells 3 [i6 0], .cells 25 [i6 0], .cells 3 [i6 0], .loop 0 none [13, 14] [vs a3, (.agg [i6 1, i6 1]), (.p (.val undef)), .ptr 0 0, .ptr 1 0, .ptr 2 0, .ptr 3 0, (.p (.val undef)), vs a3, i6 a4, vb false, vs a3, (.fn 28 [(.ro [.val (.string a5)])]), (.p (.val undef)), (.p (.val undef)), (.p (.val undef)), (.p (.val undef)), (.p (.val undef)), (.p (.val undef)), (.p (.val undef)), (.p (.val undef)), (.p (.val undef)), (.p (.val undef)), (.p (.val undef)), (.p (.val undef)), (.p (.val undef)), (.p (.val undef)), (.p (.val undef)), (.p (.val undef)), (.p (.val undef)), (.p (.val undef)), (.p (.val undef)), (.p (.val undef)), (.p (.val undef)), (.p (.val undef)), (.p (.val undef)), (.p (.val undef)), (.p (.val undef)), (.p (.val undef)), (.p (.val undef)), (.p (.val undef))] ir11_a0 ir11_b0, .cells 66 [.yl 4], .cells 3 [i6 0], .cells 9 [vs a5], .cells 9 [(vs (⟨([10] : List UInt8).toArray⟩ : ByteArray))], .cells 3 [i6 0], .loop 1 none [7] [.yl 4, (.ro [.val (.string a5)]), .ptr 5 0, .ptr 6 0, (.p (.val undef)), vs a5, (.fn 57 [.ptr 8 0, .ptr 7 0, .ptr 9 0]), (.p (.val undef)), (.p (.val undef)), (.p (.val undef)), (.p (.val undef)), (.p (.val undef)), (.p (.val undef)), (.p (.val undef)), (.p (.val undef)), (.p (.val undef)), (.p (.val undef)), (.p (.val undef)), (.p (.val undef)), (.p (.val undef)), (.p (.val undef)), (.p (.val undef)), (.p (.val undef))] ir28_a0 ir28_b0] = some (Y11_0_v a1 a2 a3 a4 a5 r, Y11_0_h a1 a2 a3 a4 a5 r) := by
 unfold Y11_0 at h
 apply bi h <;> intro h1 h
 ·
  rw [← sj h]
  exact fyc [(33, .d true)] (av h1 apn) (by kernel_rfl)
 ·
  rw [← sj h]
  exact fyc [(33, .d false)] (av h1 apn) (by kernel_rfl)
def Y28_0_v (a1 a2 : ByteArray) (a3 : Int) (a4 : ByteArray) (x0 : Int) : AV := (vb false)
def Y28_0_h (a1 a2 : ByteArray) (a3 : Int) (a4 : ByteArray) (x0 : Int) : List AB := [.cells 23 [i6 1, i6 1], .cells 3 [i6 0], .cells 25 [i6 x0], .cells 3 [i6 1], .loop 2 (some none) [13, 14] [vs a2, (.agg [i6 1, i6 1]), (.p (.val undef)), .ptr 0 0, .ptr 1 0, .ptr 2 0, .ptr 3 0, (.p (.val undef)), vs a2, i6 a3, vb false, vs a2, (.fn 28 [(.ro [.val (.string a4)])]), (.p (.val undef)), (.p (.val undef)), (.p (.val undef)), (.p (.val undef)), (.p (.val undef)), (.p (.val undef)), (.p (.val undef)), (.p (.val undef)), (.p (.val undef)), (.p (.val undef)), (.p (.val undef)), (.p (.val undef)), (.p (.val undef)), (.p (.val undef)), (.p (.val undef)), (.p (.val undef)), (.p (.val undef)), (.p (.val undef)), (.p (.val undef)), (.p (.val undef)), (.p (.val undef)), (.p (.val undef)), (.p (.val undef)), (.p (.val undef)), (.p (.val undef)), (.p (.val undef)), (.p (.val undef)), (.p (.val undef))] ir11_a0 ir11_b0, .cells 66 [.yl 4], .cells 3 [i6 0], .cells 9 [vs a4], .cells 9 [(vs (⟨([10] : List UInt8).toArray⟩ : ByteArray))], .cells 3 [i6 0], .loop 2 (some none) [7] [.yl 4, (.ro [.val (.string a4)]), .ptr 5 0, .ptr 6 0, (.p (.val undef)), vs a4, (.fn 57 [.ptr 8 0, .ptr 7 0, .ptr 9 0]), (.p (.val undef)), (.p (.val undef)), (.p (.val undef)), (.p (.val undef)), (.p (.val undef)), (.p (.val undef)), (.p (.val undef)), (.p (.val undef)), (.p (.val undef)), (.p (.val undef)), (.p (.val undef)), (.p (.val undef)), (.p (.val undef)), (.p (.val undef)), (.p (.val undef)), (.p (.val undef))] ir28_a0 ir28_b0, .cells 32 [i6 0, (i6 (w6 (0 + (a1.size : Int))))]]
def Y28_0 (a1 : ByteArray) : Option Int :=
  ((Y11_0 (IntKind.wrap .i64 (0 + (a1.size : Int)))).bind fun x1 => (some x1))
abbrev Y28_0_d0 (x1 : Int) (a2 : ByteArray) (a3 : Int) (a4 a1 : ByteArray) : List AB := [.cells 23 [i6 1, i6 1], .cells 3 [i6 0], .cells 25 [i6 x1], .cells 3 [i6 1], .loop 2 (some none) [13, 14] [vs a2, (.agg [i6 1, i6 1]), (.p (.val undef)), .ptr 0 0, .ptr 1 0, .ptr 2 0, .ptr 3 0, (.p (.val undef)), vs a2, i6 a3, vb false, vs a2, (.fn 28 [(.ro [.val (.string a4)])]), (.p (.val undef)), (.p (.val undef)), (.p (.val undef)), (.p (.val undef)), (.p (.val undef)), (.p (.val undef)), (.p (.val undef)), (.p (.val undef)), (.p (.val undef)), (.p (.val undef)), (.p (.val undef)), (.p (.val undef)), (.p (.val undef)), (.p (.val undef)), (.p (.val undef)), (.p (.val undef)), (.p (.val undef)), (.p (.val undef)), (.p (.val undef)), (.p (.val undef)), (.p (.val undef)), (.p (.val undef)), (.p (.val undef)), (.p (.val undef)), (.p (.val undef)), (.p (.val undef)), (.p (.val undef)), (.p (.val undef))] ir11_a0 ir11_b0, .cells 66 [.yl 4], .cells 3 [i6 0], .cells 9 [vs a4], .cells 9 [(vs (⟨([10] : List UInt8).toArray⟩ : ByteArray))], .cells 3 [i6 0], .loop 1 none [7] [.yl 4, (.ro [.val (.string a4)]), .ptr 5 0, .ptr 6 0, (.p (.val undef)), vs a4, (.fn 57 [.ptr 8 0, .ptr 7 0, .ptr 9 0]), (.p (.val undef)), (.p (.val undef)), (.p (.val undef)), (.p (.val undef)), (.p (.val undef)), (.p (.val undef)), (.p (.val undef)), (.p (.val undef)), (.p (.val undef)), (.p (.val undef)), (.p (.val undef)), (.p (.val undef)), (.p (.val undef)), (.p (.val undef)), (.p (.val undef)), (.p (.val undef))] ir28_a0 ir28_b0, .cells 32 [i6 0, (i6 (w6 (0 + (a1.size : Int))))]]
theorem Y28_0_ok (a1 a2 : ByteArray) (a3 : Int) (a4 : ByteArray) {r : Int} (h : Y28_0 a1 = some r) : callY (ev prg) 10 [vs a1] [.cells 23 [i6 1, i6 1], .cells 3 [i6 0], .cells 25 [i6 0], .cells 3 [i6 0], .loop 0 none [13, 14] [vs a2, (.agg [i6 1, i6 1]), (.p (.val undef)), .ptr 0 0, .ptr 1 0, .ptr 2 0, .ptr 3 0, (.p (.val undef)), vs a2, i6 a3, vb false, vs a2, (.fn 28 [(.ro [.val (.string a4)])]), (.p (.val undef)), (.p (.val undef)), (.p (.val undef)), (.p (.val undef)), (.p (.val undef)), (.p (.val undef)), (.p (.val undef)), (.p (.val undef)), (.p (.val undef)), (.p (.val undef)), (.p (.val undef)), (.p (.val undef)), (.p (.val undef)), (.p (.val undef)), (.p (.val undef)), (.p (.val undef)), (.p (.val undef)), (.p (.val undef)), (.p (.val undef)), (.p (.val undef)), (.p (.val undef)), (.p (.val undef)), (.p (.val undef)), (.p (.val undef)), (.p (.val undef)), (.p (.val undef)), (.p (.val undef)), (.p (.val undef))] ir11_a0 ir11_b0, .cells 66 [.yl 4], .cells 3 [i6 0], .cells 9 [vs a4], .cells 9 [(vs (⟨([10] : List UInt8).toArray⟩ : ByteArray))], .cells 3 [i6 0], .loop 0 none [7] [.yl 4, (.ro [.val (.string a4)]), .ptr 5 0, .ptr 6 0, (.p (.val undef)), vs a4, (.fn 57 [.ptr 8 0, .ptr 7 0, .ptr 9 0]), (.p (.val undef)), (.p (.val undef)), (.p (.val undef)), (.p (.val undef)), (.p (.val undef)), (.p (.val undef)), (.p (.val undef)), (.p (.val undef)), (.p (.val undef)), (.p (.val undef)), (.p (.val undef)), (.p (.val undef)), (.p (.val undef)), (.p (.val undef)), (.p (.val undef)), (.p (.val undef))] ir28_a0 ir28_b0] = some (Y28_0_v a1 a2 a3 a4 r, Y28_0_h a1 a2 a3 a4 r) := by
 unfold Y28_0 at h
 apply bn h; intro x1 h1 h
 rw [← sj h]
 exact fyc [(16, .r (vb false) (Y28_0_d0 x1 a2 a3 a4 a1))] (apc ((Y11_0_ok (w6 (0 + (a1.size : Int))) a1 a2 a3 a4 h1) : callY (ev prg) 4 [(.agg [i6 0, (i6 (w6 (0 + (a1.size : Int))))]), vs a1] [.cells 23 [i6 1, i6 1], .cells 3 [i6 0], .cells 25 [i6 0], .cells 3 [i6 0], .loop 0 none [13, 14] [vs a2, (.agg [i6 1, i6 1]), (.p (.val undef)), .ptr 0 0, .ptr 1 0, .ptr 2 0, .ptr 3 0, (.p (.val undef)), vs a2, i6 a3, vb false, vs a2, (.fn 28 [(.ro [.val (.string a4)])]), (.p (.val undef)), (.p (.val undef)), (.p (.val undef)), (.p (.val undef)), (.p (.val undef)), (.p (.val undef)), (.p (.val undef)), (.p (.val undef)), (.p (.val undef)), (.p (.val undef)), (.p (.val undef)), (.p (.val undef)), (.p (.val undef)), (.p (.val undef)), (.p (.val undef)), (.p (.val undef)), (.p (.val undef)), (.p (.val undef)), (.p (.val undef)), (.p (.val undef)), (.p (.val undef)), (.p (.val undef)), (.p (.val undef)), (.p (.val undef)), (.p (.val undef)), (.p (.val undef)), (.p (.val undef)), (.p (.val undef))] ir11_a0 ir11_b0, .cells 66 [.yl 4], .cells 3 [i6 0], .cells 9 [vs a4], .cells 9 [(vs (⟨([10] : List UInt8).toArray⟩ : ByteArray))], .cells 3 [i6 0], .loop 1 none [7] [.yl 4, (.ro [.val (.string a4)]), .ptr 5 0, .ptr 6 0, (.p (.val undef)), vs a4, (.fn 57 [.ptr 8 0, .ptr 7 0, .ptr 9 0]), (.p (.val undef)), (.p (.val undef)), (.p (.val undef)), (.p (.val undef)), (.p (.val undef)), (.p (.val undef)), (.p (.val undef)), (.p (.val undef)), (.p (.val undef)), (.p (.val undef)), (.p (.val undef)), (.p (.val undef)), (.p (.val undef)), (.p (.val undef)), (.p (.val undef)), (.p (.val undef))] ir28_a0 ir28_b0] = some ((vb false), Y28_0_d0 x1 a2 a3 a4 a1)) apn) (by kernel_rfl)
inductive E_L57_0_4 where
  | k0
  | k1 (x0 x1 : Int)
section
variable (a1 : ByteArray) (a2 : Int) (a3 : ByteArray)
abbrev L57_0_4_p (l : List AB) : List AB := .cells 23 [i6 1, i6 1] :: .cells 3 [i6 0] :: .cells 25 [i6 0] :: .cells 3 [i6 0] :: .loop 0 none [13, 14] [vs a1, (.agg [i6 1, i6 1]), (.p (.val undef)), .ptr 0 0, .ptr 1 0, .ptr 2 0, .ptr 3 0, (.p (.val undef)), vs a1, i6 a2, vb false, vs a1, (.fn 28 [(.ro [.val (.string a3)])]), (.p (.val undef)), (.p (.val undef)), (.p (.val undef)), (.p (.val undef)), (.p (.val undef)), (.p (.val undef)), (.p (.val undef)), (.p (.val undef)), (.p (.val undef)), (.p (.val undef)), (.p (.val undef)), (.p (.val undef)), (.p (.val undef)), (.p (.val undef)), (.p (.val undef)), (.p (.val undef)), (.p (.val undef)), (.p (.val undef)), (.p (.val undef)), (.p (.val undef)), (.p (.val undef)), (.p (.val undef)), (.p (.val undef)), (.p (.val undef)), (.p (.val undef)), (.p (.val undef)), (.p (.val undef)), (.p (.val undef))] ir11_a0 ir11_b0 :: .cells 66 [.yl 4] :: .cells 3 [i6 0] :: .cells 9 [vs a3] :: .cells 9 [(vs (⟨([10] : List UInt8).toArray⟩ : ByteArray))] :: .cells 3 [i6 0] :: .loop 0 none [7] [.yl 4, (.ro [.val (.string a3)]), .ptr 5 0, .ptr 6 0, (.p (.val undef)), vs a3, (.fn 57 [.ptr 8 0, .ptr 7 0, .ptr 9 0]), (.p (.val undef)), (.p (.val undef)), (.p (.val undef)), (.p (.val undef)), (.p (.val undef)), (.p (.val undef)), (.p (.val undef)), (.p (.val undef)), (.p (.val undef)), (.p (.val undef)), (.p (.val undef)), (.p (.val undef)), (.p (.val undef)), (.p (.val undef)), (.p (.val undef)), (.p (.val undef))] ir28_a0 ir28_b0 :: l
def L57_0_4 : Option (E_L57_0_4 ⊕ (Unit)) :=
  ((F30 a3).bind fun x1 => (bif (decide (x1 < 0)) then (some (.inl (.k0))) else (bif (sl_ok 0 (IntKind.wrap .i64 (x1 + 0)) a3.size) then ((Y28_0 (a3.extract (Int.toNat 0) (Int.toNat (IntKind.wrap .i64 (x1 + 0))))).bind fun x4 => (some (.inl (.k1 x4 (IntKind.wrap .i64 (0 + ((a3.extract (Int.toNat 0) (Int.toNat (IntKind.wrap .i64 (x1 + 0)))).size : Int))))))) else none)))
def L57_0_4_s : St := ⟨fr 52 ug [(0, .yl 10), (1, .ptr 8 0), (2, .ptr 7 0), (3, .ptr 9 0)], (L57_0_4_p a1 a2 a3 [])⟩
theorem L57_0_4_k : okT 11 (L57_0_4_s a1 a2 a3).h = true := (okT_of rfl (ac (ac (ac (ac (ac (ac (ac (ac (ac (ac (ac rfl))))))))))))
abbrev L57_0_4_e := evH prg 11 [0, 1, 2, 3] ir57_l0 (L57_0_4_s a1 a2 a3)
def L57_0_4_x (e : E_L57_0_4) (r : Option (Out × St)) : Prop := match e with | .k0 => ∃ g, r = some ((.brk 2), ⟨fr 52 g [(0, .yl 10), (1, .ptr 8 0), (2, .ptr 7 0)], (L57_0_4_p a1 a2 a3 [])⟩) | .k1 x0 x1 => ∃ g, r = some (.ret, ⟨fr 52 g [], [.cells 23 [i6 1, i6 1], .cells 3 [i6 0], .cells 25 [i6 x0], .cells 3 [i6 1], .loop 2 (some none) [13, 14] [vs a1, (.agg [i6 1, i6 1]), (.p (.val undef)), .ptr 0 0, .ptr 1 0, .ptr 2 0, .ptr 3 0, (.p (.val undef)), vs a1, i6 a2, vb false, vs a1, (.fn 28 [(.ro [.val (.string a3)])]), (.p (.val undef)), (.p (.val undef)), (.p (.val undef)), (.p (.val undef)), (.p (.val undef)), (.p (.val undef)), (.p (.val undef)), (.p (.val undef)), (.p (.val undef)), (.p (.val undef)), (.p (.val undef)), (.p (.val undef)), (.p (.val undef)), (.p (.val undef)), (.p (.val undef)), (.p (.val undef)), (.p (.val undef)), (.p (.val undef)), (.p (.val undef)), (.p (.val undef)), (.p (.val undef)), (.p (.val undef)), (.p (.val undef)), (.p (.val undef)), (.p (.val undef)), (.p (.val undef)), (.p (.val undef)), (.p (.val undef))] ir11_a0 ir11_b0, .cells 66 [.yl 4], .cells 3 [i6 0], .cells 9 [vs a3], .cells 9 [(vs (⟨([10] : List UInt8).toArray⟩ : ByteArray))], .cells 3 [i6 0], .loop 2 (some none) [7] [.yl 4, (.ro [.val (.string a3)]), .ptr 5 0, .ptr 6 0, (.p (.val undef)), vs a3, (.fn 57 [.ptr 8 0, .ptr 7 0, .ptr 9 0]), (.p (.val undef)), (.p (.val undef)), (.p (.val undef)), (.p (.val undef)), (.p (.val undef)), (.p (.val undef)), (.p (.val undef)), (.p (.val undef)), (.p (.val undef)), (.p (.val undef)), (.p (.val undef)), (.p (.val undef)), (.p (.val undef)), (.p (.val undef)), (.p (.val undef)), (.p (.val undef))] ir28_a0 ir28_b0, .cells 32 [i6 0, i6 x1]]⟩)
abbrev L57_0_4_d0 : List AB := (L57_0_4_p a1 a2 a3 [])
abbrev L57_0_4_d1 (x4 x1 : Int) : List AB := [.cells 23 [i6 1, i6 1], .cells 3 [i6 0], .cells 25 [i6 x4], .cells 3 [i6 1], .loop 2 (some none) [13, 14] [vs a1, (.agg [i6 1, i6 1]), (.p (.val undef)), .ptr 0 0, .ptr 1 0, .ptr 2 0, .ptr 3 0, (.p (.val undef)), vs a1, i6 a2, vb false, vs a1, (.fn 28 [(.ro [.val (.string a3)])]), (.p (.val undef)), (.p (.val undef)), (.p (.val undef)), (.p (.val undef)), (.p (.val undef)), (.p (.val undef)), (.p (.val undef)), (.p (.val undef)), (.p (.val undef)), (.p (.val undef)), (.p (.val undef)), (.p (.val undef)), (.p (.val undef)), (.p (.val undef)), (.p (.val undef)), (.p (.val undef)), (.p (.val undef)), (.p (.val undef)), (.p (.val undef)), (.p (.val undef)), (.p (.val undef)), (.p (.val undef)), (.p (.val undef)), (.p (.val undef)), (.p (.val undef)), (.p (.val undef)), (.p (.val undef)), (.p (.val undef))] ir11_a0 ir11_b0, .cells 66 [.yl 4], .cells 3 [i6 0], .cells 9 [vs a3], .cells 9 [(vs (⟨([10] : List UInt8).toArray⟩ : ByteArray))], .cells 3 [i6 0], .loop 2 (some none) [7] [.yl 4, (.ro [.val (.string a3)]), .ptr 5 0, .ptr 6 0, (.p (.val undef)), vs a3, (.fn 57 [.ptr 8 0, .ptr 7 0, .ptr 9 0]), (.p (.val undef)), (.p (.val undef)), (.p (.val undef)), (.p (.val undef)), (.p (.val undef)), (.p (.val undef)), (.p (.val undef)), (.p (.val undef)), (.p (.val undef)), (.p (.val undef)), (.p (.val undef)), (.p (.val undef)), (.p (.val undef)), (.p (.val undef)), (.p (.val undef)), (.p (.val undef))] ir28_a0 ir28_b0, .cells 32 [i6 0, (i6 (w6 (0 + ((a3.extract (Int.toNat 0) (Int.toNat (w6 (x1 + 0)))).size : Int))))]]
theorem L57_0_4_ok {r : E_L57_0_4 ⊕ (Unit)} (h : L57_0_4 a3 = some r) : OkR (fun e => L57_0_4_x a1 a2 a3 e (L57_0_4_e a1 a2 a3)) (fun s => L57_0_4_e a1 a2 a3 = L57_0_4_e a1 a2 a3) r := by
 unfold L57_0_4 at h
 apply bn h; intro x1 h1 h
 have q0 := (((F30_ok a3 h1).cp rfl _) : CP prg 30 [vs a3, (vs (⟨([10] : List UInt8).toArray⟩ : ByteArray))] (L57_0_4_d0 a1 a2 a3) = some (i6 x1))
 apply bi h <;> intro h2 h
 ·
  rw [← sj h]
  exact xb [(31, .v (i6 x1)), (33, .d true), (6000, .d true)] (apc q0 (av h2 apn))
 ·
  have k1 := ka [(31, .v (i6 x1)), (33, .d false)] (apc q0 (av h2 apn))
  apply bi h <;> intro h3 h
  ·
   apply bn h; intro x4 h4 h
   rw [← sj h]
   exact xr ([(38, .v (vs (a3.extract (Int.toNat 0) (Int.toNat (w6 (x1 + 0)))))), (41, .r (vb false) (L57_0_4_d1 a1 a2 a3 x4 x1)), (6000, .d true)] ++ kH k1) (k1.b (apc ((sl_str h3) : slS (vs a3) (some 0) (some (w6 (x1 + 0))) = some (vs (a3.extract (Int.toNat 0) (Int.toNat (w6 (x1 + 0)))))) (apc ((Y28_0_ok (a3.extract (Int.toNat 0) (Int.toNat (w6 (x1 + 0)))) a1 a2 a3 h4) : callY (ev prg) 10 [(vs (a3.extract (Int.toNat 0) (Int.toNat (w6 (x1 + 0)))))] (L57_0_4_d0 a1 a2 a3) = some ((vb false), L57_0_4_d1 a1 a2 a3 x4 x1)) apn)))
  ·
   cases h
theorem L57_0_4_run (s0 : Unit) (e : E_L57_0_4) (h : runL (fun s => L57_0_4 a3) s0 = some e) : L57_0_4_x a1 a2 a3 e (L57_0_4_e a1 a2 a3) := by
  have q := @loop_sound' (Unit) E_L57_0_4 (fun s => L57_0_4 a3) (fun s => L57_0_4_e a1 a2 a3) (L57_0_4_x a1 a2 a3) (fun s r h => L57_0_4_ok a1 a2 a3 h) s0 e h
  exact q
end
def Y11_0_2_v (a1 : Int) (a2 a3 : ByteArray) (a4 : Int) (x0 : Int) : AV := (vb false)
def Y11_0_2_h (a1 : Int) (a2 a3 : ByteArray) (a4 : Int) (x0 : Int) : List AB := [.cells 23 [i6 1, i6 1], .cells 3 [i6 0], .cells 25 [i6 x0], .cells 3 [i6 1], .loop 2 (some none) [13, 14] [vs a3, (.agg [i6 1, i6 1]), (.p (.val undef)), .ptr 0 0, .ptr 1 0, .ptr 2 0, .ptr 3 0, (.p (.val undef)), vs a3, i6 a4, vb false, vs a3, (.fn 28 [(.ro [.val (.string a2)])]), (.p (.val undef)), (.p (.val undef)), (.p (.val undef)), (.p (.val undef)), (.p (.val undef)), (.p (.val undef)), (.p (.val undef)), (.p (.val undef)), (.p (.val undef)), (.p (.val undef)), (.p (.val undef)), (.p (.val undef)), (.p (.val undef)), (.p (.val undef)), (.p (.val undef)), (.p (.val undef)), (.p (.val undef)), (.p (.val undef)), (.p (.val undef)), (.p (.val undef)), (.p (.val undef)), (.p (.val undef)), (.p (.val undef)), (.p (.val undef)), (.p (.val undef)), (.p (.val undef)), (.p (.val undef)), (.p (.val undef))] ir11_a0 ir11_b0, .cells 66 [.yl 4], .cells 3 [i6 0], .cells 9 [vs a2], .cells 9 [(vs (⟨([10] : List UInt8).toArray⟩ : ByteArray))], .cells 3 [i6 0], .loop 1 none [7] [.yl 4, (.ro [.val (.string a2)]), .ptr 5 0, .ptr 6 0, (.p (.val undef)), vs a2, (.fn 57 [.ptr 8 0, .ptr 7 0, .ptr 9 0]), (.p (.val undef)), (.p (.val undef)), (.p (.val undef)), (.p (.val undef)), (.p (.val undef)), (.p (.val undef)), (.p (.val undef)), (.p (.val undef)), (.p (.val undef)), (.p (.val undef)), (.p (.val undef)), (.p (.val undef)), (.p (.val undef)), (.p (.val undef)), (.p (.val undef)), (.p (.val undef))] ir28_a0 ir28_b0, .cells 32 [i6 0, i6 a1]]
def Y11_0_2 (a1 : Int) : Option Int :=
  (bif (decide (1 > (IntKind.wrap .i64 ((IntKind.wrap .i64 (a1 - 0)) + 1)))) then (some 4) else (some 0))
theorem Y11_0_2_ok (a1 : Int) (a2 a3 : ByteArray) (a4 : Int) {r : Int} (h : Y11_0_2 a1 = some r) : callY (ev prg) 4 [(.agg [i6 0, i6 a1]), vs a2] [.cells 23 [i6 1, i6 1], .cells 3 [i6 0], .cells 25 [i6 0], .cells 3 [i6 0], .loop 0 none [13, 14] [vs a3, (.agg [i6 1, i6 1]), (.p (.val undef)), .ptr 0 0, .ptr 1 0, .ptr 2 0, .ptr 3 0, (.p (.val undef)), vs a3, i6 a4, vb false, vs a3, (.fn 28 [(.ro [.val (.string a2)])]), (.p (.val undef)), (.p (.val undef)), (.p (.val undef)), (.p (.val undef)), (.p (.val undef)), (.p (.val undef)), (.p (.val undef)), (.p (.val undef)), (.p (.val undef)), (.p (.val undef)), (.p (.val undef)), (.p (.val undef)), (.p (.val undef)), (.p (.val undef)), (.p (.val undef)), (.p (.val undef)), (.p (.val undef)), (.p (.val undef)), (.p (.val undef)), (.p (.val undef)), (.p (.val undef)), (.p (.val undef)), (.p (.val undef)), (.p (.val undef)), (.p (.val undef)), (.p (.val undef)), (.p (.val undef)), (.p (.val undef))] ir11_a0 ir11_b0, .cells 66 [.yl 4], .cells 3 [i6 0], .cells 9 [vs a2], .cells 9 [(vs (⟨([10] : List UInt8).toArray⟩ : ByteArray))], .cells 3 [i6 0], .loop 1 none [7] [.yl 4, (.ro [.val (.string a2)]), .ptr 5 0, .ptr 6 0, (.p (.val undef)), vs a2, (.fn 57 [.ptr 8 0, .ptr 7 0, .ptr 9 0]), (.p (.val undef)), (.p (.val undef)), (.p (.val undef)), (.p (.val undef)), (.p (.val undef)), (.p (.val undef)), (.p (.val undef)), (.p (.val undef)), (.p (.val undef)), (.p (.val undef)), (.p (.val undef)), (.p (.val undef)), (.p (.val undef)), (.p (.val undef)), (.p (.val undef)), (.p (.val undef))] ir28_a0 ir28_b0] = some (Y11_0_2_v a1 a2 a3 a4 r, Y11_0_2_h a1 a2 a3 a4 r) := by
 unfold Y11_0_2 at h
 apply bi h <;> intro h1 h
 ·
  rw [← sj h]
  exact fyc [(33, .d true)] (av h1 apn) (by kernel_rfl)
 ·
  rw [← sj h]
  exact fyc [(33, .d false)] (av h1 apn) (by kernel_rfl)
def Y28_0_2_v (a1 a2 : ByteArray) (a3 : Int) (x0 : Int) : AV := (vb false)
def Y28_0_2_h (a1 a2 : ByteArray) (a3 : Int) (x0 : Int) : List AB := [.cells 23 [i6 1, i6 1], .cells 3 [i6 0], .cells 25 [i6 x0], .cells 3 [i6 1], .loop 2 (some none) [13, 14] [vs a2, (.agg [i6 1, i6 1]), (.p (.val undef)), .ptr 0 0, .ptr 1 0, .ptr 2 0, .ptr 3 0, (.p (.val undef)), vs a2, i6 a3, vb false, vs a2, (.fn 28 [(.ro [.val (.string a1)])]), (.p (.val undef)), (.p (.val undef)), (.p (.val undef)), (.p (.val undef)), (.p (.val undef)), (.p (.val undef)), (.p (.val undef)), (.p (.val undef)), (.p (.val undef)), (.p (.val undef)), (.p (.val undef)), (.p (.val undef)), (.p (.val undef)), (.p (.val undef)), (.p (.val undef)), (.p (.val undef)), (.p (.val undef)), (.p (.val undef)), (.p (.val undef)), (.p (.val undef)), (.p (.val undef)), (.p (.val undef)), (.p (.val undef)), (.p (.val undef)), (.p (.val undef)), (.p (.val undef)), (.p (.val undef)), (.p (.val undef))] ir11_a0 ir11_b0, .cells 66 [.yl 4], .cells 3 [i6 0], .cells 9 [vs a1], .cells 9 [(vs (⟨([10] : List UInt8).toArray⟩ : ByteArray))], .cells 3 [i6 0], .loop 2 (some none) [7] [.yl 4, (.ro [.val (.string a1)]), .ptr 5 0, .ptr 6 0, (.p (.val undef)), vs a1, (.fn 57 [.ptr 8 0, .ptr 7 0, .ptr 9 0]), (.p (.val undef)), (.p (.val undef)), (.p (.val undef)), (.p (.val undef)), (.p (.val undef)), (.p (.val undef)), (.p (.val undef)), (.p (.val undef)), (.p (.val undef)), (.p (.val undef)), (.p (.val undef)), (.p (.val undef)), (.p (.val undef)), (.p (.val undef)), (.p (.val undef)), (.p (.val undef))] ir28_a0 ir28_b0, .cells 32 [i6 0, (i6 (w6 (0 + (a1.size : Int))))]]
def Y28_0_2 (a1 : ByteArray) : Option Int :=
  ((Y11_0_2 (IntKind.wrap .i64 (0 + (a1.size : Int)))).bind fun x1 => (some x1))
abbrev Y28_0_2_d0 (x1 : Int) (a2 : ByteArray) (a3 : Int) (a1 : ByteArray) : List AB := [.cells 23 [i6 1, i6 1], .cells 3 [i6 0], .cells 25 [i6 x1], .cells 3 [i6 1], .loop 2 (some none) [13, 14] [vs a2, (.agg [i6 1, i6 1]), (.p (.val undef)), .ptr 0 0, .ptr 1 0, .ptr 2 0, .ptr 3 0, (.p (.val undef)), vs a2, i6 a3, vb false, vs a2, (.fn 28 [(.ro [.val (.string a1)])]), (.p (.val undef)), (.p (.val undef)), (.p (.val undef)), (.p (.val undef)), (.p (.val undef)), (.p (.val undef)), (.p (.val undef)), (.p (.val undef)), (.p (.val undef)), (.p (.val undef)), (.p (.val undef)), (.p (.val undef)), (.p (.val undef)), (.p (.val undef)), (.p (.val undef)), (.p (.val undef)), (.p (.val undef)), (.p (.val undef)), (.p (.val undef)), (.p (.val undef)), (.p (.val undef)), (.p (.val undef)), (.p (.val undef)), (.p (.val undef)), (.p (.val undef)), (.p (.val undef)), (.p (.val undef)), (.p (.val undef))] ir11_a0 ir11_b0, .cells 66 [.yl 4], .cells 3 [i6 0], .cells 9 [vs a1], .cells 9 [(vs (⟨([10] : List UInt8).toArray⟩ : ByteArray))], .cells 3 [i6 0], .loop 1 none [7] [.yl 4, (.ro [.val (.string a1)]), .ptr 5 0, .ptr 6 0, (.p (.val undef)), vs a1, (.fn 57 [.ptr 8 0, .ptr 7 0, .ptr 9 0]), (.p (.val undef)), (.p (.val undef)), (.p (.val undef)), (.p (.val undef)), (.p (.val undef)), (.p (.val undef)), (.p (.val undef)), (.p (.val undef)), (.p (.val undef)), (.p (.val undef)), (.p (.val undef)), (.p (.val undef)), (.p (.val undef)), (.p (.val undef)), (.p (.val undef)), (.p (.val undef))] ir28_a0 ir28_b0, .cells 32 [i6 0, (i6 (w6 (0 + (a1.size : Int))))]]
theorem Y28_0_2_ok (a1 a2 : ByteArray) (a3 : Int) {r : Int} (h : Y28_0_2 a1 = some r) : callY (ev prg) 10 [vs a1] [.cells 23 [i6 1, i6 1], .cells 3 [i6 0], .cells 25 [i6 0], .cells 3 [i6 0], .loop 0 none [13, 14] [vs a2, (.agg [i6 1, i6 1]), (.p (.val undef)), .ptr 0 0, .ptr 1 0, .ptr 2 0, .ptr 3 0, (.p (.val undef)), vs a2, i6 a3, vb false, vs a2, (.fn 28 [(.ro [.val (.string a1)])]), (.p (.val undef)), (.p (.val undef)), (.p (.val undef)), (.p (.val undef)), (.p (.val undef)), (.p (.val undef)), (.p (.val undef)), (.p (.val undef)), (.p (.val undef)), (.p (.val undef)), (.p (.val undef)), (.p (.val undef)), (.p (.val undef)), (.p (.val undef)), (.p (.val undef)), (.p (.val undef)), (.p (.val undef)), (.p (.val undef)), (.p (.val undef)), (.p (.val undef)), (.p (.val undef)), (.p (.val undef)), (.p (.val undef)), (.p (.val undef)), (.p (.val undef)), (.p (.val undef)), (.p (.val undef)), (.p (.val undef))] ir11_a0 ir11_b0, .cells 66 [.yl 4], .cells 3 [i6 0], .cells 9 [vs a1], .cells 9 [(vs (⟨([10] : List UInt8).toArray⟩ : ByteArray))], .cells 3 [i6 0], .loop 0 none [7] [.yl 4, (.ro [.val (.string a1)]), .ptr 5 0, .ptr 6 0, (.p (.val undef)), vs a1, (.fn 57 [.ptr 8 0, .ptr 7 0, .ptr 9 0]), (.p (.val undef)), (.p (.val undef)), (.p (.val undef)), (.p (.val undef)), (.p (.val undef)), (.p (.val undef)), (.p (.val undef)), (.p (.val undef)), (.p (.val undef)), (.p (.val undef)), (.p (.val undef)), (.p (.val undef)), (.p (.val undef)), (.p (.val undef)), (.p (.val undef)), (.p (.val undef))] ir28_a0 ir28_b0] = some (Y28_0_2_v a1 a2 a3 r, Y28_0_2_h a1 a2 a3 r) := by
 unfold Y28_0_2 at h
 apply bn h; intro x1 h1 h
 rw [← sj h]
 exact fyc [(16, .r (vb false) (Y28_0_2_d0 x1 a2 a3 a1))] (apc ((Y11_0_2_ok (w6 (0 + (a1.size : Int))) a1 a2 a3 h1) : callY (ev prg) 4 [(.agg [i6 0, (i6 (w6 (0 + (a1.size : Int))))]), vs a1] [.cells 23 [i6 1, i6 1], .cells 3 [i6 0], .cells 25 [i6 0], .cells 3 [i6 0], .loop 0 none [13, 14] [vs a2, (.agg [i6 1, i6 1]), (.p (.val undef)), .ptr 0 0, .ptr 1 0, .ptr 2 0, .ptr 3 0, (.p (.val undef)), vs a2, i6 a3, vb false, vs a2, (.fn 28 [(.ro [.val (.string a1)])]), (.p (.val undef)), (.p (.val undef)), (.p (.val undef)), (.p (.val undef)), (.p (.val undef)), (.p (.val undef)), (.p (.val undef)), (.p (.val undef)), (.p (.val undef)), (.p (.val undef)), (.p (.val undef)), (.p (.val undef)), (.p (.val undef)), (.p (.val undef)), (.p (.val undef)), (.p (.val undef)), (.p (.val undef)), (.p (.val undef)), (.p (.val undef)), (.p (.val undef)), (.p (.val undef)), (.p (.val undef)), (.p (.val undef)), (.p (.val undef)), (.p (.val undef)), (.p (.val undef)), (.p (.val undef)), (.p (.val undef))] ir11_a0 ir11_b0, .cells 66 [.yl 4], .cells 3 [i6 0], .cells 9 [vs a1], .cells 9 [(vs (⟨([10] : List UInt8).toArray⟩ : ByteArray))], .cells 3 [i6 0], .loop 1 none [7] [.yl 4, (.ro [.val (.string a1)]), .ptr 5 0, .ptr 6 0, (.p (.val undef)), vs a1, (.fn 57 [.ptr 8 0, .ptr 7 0, .ptr 9 0]), (.p (.val undef)), (.p (.val undef)), (.p (.val undef)), (.p (.val undef)), (.p (.val undef)), (.p (.val undef)), (.p (.val undef)), (.p (.val undef)), (.p (.val undef)), (.p (.val undef)), (.p (.val undef)), (.p (.val undef)), (.p (.val undef)), (.p (.val undef)), (.p (.val undef)), (.p (.val undef))] ir28_a0 ir28_b0] = some ((vb false), Y28_0_2_d0 x1 a2 a3 a1)) apn) (by kernel_rfl)
inductive R_F57_4 where
  | k0 (x0 x1 : Int)
def F57_4_v (a1 : ByteArray) (a2 : Int) (a3 : ByteArray) (r : R_F57_4) : AV := match r with | .k0 x0 x1 => (.tup [])
def F57_4_h (a1 : ByteArray) (a2 : Int) (a3 : ByteArray) (r : R_F57_4) : List AB := match r with | .k0 x0 x1 => [.cells 23 [i6 1, i6 1], .cells 3 [i6 0], .cells 25 [i6 x0], .cells 3 [i6 1], .loop 2 (some none) [13, 14] [vs a1, (.agg [i6 1, i6 1]), (.p (.val undef)), .ptr 0 0, .ptr 1 0, .ptr 2 0, .ptr 3 0, (.p (.val undef)), vs a1, i6 a2, vb false, vs a1, (.fn 28 [(.ro [.val (.string a3)])]), (.p (.val undef)), (.p (.val undef)), (.p (.val undef)), (.p (.val undef)), (.p (.val undef)), (.p (.val undef)), (.p (.val undef)), (.p (.val undef)), (.p (.val undef)), (.p (.val undef)), (.p (.val undef)), (.p (.val undef)), (.p (.val undef)), (.p (.val undef)), (.p (.val undef)), (.p (.val undef)), (.p (.val undef)), (.p (.val undef)), (.p (.val undef)), (.p (.val undef)), (.p (.val undef)), (.p (.val undef)), (.p (.val undef)), (.p (.val undef)), (.p (.val undef)), (.p (.val undef)), (.p (.val undef)), (.p (.val undef))] ir11_a0 ir11_b0, .cells 66 [.yl 4], .cells 3 [i6 0], .cells 9 [vs a3], .cells 9 [(vs (⟨([10] : List UInt8).toArray⟩ : ByteArray))], .cells 3 [i6 0], .loop 2 (some none) [7] [.yl 4, (.ro [.val (.string a3)]), .ptr 5 0, .ptr 6 0, (.p (.val undef)), vs a3, (.fn 57 [.ptr 8 0, .ptr 7 0, .ptr 9 0]), (.p (.val undef)), (.p (.val undef)), (.p (.val undef)), (.p (.val undef)), (.p (.val undef)), (.p (.val undef)), (.p (.val undef)), (.p (.val undef)), (.p (.val undef)), (.p (.val undef)), (.p (.val undef)), (.p (.val undef)), (.p (.val undef)), (.p (.val undef)), (.p (.val undef)), (.p (.val undef))] ir28_a0 ir28_b0, .cells 32 [i6 0, i6 x1]]
def F57_4 (a3 : ByteArray) : Option R_F57_4 :=
  ((runL (fun s => L57_0_4 a3) ()).bind fun r1 => match r1 with | .k0 => ((Y28_0_2 a3).bind fun x2 => (some (.k0 x2 (IntKind.wrap .i64 (0 + (a3.size : Int)))))) | .k1 x1_0 x1_1 => (some (.k0 x1_0 x1_1)))
abbrev F57_4_d0 (g1 : Nat → AV) (a1 : ByteArray) (a2 : Int) (a3 : ByteArray) : St := ⟨fr 52 g1 [(0, .yl 10), (1, .ptr 8 0), (2, .ptr 7 0)], [.cells 23 [i6 1, i6 1], .cells 3 [i6 0], .cells 25 [i6 0], .cells 3 [i6 0], .loop 0 none [13, 14] [vs a1, (.agg [i6 1, i6 1]), (.p (.val undef)), .ptr 0 0, .ptr 1 0, .ptr 2 0, .ptr 3 0, (.p (.val undef)), vs a1, i6 a2, vb false, vs a1, (.fn 28 [(.ro [.val (.string a3)])]), (.p (.val undef)), (.p (.val undef)), (.p (.val undef)), (.p (.val undef)), (.p (.val undef)), (.p (.val undef)), (.p (.val undef)), (.p (.val undef)), (.p (.val undef)), (.p (.val undef)), (.p (.val undef)), (.p (.val undef)), (.p (.val undef)), (.p (.val undef)), (.p (.val undef)), (.p (.val undef)), (.p (.val undef)), (.p (.val undef)), (.p (.val undef)), (.p (.val undef)), (.p (.val undef)), (.p (.val undef)), (.p (.val undef)), (.p (.val undef)), (.p (.val undef)), (.p (.val undef)), (.p (.val undef)), (.p (.val undef))] ir11_a0 ir11_b0, .cells 66 [.yl 4], .cells 3 [i6 0], .cells 9 [vs a3], .cells 9 [(vs (⟨([10] : List UInt8).toArray⟩ : ByteArray))], .cells 3 [i6 0], .loop 0 none [7] [.yl 4, (.ro [.val (.string a3)]), .ptr 5 0, .ptr 6 0, (.p (.val undef)), vs a3, (.fn 57 [.ptr 8 0, .ptr 7 0, .ptr 9 0]), (.p (.val undef)), (.p (.val undef)), (.p (.val undef)), (.p (.val undef)), (.p (.val undef)), (.p (.val undef)), (.p (.val undef)), (.p (.val undef)), (.p (.val undef)), (.p (.val undef)), (.p (.val undef)), (.p (.val undef)), (.p (.val undef)), (.p (.val undef)), (.p (.val undef)), (.p (.val undef))] ir28_a0 ir28_b0]⟩
abbrev F57_4_d1 (x2 : Int) (a1 : ByteArray) (a2 : Int) (a3 : ByteArray) : List AB := [.cells 23 [i6 1, i6 1], .cells 3 [i6 0], .cells 25 [i6 x2], .cells 3 [i6 1], .loop 2 (some none) [13, 14] [vs a1, (.agg [i6 1, i6 1]), (.p (.val undef)), .ptr 0 0, .ptr 1 0, .ptr 2 0, .ptr 3 0, (.p (.val undef)), vs a1, i6 a2, vb false, vs a1, (.fn 28 [(.ro [.val (.string a3)])]), (.p (.val undef)), (.p (.val undef)), (.p (.val undef)), (.p (.val undef)), (.p (.val undef)), (.p (.val undef)), (.p (.val undef)), (.p (.val undef)), (.p (.val undef)), (.p (.val undef)), (.p (.val undef)), (.p (.val undef)), (.p (.val undef)), (.p (.val undef)), (.p (.val undef)), (.p (.val undef)), (.p (.val undef)), (.p (.val undef)), (.p (.val undef)), (.p (.val undef)), (.p (.val undef)), (.p (.val undef)), (.p (.val undef)), (.p (.val undef)), (.p (.val undef)), (.p (.val undef)), (.p (.val undef)), (.p (.val undef))] ir11_a0 ir11_b0, .cells 66 [.yl 4], .cells 3 [i6 0], .cells 9 [vs a3], .cells 9 [(vs (⟨([10] : List UInt8).toArray⟩ : ByteArray))], .cells 3 [i6 0], .loop 2 (some none) [7] [.yl 4, (.ro [.val (.string a3)]), .ptr 5 0, .ptr 6 0, (.p (.val undef)), vs a3, (.fn 57 [.ptr 8 0, .ptr 7 0, .ptr 9 0]), (.p (.val undef)), (.p (.val undef)), (.p (.val undef)), (.p (.val undef)), (.p (.val undef)), (.p (.val undef)), (.p (.val undef)), (.p (.val undef)), (.p (.val undef)), (.p (.val undef)), (.p (.val undef)), (.p (.val undef)), (.p (.val undef)), (.p (.val undef)), (.p (.val undef)), (.p (.val undef))] ir28_a0 ir28_b0, .cells 32 [i6 0, (i6 (w6 (0 + (a3.size : Int))))]]
abbrev F57_4_d2 (g1 : Nat → AV) (x1_0 : Int) (a1 : ByteArray) (a2 : Int) (a3 : ByteArray) (x1_1 : Int) : St := ⟨fr 52 g1 [], [.cells 23 [i6 1, i6 1], .cells 3 [i6 0], .cells 25 [i6 x1_0], .cells 3 [i6 1], .loop 2 (some none) [13, 14] [vs a1, (.agg [i6 1, i6 1]), (.p (.val undef)), .ptr 0 0, .ptr 1 0, .ptr 2 0, .ptr 3 0, (.p (.val undef)), vs a1, i6 a2, vb false, vs a1, (.fn 28 [(.ro [.val (.string a3)])]), (.p (.val undef)), (.p (.val undef)), (.p (.val undef)), (.p (.val undef)), (.p (.val undef)), (.p (.val undef)), (.p (.val undef)), (.p (.val undef)), (.p (.val undef)), (.p (.val undef)), (.p (.val undef)), (.p (.val undef)), (.p (.val undef)), (.p (.val undef)), (.p (.val undef)), (.p (.val undef)), (.p (.val undef)), (.p (.val undef)), (.p (.val undef)), (.p (.val undef)), (.p (.val undef)), (.p (.val undef)), (.p (.val undef)), (.p (.val undef)), (.p (.val undef)), (.p (.val undef)), (.p (.val undef)), (.p (.val undef))] ir11_a0 ir11_b0, .cells 66 [.yl 4], .cells 3 [i6 0], .cells 9 [vs a3], .cells 9 [(vs (⟨([10] : List UInt8).toArray⟩ : ByteArray))], .cells 3 [i6 0], .loop 2 (some none) [7] [.yl 4, (.ro [.val (.string a3)]), .ptr 5 0, .ptr 6 0, (.p (.val undef)), vs a3, (.fn 57 [.ptr 8 0, .ptr 7 0, .ptr 9 0]), (.p (.val undef)), (.p (.val undef)), (.p (.val undef)), (.p (.val undef)), (.p (.val undef)), (.p (.val undef)), (.p (.val undef)), (.p (.val undef)), (.p (.val undef)), (.p (.val undef)), (.p (.val undef)), (.p (.val undef)), (.p (.val undef)), (.p (.val undef)), (.p (.val undef)), (.p (.val undef))] ir28_a0 ir28_b0, .cells 32 [i6 0, i6 x1_1]]⟩
theorem F57_4_ok (a1 : ByteArray) (a2 : Int) (a3 : ByteArray) {r : R_F57_4} (h : F57_4 a3 = some r) : CS prg 57 [.yl 10, .ptr 8 0, .ptr 7 0, .ptr 9 0] [.cells 23 [i6 1, i6 1], .cells 3 [i6 0], .cells 25 [i6 0], .cells 3 [i6 0], .loop 0 none [13, 14] [vs a1, (.agg [i6 1, i6 1]), (.p (.val undef)), .ptr 0 0, .ptr 1 0, .ptr 2 0, .ptr 3 0, (.p (.val undef)), vs a1, i6 a2, vb false, vs a1, (.fn 28 [(.ro [.val (.string a3)])]), (.p (.val undef)), (.p (.val undef)), (.p (.val undef)), (.p (.val undef)), (.p (.val undef)), (.p (.val undef)), (.p (.val undef)), (.p (.val undef)), (.p (.val undef)), (.p (.val undef)), (.p (.val undef)), (.p (.val undef)), (.p (.val undef)), (.p (.val undef)), (.p (.val undef)), (.p (.val undef)), (.p (.val undef)), (.p (.val undef)), (.p (.val undef)), (.p (.val undef)), (.p (.val undef)), (.p (.val undef)), (.p (.val undef)), (.p (.val undef)), (.p (.val undef)), (.p (.val undef)), (.p (.val undef)), (.p (.val undef))] ir11_a0 ir11_b0, .cells 66 [.yl 4], .cells 3 [i6 0], .cells 9 [vs a3], .cells 9 [(vs (⟨([10] : List UInt8).toArray⟩ : ByteArray))], .cells 3 [i6 0], .loop 0 none [7] [.yl 4, (.ro [.val (.string a3)]), .ptr 5 0, .ptr 6 0, (.p (.val undef)), vs a3, (.fn 57 [.ptr 8 0, .ptr 7 0, .ptr 9 0]), (.p (.val undef)), (.p (.val undef)), (.p (.val undef)), (.p (.val undef)), (.p (.val undef)), (.p (.val undef)), (.p (.val undef)), (.p (.val undef)), (.p (.val undef)), (.p (.val undef)), (.p (.val undef)), (.p (.val undef)), (.p (.val undef)), (.p (.val undef)), (.p (.val undef)), (.p (.val undef))] ir28_a0 ir28_b0] = some (F57_4_v a1 a2 a3 r, F57_4_h a1 a2 a3 r) := by
 unfold F57_4 at h
 apply bn h; intro r1 h1 h
 cases r1 with
 | k0 =>
  obtain ⟨g1, e1⟩ := L57_0_4_run a1 a2 a3 () _ h1
  apply bn h; intro x2 h2 h
  rw [← sj h]
  exact fc [(2002, .l (.brk 2) (F57_4_d0 g1 a1 a2 a3)), (51, .r (vb false) (F57_4_d1 x2 a1 a2 a3)), (6000, .d true)] (apc (L57_0_4_k a1 a2 a3) (apc (e1 : L57_0_4_e a1 a2 a3 = some ((.brk 2), F57_4_d0 g1 a1 a2 a3)) (apc ((Y28_0_2_ok a3 a1 a2 h2) : callY (ev prg) 10 [vs a3] [.cells 23 [i6 1, i6 1], .cells 3 [i6 0], .cells 25 [i6 0], .cells 3 [i6 0], .loop 0 none [13, 14] [vs a1, (.agg [i6 1, i6 1]), (.p (.val undef)), .ptr 0 0, .ptr 1 0, .ptr 2 0, .ptr 3 0, (.p (.val undef)), vs a1, i6 a2, vb false, vs a1, (.fn 28 [(.ro [.val (.string a3)])]), (.p (.val undef)), (.p (.val undef)), (.p (.val undef)), (.p (.val undef)), (.p (.val undef)), (.p (.val undef)), (.p (.val undef)), (.p (.val undef)), (.p (.val undef)), (.p (.val undef)), (.p (.val undef)), (.p (.val undef)), (.p (.val undef)), (.p (.val undef)), (.p (.val undef)), (.p (.val undef)), (.p (.val undef)), (.p (.val undef)), (.p (.val undef)), (.p (.val undef)), (.p (.val undef)), (.p (.val undef)), (.p (.val undef)), (.p (.val undef)), (.p (.val undef)), (.p (.val undef)), (.p (.val undef)), (.p (.val undef))] ir11_a0 ir11_b0, .cells 66 [.yl 4], .cells 3 [i6 0], .cells 9 [vs a3], .cells 9 [(vs (⟨([10] : List UInt8).toArray⟩ : ByteArray))], .cells 3 [i6 0], .loop 0 none [7] [.yl 4, (.ro [.val (.string a3)]), .ptr 5 0, .ptr 6 0, (.p (.val undef)), vs a3, (.fn 57 [.ptr 8 0, .ptr 7 0, .ptr 9 0]), (.p (.val undef)), (.p (.val undef)), (.p (.val undef)), (.p (.val undef)), (.p (.val undef)), (.p (.val undef)), (.p (.val undef)), (.p (.val undef)), (.p (.val undef)), (.p (.val undef)), (.p (.val undef)), (.p (.val undef)), (.p (.val undef)), (.p (.val undef)), (.p (.val undef)), (.p (.val undef))] ir28_a0 ir28_b0] = some ((vb false), F57_4_d1 x2 a1 a2 a3)) apn)))
 | k1 x1_0 x1_1 =>
  obtain ⟨g1, e1⟩ := L57_0_4_run a1 a2 a3 () _ h1
  rw [← sj h]
  exact fc [(2002, .l .ret (F57_4_d2 g1 x1_0 a1 a2 a3 x1_1)), (6000, .d true)] (apc (L57_0_4_k a1 a2 a3) (apc (e1 : L57_0_4_e a1 a2 a3 = some (.ret, F57_4_d2 g1 x1_0 a1 a2 a3 x1_1)) apn))
inductive R_F28_4 where
  | k0 (x0 x1 : Int)
def F28_4_v (a1 a2 : ByteArray) (a3 : Int) (r : R_F28_4) : AV := match r with | .k0 x0 x1 => (.tup [])
def F28_4_h (a1 a2 : ByteArray) (a3 : Int) (r : R_F28_4) : List AB := match r with | .k0 x0 x1 => [.cells 23 [i6 1, i6 1], .cells 3 [i6 0], .cells 25 [i6 x0], .cells 3 [i6 1], .loop 2 (some none) [13, 14] [vs a2, (.agg [i6 1, i6 1]), (.p (.val undef)), .ptr 0 0, .ptr 1 0, .ptr 2 0, .ptr 3 0, (.p (.val undef)), vs a2, i6 a3, vb false, vs a2, (.fn 28 [(.ro [.val (.string a1)])]), (.p (.val undef)), (.p (.val undef)), (.p (.val undef)), (.p (.val undef)), (.p (.val undef)), (.p (.val undef)), (.p (.val undef)), (.p (.val undef)), (.p (.val undef)), (.p (.val undef)), (.p (.val undef)), (.p (.val undef)), (.p (.val undef)), (.p (.val undef)), (.p (.val undef)), (.p (.val undef)), (.p (.val undef)), (.p (.val undef)), (.p (.val undef)), (.p (.val undef)), (.p (.val undef)), (.p (.val undef)), (.p (.val undef)), (.p (.val undef)), (.p (.val undef)), (.p (.val undef)), (.p (.val undef)), (.p (.val undef))] ir11_a0 ir11_b0, .cells 66 [.yl 4], .cells 3 [i6 0], .cells 9 [vs a1], .cells 9 [(vs (⟨([10] : List UInt8).toArray⟩ : ByteArray))], .cells 3 [i6 0], .dead, .cells 32 [i6 0, i6 x1]]
def F28_4 (a1 : ByteArray) : Option R_F28_4 :=
  ((F29_4).bind fun r1 => match r1 with | .k0 => ((F57_4 a1).bind fun r2 => match r2 with | .k0 x2_0 x2_1 => (some (.k0 x2_0 x2_1))))
abbrev F28_4_d0 (a2 : ByteArray) (a3 : Int) (a1 : ByteArray) : List AB := [.cells 23 [i6 1, i6 1], .cells 3 [i6 0], .cells 25 [i6 0], .cells 3 [i6 0], .loop 0 none [13, 14] [vs a2, (.agg [i6 1, i6 1]), (.p (.val undef)), .ptr 0 0, .ptr 1 0, .ptr 2 0, .ptr 3 0, (.p (.val undef)), vs a2, i6 a3, vb false, vs a2, (.fn 28 [(.ro [.val (.string a1)])]), (.p (.val undef)), (.p (.val undef)), (.p (.val undef)), (.p (.val undef)), (.p (.val undef)), (.p (.val undef)), (.p (.val undef)), (.p (.val undef)), (.p (.val undef)), (.p (.val undef)), (.p (.val undef)), (.p (.val undef)), (.p (.val undef)), (.p (.val undef)), (.p (.val undef)), (.p (.val undef)), (.p (.val undef)), (.p (.val undef)), (.p (.val undef)), (.p (.val undef)), (.p (.val undef)), (.p (.val undef)), (.p (.val undef)), (.p (.val undef)), (.p (.val undef)), (.p (.val undef)), (.p (.val undef)), (.p (.val undef))] ir11_a0 ir11_b0, .cells 66 [.yl 4], .cells 3 [i6 0], .cells 9 [vs a1], .cells 9 [(vs (⟨([10] : List UInt8).toArray⟩ : ByteArray))], .cells 3 [i6 0]]
abbrev F28_4_d1 (x2_0 : Int) (a2 : ByteArray) (a3 : Int) (a1 : ByteArray) (x2_1 : Int) : List AB := [.cells 23 [i6 1, i6 1], .cells 3 [i6 0], .cells 25 [i6 x2_0], .cells 3 [i6 1], .loop 2 (some none) [13, 14] [vs a2, (.agg [i6 1, i6 1]), (.p (.val undef)), .ptr 0 0, .ptr 1 0, .ptr 2 0, .ptr 3 0, (.p (.val undef)), vs a2, i6 a3, vb false, vs a2, (.fn 28 [(.ro [.val (.string a1)])]), (.p (.val undef)), (.p (.val undef)), (.p (.val undef)), (.p (.val undef)), (.p (.val undef)), (.p (.val undef)), (.p (.val undef)), (.p (.val undef)), (.p (.val undef)), (.p (.val undef)), (.p (.val undef)), (.p (.val undef)), (.p (.val undef)), (.p (.val undef)), (.p (.val undef)), (.p (.val undef)), (.p (.val undef)), (.p (.val undef)), (.p (.val undef)), (.p (.val undef)), (.p (.val undef)), (.p (.val undef)), (.p (.val undef)), (.p (.val undef)), (.p (.val undef)), (.p (.val undef)), (.p (.val undef)), (.p (.val undef))] ir11_a0 ir11_b0, .cells 66 [.yl 4], .cells 3 [i6 0], .cells 9 [vs a1], .cells 9 [(vs (⟨([10] : List UInt8).toArray⟩ : ByteArray))], .cells 3 [i6 0], .dead, .cells 32 [i6 0, i6 x2_1]]
theorem F28_4_ok (a1 a2 : ByteArray) (a3 : Int) {r : R_F28_4} (h : F28_4 a1 = some r) : CS prg 28 [.yl 4, (.ro [.val (.string a1)])] [.cells 23 [i6 1, i6 1], .cells 3 [i6 0], .cells 25 [i6 0], .cells 3 [i6 0], .loop 0 none [13, 14] [vs a2, (.agg [i6 1, i6 1]), (.p (.val undef)), .ptr 0 0, .ptr 1 0, .ptr 2 0, .ptr 3 0, (.p (.val undef)), vs a2, i6 a3, vb false, vs a2, (.fn 28 [(.ro [.val (.string a1)])]), (.p (.val undef)), (.p (.val undef)), (.p (.val undef)), (.p (.val undef)), (.p (.val undef)), (.p (.val undef)), (.p (.val undef)), (.p (.val undef)), (.p (.val undef)), (.p (.val undef)), (.p (.val undef)), (.p (.val undef)), (.p (.val undef)), (.p (.val undef)), (.p (.val undef)), (.p (.val undef)), (.p (.val undef)), (.p (.val undef)), (.p (.val undef)), (.p (.val undef)), (.p (.val undef)), (.p (.val undef)), (.p (.val undef)), (.p (.val undef)), (.p (.val undef)), (.p (.val undef)), (.p (.val undef)), (.p (.val undef))] ir11_a0 ir11_b0] = some (F28_4_v a1 a2 a3 r, F28_4_h a1 a2 a3 r) := by
 unfold F28_4 at h
 apply bn h; intro r1 h1 h
 cases r1 with
 | k0 =>
  apply bn h; intro r2 h2 h
  cases r2 with
  | k0 x2_0 x2_1 =>
   rw [← sj h]
   exact fc [(6, .r (.fn 57 [.ptr 8 0, .ptr 7 0, .ptr 9 0]) (F28_4_d0 a2 a3 a1)), (2000, .l .ret ⟨[.yl 4, (.ro [.val (.string a1)]), .ptr 5 0, .ptr 6 0, (.p (.val undef)), vs a1, (.fn 57 [.ptr 8 0, .ptr 7 0, .ptr 9 0]), (.p (.val undef)), (.p (.val undef)), (.p (.val undef)), (.p (.val undef)), (.p (.val undef)), (.p (.val undef)), (.p (.val undef)), (.p (.val undef)), (.p (.val undef)), (.p (.val undef)), (.p (.val undef)), (.p (.val undef)), (.p (.val undef)), (.p (.val undef)), (.p (.val undef)), (.p (.val undef))], F28_4_d1 x2_0 a2 a3 a1 x2_1⟩)] (apc ((F29_4_ok a1 a2 a3 h1) : CS prg 29 [vs a1, (vs (⟨([10] : List UInt8).toArray⟩ : ByteArray))] [.cells 23 [i6 1, i6 1], .cells 3 [i6 0], .cells 25 [i6 0], .cells 3 [i6 0], .loop 0 none [13, 14] [vs a2, (.agg [i6 1, i6 1]), (.p (.val undef)), .ptr 0 0, .ptr 1 0, .ptr 2 0, .ptr 3 0, (.p (.val undef)), vs a2, i6 a3, vb false, vs a2, (.fn 28 [(.ro [.val (.string a1)])]), (.p (.val undef)), (.p (.val undef)), (.p (.val undef)), (.p (.val undef)), (.p (.val undef)), (.p (.val undef)), (.p (.val undef)), (.p (.val undef)), (.p (.val undef)), (.p (.val undef)), (.p (.val undef)), (.p (.val undef)), (.p (.val undef)), (.p (.val undef)), (.p (.val undef)), (.p (.val undef)), (.p (.val undef)), (.p (.val undef)), (.p (.val undef)), (.p (.val undef)), (.p (.val undef)), (.p (.val undef)), (.p (.val undef)), (.p (.val undef)), (.p (.val undef)), (.p (.val undef)), (.p (.val undef)), (.p (.val undef))] ir11_a0 ir11_b0, .cells 66 [.yl 4], .cells 3 [i6 0]] = some ((.fn 57 [.ptr 8 0, .ptr 7 0, .ptr 9 0]), F28_4_d0 a2 a3 a1)) (apc ((ev_range rfl (F57_4_ok a2 a3 a1 h2) rfl) : ev prg (.rangeF (.t 6) [7] ir28_a0 ir28_b0) ⟨[.yl 4, (.ro [.val (.string a1)]), .ptr 5 0, .ptr 6 0, (.p (.val undef)), vs a1, (.fn 57 [.ptr 8 0, .ptr 7 0, .ptr 9 0]), (.p (.val undef)), (.p (.val undef)), (.p (.val undef)), (.p (.val undef)), (.p (.val undef)), (.p (.val undef)), (.p (.val undef)), (.p (.val undef)), (.p (.val undef)), (.p (.val undef)), (.p (.val undef)), (.p (.val undef)), (.p (.val undef)), (.p (.val undef)), (.p (.val undef)), (.p (.val undef))], F28_4_d0 a2 a3 a1⟩ = some (.ret, ⟨[.yl 4, (.ro [.val (.string a1)]), .ptr 5 0, .ptr 6 0, (.p (.val undef)), vs a1, (.fn 57 [.ptr 8 0, .ptr 7 0, .ptr 9 0]), (.p (.val undef)), (.p (.val undef)), (.p (.val undef)), (.p (.val undef)), (.p (.val undef)), (.p (.val undef)), (.p (.val undef)), (.p (.val undef)), (.p (.val undef)), (.p (.val undef)), (.p (.val undef)), (.p (.val undef)), (.p (.val undef)), (.p (.val undef)), (.p (.val undef)), (.p (.val undef))], F28_4_d1 x2_0 a2 a3 a1 x2_1⟩)) apn))
def F11_2_v (a1 : ByteArray) (x0 : Int) : AV := (.tup [i6 0, i6 x0])
def F11_2 (a1 : ByteArray) : Option Int :=
  (bif (decide ((a1.size : Int) > 1048576)) then (some 3) else ((F15 a1).bind fun x2 => ((F28_4 x2).bind fun r3 => match r3 with | .k0 x3_0 x3_1 => (some x3_0))))
abbrev F11_2_d0 (x3_0 : Int) (x2 : ByteArray) (x3_1 : Int) : List AB := [.cells 23 [i6 1, i6 1], .cells 3 [i6 0], .cells 25 [i6 x3_0], .cells 3 [i6 1], .dead, .cells 66 [.yl 4], .cells 3 [i6 0], .cells 9 [vs x2], .cells 9 [(vs (⟨([10] : List UInt8).toArray⟩ : ByteArray))], .cells 3 [i6 0], .dead, .cells 32 [i6 0, i6 x3_1]]
abbrev F11_2_d1 : List AB := [.cells 23 [i6 1, i6 1], .cells 3 [i6 0], .cells 25 [i6 0], .cells 3 [i6 0]]
theorem F11_2_ok (a1 : ByteArray) {r : Int} (h : F11_2 a1 = some r) : PR1 prg 11 [vs a1, (.agg [i6 1, i6 1])] (F11_2_v a1 r) := by
 unfold F11_2 at h
 apply bi h <;> intro h1 h
 ·
  rw [← sj h]
  exact fq [(10, .d true)] (av h1 apn)
 ·
  apply bn h; intro x2 h2 h
  apply bn h; intro r3 h3 h
  cases r3 with
  | k0 x3_0 x3_1 =>
   rw [← sj h]
   exact fq [(10, .d false), (12, .v (.fn 28 [(.ro [.val (.string x2)])])), (2000, .l .ret ⟨[vs a1, (.agg [i6 1, i6 1]), (.p (.val undef)), .ptr 0 0, .ptr 1 0, .ptr 2 0, .ptr 3 0, (.p (.val undef)), vs a1, (i6 (a1.size : Int)), vb false, vs a1, (.fn 28 [(.ro [.val (.string x2)])]), (.p (.val undef)), (.p (.val undef)), (.p (.val undef)), (.p (.val undef)), (.p (.val undef)), (.p (.val undef)), (.p (.val undef)), (.p (.val undef)), (.p (.val undef)), (.p (.val undef)), (.p (.val undef)), (.p (.val undef)), (.p (.val undef)), (.p (.val undef)), (.p (.val undef)), (.p (.val undef)), (.p (.val undef)), (.p (.val undef)), (.p (.val undef)), (.p (.val undef)), (.p (.val undef)), (.p (.val undef)), (.p (.val undef)), (.p (.val undef)), (.p (.val undef)), (.p (.val undef)), (.p (.val undef)), (.p (.val undef))], F11_2_d0 x3_0 x2 x3_1⟩)] (av h1 (apc (((F15_ok a1 h2).cp rfl _) : CP prg 15 [vs a1] F11_2_d1 = some (.fn 28 [(.ro [.val (.string x2)])])) (apc ((ev_range rfl (F28_4_ok x2 a1 (a1.size : Int) h3) rfl) : ev prg (.rangeF (.t 12) [13, 14] ir11_a0 ir11_b0) ⟨[vs a1, (.agg [i6 1, i6 1]), (.p (.val undef)), .ptr 0 0, .ptr 1 0, .ptr 2 0, .ptr 3 0, (.p (.val undef)), vs a1, (i6 (a1.size : Int)), vb false, vs a1, (.fn 28 [(.ro [.val (.string x2)])]), (.p (.val undef)), (.p (.val undef)), (.p (.val undef)), (.p (.val undef)), (.p (.val undef)), (.p (.val undef)), (.p (.val undef)), (.p (.val undef)), (.p (.val undef)), (.p (.val undef)), (.p (.val undef)), (.p (.val undef)), (.p (.val undef)), (.p (.val undef)), (.p (.val undef)), (.p (.val undef)), (.p (.val undef)), (.p (.val undef)), (.p (.val undef)), (.p (.val undef)), (.p (.val undef)), (.p (.val undef)), (.p (.val undef)), (.p (.val undef)), (.p (.val undef)), (.p (.val undef)), (.p (.val undef)), (.p (.val undef))], F11_2_d1⟩ = some (.ret, ⟨[vs a1, (.agg [i6 1, i6 1]), (.p (.val undef)), .ptr 0 0, .ptr 1 0, .ptr 2 0, .ptr 3 0, (.p (.val undef)), vs a1, (i6 (a1.size : Int)), vb false, vs a1, (.fn 28 [(.ro [.val (.string x2)])]), (.p (.val undef)), (.p (.val undef)), (.p (.val undef)), (.p (.val undef)), (.p (.val undef)), (.p (.val undef)), (.p (.val undef)), (.p (.val undef)), (.p (.val undef)), (.p (.val undef)), (.p (.val undef)), (.p (.val undef)), (.p (.val undef)), (.p (.val undef)), (.p (.val undef)), (.p (.val undef)), (.p (.val undef)), (.p (.val undef)), (.p (.val undef)), (.p (.val undef)), (.p (.val undef)), (.p (.val undef)), (.p (.val undef)), (.p (.val undef)), (.p (.val undef)), (.p (.val undef)), (.p (.val undef)), (.p (.val undef))], F11_2_d0 x3_0 x2 x3_1⟩)) apn)))
def F41_v (a1 : EditD) (a2 : Int) (x0 : Bool) : AV := (vb x0)
def F41 (a1 : EditD) (a2 : Int) : Option Bool :=
  (bif (decide (a1.frm < 0)) then (some true) else (bif (decide (a1.til < a1.frm)) then (some true) else (some (decide (a1.til > a2)))))
theorem F41_ok (a1 : EditD) (a2 : Int) {r : Bool} (h : F41 a1 a2 = some r) : PR1 prg 41 [aE a1, (.ro [.val (.int .i64 a2)])] (F41_v a1 a2 r) := by
 unfold F41 at h
 apply bi h <;> intro h1 h
 ·
  rw [← sj h]
  exact fq [(7, .d true)] (av h1 apn)
 ·
  apply bi h <;> intro h2 h
  ·
   rw [← sj h]
   exact fq [(7, .d false), (15, .d true)] (av h1 (av h2 apn))
  ·
   rw [← sj h]
   exact fq [(7, .d false), (15, .d false)] (av h1 (av h2 apn))
inductive E_L54_0 where
  | k0 (x0 : Int)
  | k1
section
variable (a1 : List EditD) (a2 a3 : Int)
def L54_0 (v1 : Int) : Option (E_L54_0 ⊕ (Int)) :=
  (bif (decide (v1 < a3)) then ((getI a1 v1).bind fun x2 => ((F41 x2 a2).bind fun x3 => (bif x3 then (some (.inl (.k0 v1))) else (some (.inr ((IntKind.wrap .i64 (v1 + 1)))))))) else (some (.inl (.k1))))
def L54_0_s (v1 : Int) : St := ⟨fr 19 ug [(0, ls 3 eEdit a1), (1, (.fn 41 [(.ro [.val (.int .i64 a2)])])), (7, i6 a3), (8, i6 v1)], []⟩
theorem L54_0_k (v1 : Int) : okT 0 (L54_0_s a1 a2 a3 v1).h = true := (okT_of rfl rfl)
abbrev L54_0_e (v1 : Int) := evH prg 0 [0, 1, 7, 8] ir54_l0 (L54_0_s a1 a2 a3 v1)
def L54_0_x (e : E_L54_0) (r : Option (Out × St)) : Prop := match e with | .k0 x0 => ∃ g y, r = some (.ret, ⟨fr 19 g [(4, i6 x0)], y⟩) | .k1 => ∃ g, r = some ((.brk 0), ⟨fr 19 g [(0, ls 3 eEdit a1)], []⟩)
theorem L54_0_ok (v1 : Int) {r : E_L54_0 ⊕ (Int)} (h : L54_0 a1 a2 a3 v1 = some r) : OkR (fun e => L54_0_x a1 e (L54_0_e a1 a2 a3 v1)) (fun s => L54_0_e a1 a2 a3 v1 = L54_0_e a1 a2 a3 s) r := by
 unfold L54_0 at h
 apply bi h <;> intro h1 h
 ·
  apply bn h; intro x2 h2 h
  have k0 := ka [(9, .d true), (14, .v (.ro (eEdit x2)))] (av h1 (apc (ig eEdit 3 .i64 h2) apn))
  apply bn h; intro x3 h3 h
  apply bi h <;> intro h4 h
  ·
   rw [← sj h]
   exact xy ([(16, .v (vb true)), (6000, .d true)] ++ kH k0) (k0.b (apc ((((F41_ok x2 a2 h3).cp rfl _).trans (congrArg (fun z => some (vb z)) h4)) : CP prg 41 [aE x2, (.ro [.val (.int .i64 a2)])] [] = some (vb true)) apn))
  ·
   rw [← sj h]
   exact rn ([(16, .v (vb false)), (6000, .d true)] ++ kH k0) (k0.b (apc ((((F41_ok x2 a2 h3).cp rfl _).trans (congrArg (fun z => some (vb z)) h4)) : CP prg 41 [aE x2, (.ro [.val (.int .i64 a2)])] [] = some (vb false)) (apc (L54_0_k a1 a2 a3 (w6 (v1 + 1))) apn)))
 ·
  rw [← sj h]
  exact xb [(9, .d false), (6000, .d true)] (av h1 apn)
theorem L54_0_run (s0 : Int) (e : E_L54_0) (h : runL (fun s => L54_0 a1 a2 a3 s) s0 = some e) : L54_0_x a1 e (L54_0_e a1 a2 a3 s0) := by
  have q := @loop_sound' (Int) E_L54_0 (fun s => L54_0 a1 a2 a3 s) (fun s => L54_0_e a1 a2 a3 s) (L54_0_x a1) (fun s r h => L54_0_ok a1 a2 a3 s h) s0 e h
  exact q
end
def F54_v (a1 : List EditD) (a2 : Int) (x0 : Int) : AV := (i6 x0)
def F54 (a1 : List EditD) (a2 : Int) : Option Int :=
  ((runL (fun s => L54_0 a1 a2 (a1.length : Int) s) 0).bind fun r1 => match r1 with | .k0 x1_0 => (some x1_0) | .k1 => (some (-1)))
theorem F54_ok (a1 : List EditD) (a2 : Int) {r : Int} (h : F54 a1 a2 = some r) : PR1 prg 54 [ls 3 eEdit a1, (.fn 41 [(.ro [.val (.int .i64 a2)])])] (F54_v a1 a2 r) := by
 unfold F54 at h
 have k0 := ka [(7, .v (i6 (a1.length : Int)))] (apc (lg a1 eEdit 3) apn)
 apply bn h; intro r1 h1 h
 cases r1 with
 | k0 x1_0 =>
  obtain ⟨g1, y1, e1⟩ := L54_0_run a1 a2 (a1.length : Int) 0 _ h1
  rw [← sj h]
  exact fq ([(2000, .l .ret ⟨fr 19 g1 [(4, i6 x1_0)], y1⟩), (6000, .d true)] ++ kH k0) (k0.b (apc (L54_0_k a1 a2 (a1.length : Int) 0) (apc (e1 : L54_0_e a1 a2 (a1.length : Int) 0 = some (.ret, ⟨fr 19 g1 [(4, i6 x1_0)], y1⟩)) apn)))
 | k1 =>
  obtain ⟨g1, e1⟩ := L54_0_run a1 a2 (a1.length : Int) 0 _ h1
  rw [← sj h]
  exact fq ([(2000, .l (.brk 0) ⟨fr 19 g1 [(0, ls 3 eEdit a1)], []⟩), (6000, .d true)] ++ kH k0) (k0.b (apc (L54_0_k a1 a2 (a1.length : Int) 0) (apc (e1 : L54_0_e a1 a2 (a1.length : Int) 0 = some ((.brk 0), ⟨fr 19 g1 [(0, ls 3 eEdit a1)], []⟩)) apn)))
def F40_v (a1 : List EditD) (a2 : Int) (x0 : Bool) : AV := (vb x0)
def F40 (a1 : List EditD) (a2 : Int) : Option Bool :=
  ((F54 a1 a2).bind fun x1 => (some (decide (x1 ≥ 0))))
theorem F40_ok (a1 : List EditD) (a2 : Int) {r : Bool} (h : F40 a1 a2 = some r) : PR1 prg 40 [ls 3 eEdit a1, (.fn 41 [(.ro [.val (.int .i64 a2)])])] (F40_v a1 a2 r) := by
 unfold F40 at h
 apply bn h; intro x1 h1 h
 rw [← sj h]
 exact fq [(7, .v (i6 x1))] (apc (((F54_ok a1 a2 h1).cp rfl _) : CP prg 54 [ls 3 eEdit a1, (.fn 41 [(.ro [.val (.int .i64 a2)])])] [] = some (i6 x1)) apn)
def F24_v (a1 : Int) (a2 : List EditD) (x0 : Bool) : AV := (vb x0)
def F24 (a1 : Int) (a2 : List EditD) : Option Bool :=
  ((F40 a2 a1).bind fun x1 => (some (!x1)))
theorem F24_ok (a1 : Int) (a2 : List EditD) {r : Bool} (h : F24 a1 a2 = some r) : PR1 prg 24 [i6 a1, ls 3 eEdit a2] (F24_v a1 a2 r) := by
 unfold F24 at h
 apply bn h; intro x1 h1 h
 rw [← sj h]
 exact fq [(7, .v (vb x1))] (apc (((F40_ok a2 a1 h1).own rfl (purAs_cons rfl (purAs_cons (purA_fn (purAs_cons (purA_ptr rfl (mapO_con rfl rfl)) purAs_nil)) purAs_nil)) rfl) : CP prg 40 [ls 3 eEdit a2, (.fn 41 [.ptr 0 0])] [.cells 3 [i6 a1]] = some (vb x1)) apn)
def F56_v (a1 : EditD) (x0 : Bool) : AV := (vb x0)
def F56 (a1 : EditD) : Option Bool :=
  (some (a1.frm != a1.frm))
theorem F56_ok (a1 : EditD) {r : Bool} (h : F56 a1 = some r) : PR1 prg 56 [i6 a1.frm] (F56_v a1 r) := by
 unfold F56 at h
 rw [← sj h]
 exact fq [] apn
def F46_v (a1 a2 : EditD) (x0 : Int) : AV := (i6 x0)
def F46 (a1 a2 : EditD) : Option Int :=
  ((F56 a1).bind fun x1 => (bif x1 then ((F56 a2).bind fun x3 => (bif x3 then (some 0) else (some (-1)))) else ((F56 a2).bind fun x3 => (bif x3 then (some 1) else (bif (decide (a1.frm < a2.frm)) then (some (-1)) else (bif (decide (a1.frm > a2.frm)) then (some 1) else (some 0)))))))
theorem F46_ok (a1 a2 : EditD) {r : Int} (h : F46 a1 a2 = some r) : PR1 prg 46 [i6 a1.frm, i6 a2.frm] (F46_v a1 a2 r) := by
 unfold F46 at h
 apply bn h; intro x1 h1 h
 apply bi h <;> intro h2 h
 ·
  have q0 := ((((F56_ok a1 h1).cp rfl _).trans (congrArg (fun z => some (vb z)) h2)) : CP prg 56 [i6 a1.frm] [] = some (vb true))
  apply bn h; intro x3 h3 h
  apply bi h <;> intro h4 h
  ·
   rw [← sj h]
   exact fq [(8, .v (vb true)), (10, .v (vb true))] (apc q0 (apc ((((F56_ok a2 h3).cp rfl _).trans (congrArg (fun z => some (vb z)) h4)) : CP prg 56 [i6 a2.frm] [] = some (vb true)) apn))
  ·
   rw [← sj h]
   exact fq [(8, .v (vb true)), (10, .v (vb false))] (apc q0 (apc ((((F56_ok a2 h3).cp rfl _).trans (congrArg (fun z => some (vb z)) h4)) : CP prg 56 [i6 a2.frm] [] = some (vb false)) apn))
 ·
  have q1 := ((((F56_ok a1 h1).cp rfl _).trans (congrArg (fun z => some (vb z)) h2)) : CP prg 56 [i6 a1.frm] [] = some (vb false))
  apply bn h; intro x3 h3 h
  apply bi h <;> intro h4 h
  ·
   rw [← sj h]
   exact fq [(8, .v (vb false)), (10, .v (vb true))] (apc q1 (apc ((((F56_ok a2 h3).cp rfl _).trans (congrArg (fun z => some (vb z)) h4)) : CP prg 56 [i6 a2.frm] [] = some (vb true)) apn))
  ·
   have q2 := ((((F56_ok a2 h3).cp rfl _).trans (congrArg (fun z => some (vb z)) h4)) : CP prg 56 [i6 a2.frm] [] = some (vb false))
   have k3 := ka [(8, .v (vb false)), (10, .v (vb false))] (apc q1 (apc q2 apn))
   apply bi h <;> intro h5 h
   ·
    rw [← sj h]
    exact fq ([(16, .d true)] ++ kH k3) (k3.b (av h5 apn))
   ·
    apply bi h <;> intro h6 h
    ·
     rw [← sj h]
     exact fq ([(16, .d false), (19, .d true)] ++ kH k3) (k3.b (av h5 (av h6 apn)))
    ·
     rw [← sj h]
     exact fq ([(16, .d false), (19, .d false)] ++ kH k3) (k3.b (av h5 (av h6 apn)))
def F56_2_v (a1 : EditD) (x0 : Bool) : AV := (vb x0)
def F56_2 (a1 : EditD) : Option Bool :=
  (some (a1.til != a1.til))
theorem F56_2_ok (a1 : EditD) {r : Bool} (h : F56_2 a1 = some r) : PR1 prg 56 [i6 a1.til] (F56_2_v a1 r) := by
 unfold F56_2 at h
 rw [← sj h]
 exact fq [] apn
def F46_2_v (a1 a2 : EditD) (x0 : Int) : AV := (i6 x0)
def F46_2 (a1 a2 : EditD) : Option Int :=
  ((F56_2 a1).bind fun x1 => (bif x1 then ((F56_2 a2).bind fun x3 => (bif x3 then (some 0) else (some (-1)))) else ((F56_2 a2).bind fun x3 => (bif x3 then (some 1) else (bif (decide (a1.til < a2.til)) then (some (-1)) else (bif (decide (a1.til > a2.til)) then (some 1) else (some 0)))))))
theorem F46_2_ok (a1 a2 : EditD) {r : Int} (h : F46_2 a1 a2 = some r) : PR1 prg 46 [i6 a1.til, i6 a2.til] (F46_2_v a1 a2 r) := by
 unfold F46_2 at h
 apply bn h; intro x1 h1 h
 apply bi h <;> intro h2 h
 ·
  have q0 := ((((F56_2_ok a1 h1).cp rfl _).trans (congrArg (fun z => some (vb z)) h2)) : CP prg 56 [i6 a1.til] [] = some (vb true))
  apply bn h; intro x3 h3 h
  apply bi h <;> intro h4 h
  ·
   rw [← sj h]
   exact fq [(8, .v (vb true)), (10, .v (vb true))] (apc q0 (apc ((((F56_2_ok a2 h3).cp rfl _).trans (congrArg (fun z => some (vb z)) h4)) : CP prg 56 [i6 a2.til] [] = some (vb true)) apn))
  ·
   rw [← sj h]
   exact fq [(8, .v (vb true)), (10, .v (vb false))] (apc q0 (apc ((((F56_2_ok a2 h3).cp rfl _).trans (congrArg (fun z => some (vb z)) h4)) : CP prg 56 [i6 a2.til] [] = some (vb false)) apn))
 ·
  have q1 := ((((F56_2_ok a1 h1).cp rfl _).trans (congrArg (fun z => some (vb z)) h2)) : CP prg 56 [i6 a1.til] [] = some (vb false))
  apply bn h; intro x3 h3 h
  apply bi h <;> intro h4 h
  ·
   rw [← sj h]
   exact fq [(8, .v (vb false)), (10, .v (vb true))] (apc q1 (apc ((((F56_2_ok a2 h3).cp rfl _).trans (congrArg (fun z => some (vb z)) h4)) : CP prg 56 [i6 a2.til] [] = some (vb true)) apn))
  ·
   have q2 := ((((F56_2_ok a2 h3).cp rfl _).trans (congrArg (fun z => some (vb z)) h4)) : CP prg 56 [i6 a2.til] [] = some (vb false))
   have k3 := ka [(8, .v (vb false)), (10, .v (vb false))] (apc q1 (apc q2 apn))
   apply bi h <;> intro h5 h
   ·
    rw [← sj h]
    exact fq ([(16, .d true)] ++ kH k3) (k3.b (av h5 apn))
   ·
    apply bi h <;> intro h6 h
    ·
     rw [← sj h]
     exact fq ([(16, .d false), (19, .d true)] ++ kH k3) (k3.b (av h5 (av h6 apn)))
    ·
     rw [← sj h]
     exact fq ([(16, .d false), (19, .d false)] ++ kH k3) (k3.b (av h5 (av h6 apn)))
inductive E_L45_0 where
  | k0 (x0 : Int)
  | k1
section
variable (a1 : List Int) (a2 : Int)
def L45_0 (v1 : Int) : Option (E_L45_0 ⊕ (Int)) :=
  (bif (decide (v1 < a2)) then ((getI a1 v1).bind fun x2 => (bif (x2 != 0) then (some (.inl (.k0 x2))) else (some (.inr ((IntKind.wrap .i64 (v1 + 1))))))) else (some (.inl (.k1))))
def L45_0_s (v1 : Int) : St := ⟨fr 18 ug [(3, i6 0), (6, ls 1 eI64 a1), (7, i6 a2), (8, i6 v1)], []⟩
theorem L45_0_k (v1 : Int) : okT 0 (L45_0_s a1 a2 v1).h = true := (okT_of rfl rfl)
abbrev L45_0_e (v1 : Int) := evH prg 0 [3, 6, 7, 8] ir45_l0 (L45_0_s a1 a2 v1)
def L45_0_x (e : E_L45_0) (r : Option (Out × St)) : Prop := match e with | .k0 x0 => ∃ g y, r = some (.ret, ⟨fr 18 g [(2, i6 x0)], y⟩) | .k1 => ∃ g, r = some ((.brk 0), ⟨fr 18 g [(3, i6 0), (6, ls 1 eI64 a1)], []⟩)
theorem L45_0_ok (v1 : Int) {r : E_L45_0 ⊕ (Int)} (h : L45_0 a1 a2 v1 = some r) : OkR (fun e => L45_0_x a1 e (L45_0_e a1 a2 v1)) (fun s => L45_0_e a1 a2 v1 = L45_0_e a1 a2 s) r := by
 unfold L45_0 at h
 apply bi h <;> intro h1 h
 ·
  apply bn h; intro x2 h2 h
  have k0 := ka [(9, .d true), (10, .v (.ro [.val (.int .i64 x2)]))] (av h1 (apc (ig eI64 1 .i64 h2) apn))
  apply bi h <;> intro h3 h
  ·
   rw [← sj h]
   exact xy ([(14, .d true), (6000, .d true)] ++ kH k0) (k0.b (av h3 apn))
  ·
   rw [← sj h]
   exact rn ([(14, .d false), (6000, .d true)] ++ kH k0) (k0.b (av h3 (apc (L45_0_k a1 a2 (w6 (v1 + 1))) apn)))
 ·
  rw [← sj h]
  exact xb [(9, .d false), (6000, .d true)] (av h1 apn)
theorem L45_0_run (s0 : Int) (e : E_L45_0) (h : runL (fun s => L45_0 a1 a2 s) s0 = some e) : L45_0_x a1 e (L45_0_e a1 a2 s0) := by
  have q := @loop_sound' (Int) E_L45_0 (fun s => L45_0 a1 a2 s) (fun s => L45_0_e a1 a2 s) (L45_0_x a1) (fun s r h => L45_0_ok a1 a2 s h) s0 e h
  exact q
end
def F45_v (a1 : List Int) (x0 : Int) : AV := (i6 x0)
def F45 (a1 : List Int) : Option Int :=
  ((runL (fun s => L45_0 a1 (a1.length : Int) s) 0).bind fun r1 => match r1 with | .k0 x1_0 => (some x1_0) | .k1 => (some 0))
theorem F45_ok (a1 : List Int) {r : Int} (h : F45 a1 = some r) : PR1 prg 45 [ls 1 eI64 a1] (F45_v a1 r) := by
 unfold F45 at h
 have k0 := ka [(7, .v (i6 (a1.length : Int)))] (apc (lg a1 eI64 1) apn)
 apply bn h; intro r1 h1 h
 cases r1 with
 | k0 x1_0 =>
  obtain ⟨g1, y1, e1⟩ := L45_0_run a1 (a1.length : Int) 0 _ h1
  rw [← sj h]
  exact fq ([(2000, .l .ret ⟨fr 18 g1 [(2, i6 x1_0)], y1⟩), (6000, .d true)] ++ kH k0) (k0.b (apc (L45_0_k a1 (a1.length : Int) 0) (apc (e1 : L45_0_e a1 (a1.length : Int) 0 = some (.ret, ⟨fr 18 g1 [(2, i6 x1_0)], y1⟩)) apn)))
 | k1 =>
  obtain ⟨g1, e1⟩ := L45_0_run a1 (a1.length : Int) 0 _ h1
  rw [← sj h]
  exact fq ([(2000, .l (.brk 0) ⟨fr 18 g1 [(3, i6 0), (6, ls 1 eI64 a1)], []⟩), (6000, .d true)] ++ kH k0) (k0.b (apc (L45_0_k a1 (a1.length : Int) 0) (apc (e1 : L45_0_e a1 (a1.length : Int) 0 = some ((.brk 0), ⟨fr 18 g1 [(3, i6 0), (6, ls 1 eI64 a1)], []⟩)) apn)))
def F44_v (a1 a2 : EditD) (x0 : Int) : AV := (i6 x0)
def F44 (a1 a2 : EditD) : Option Int :=
  ((F46 a1 a2).bind fun x1 => ((F46_2 a1 a2).bind fun x2 => ((F45 ([x1, x2])).bind fun x3 => (some x3))))
theorem F44_ok (a1 a2 : EditD) {r : Int} (h : F44 a1 a2 = some r) : PR1 prg 44 [aE a1, aE a2] (F44_v a1 a2 r) := by
 unfold F44 at h
 apply bn h; intro x1 h1 h
 apply bn h; intro x2 h2 h
 apply bn h; intro x3 h3 h
 rw [← sj h]
 exact fq [(11, .v (i6 x1)), (18, .v (i6 x2)), (20, .v (i6 x3))] (apc (((F46_ok a1 a2 h1).cp rfl _) : CP prg 46 [i6 a1.frm, i6 a2.frm] [.cells 34 ((eEdit a1).map .p), .cells 34 ((eEdit a2).map .p)] = some (i6 x1)) (apc (((F46_2_ok a1 a2 h2).cp rfl _) : CP prg 46 [i6 a1.til, i6 a2.til] [.cells 34 ((eEdit a1).map .p), .cells 34 ((eEdit a2).map .p)] = some (i6 x2)) (apc (((F45_ok ([x1, x2]) h3).own rfl (purAs_cons (purA_sl (e := eI64) (xs := [x1, x2]) rfl rfl) purAs_nil) rfl) : CP prg 45 [.sl 2 0 1 0 2] [.cells 34 ((eEdit a1).map .p), .cells 34 ((eEdit a2).map .p), .row 3 1 0 [[i6 x1], [i6 x2]]] = some (i6 x3)) apn)))
inductive E_L65_0_3 where
  | k0 (x0 : List EditD)
section
variable (a1 a2 : Nat) (a3 a4 a5 : Int)
abbrev L65_0_3_p (l : List AB) : List AB := yE0 :: yE0 :: l
def L65_0_3 (v1 : Int) (v2 : List EditD) : Option (E_L65_0_3 ⊕ (Int × (List EditD))) :=
  (bif (decide (v1 > a3)) then ((ixN a2 v1).bind fun x2 => ((v2[x2]?).bind fun x3 => ((ixN a2 (IntKind.wrap .i64 (v1 - 1))).bind fun x4 => ((v2[x4]?).bind fun x5 => ((F44 x3 x5).bind fun x6 => (bif (decide (x6 < 0)) then (((v2.set x2 (⟨x5.frm, x5.til, x5.text⟩ : EditD))[x4]?).bind fun x8 => (some (.inr ((IntKind.wrap .i64 (v1 - 1)), ((v2.set x2 (⟨x5.frm, x5.til, x5.text⟩ : EditD)).set x4 (⟨x3.frm, x3.til, x3.text⟩ : EditD)))))) else (some (.inl (.k0 v2))))))))) else (some (.inl (.k0 v2))))
def L65_0_3_s (v1 : Int) (v2 : List EditD) : St := ⟨fr 53 ug [(0, .sl 2 a1 3 0 a2), (1, i6 a3), (2, i6 a4), (3, (.fn 44 [])), (8, i6 a5), (9, i6 v1)], (L65_0_3_p [yE a1 v2])⟩
theorem L65_0_3_k (v1 : Int) (v2 : List EditD) : okT 3 (L65_0_3_s a1 a2 a3 a4 a5 v1 v2).h = true := (okT_of rfl (ar (ar (ar rfl))))
abbrev L65_0_3_e (v1 : Int) (v2 : List EditD) := evH prg 3 [0, 1, 2, 3, 8, 9] ir65_l0 (L65_0_3_s a1 a2 a3 a4 a5 v1 v2)
def L65_0_3_x (e : E_L65_0_3) (r : Option (Out × St)) : Prop := match e with | .k0 x0 => ∃ g, r = some ((.brk 2), ⟨fr 53 g [(0, .sl 2 a1 3 0 a2), (1, i6 a3), (2, i6 a4), (3, (.fn 44 [])), (8, i6 a5)], (L65_0_3_p [yE a1 x0])⟩)
abbrev L65_0_3_d0 (v2 : List EditD) : List AB := (L65_0_3_p [yE a1 v2])
abbrev L65_0_3_d1 (v2 : List EditD) (x2 : Nat) (x5 : EditD) : List AB := (L65_0_3_p [yE a1 (v2.set x2 (⟨x5.frm, x5.til, x5.text⟩ : EditD))])
abbrev L65_0_3_d2 (v2 : List EditD) (x2 : Nat) (x5 : EditD) (x4 : Nat) (x3 : EditD) : List AB := (L65_0_3_p [yE a1 ((v2.set x2 (⟨x5.frm, x5.til, x5.text⟩ : EditD)).set x4 (⟨x3.frm, x3.til, x3.text⟩ : EditD))])
theorem L65_0_3_ok (v1 : Int) (v2 : List EditD) {r : E_L65_0_3 ⊕ (Int × (List EditD))} (h : L65_0_3 a2 a3 v1 v2 = some r) : OkR (fun e => L65_0_3_x a1 a2 a3 a4 a5 e (L65_0_3_e a1 a2 a3 a4 a5 v1 v2)) (fun s => L65_0_3_e a1 a2 a3 a4 a5 v1 v2 = L65_0_3_e a1 a2 a3 a4 a5 s.1 s.2) r := by
 unfold L65_0_3 at h
 apply bi h <;> intro h1 h
 ·
  apply bn h; intro x2 h2 h
  have q0 := ((idx_sl h2) : idxA 3 (.sl 2 a1 3 0 a2) (i6 v1) = some (.rp 2 a1 3 x2 0))
  have k1 := ka [(20, .d true), (25, .v (.rp 2 a1 3 x2 0))] (av h1 (apc q0 apn))
  apply bn h; intro x3 h3 h
  have q2 := ((ld_row rfl h3 rfl) : ldA (L65_0_3_d0 a1 v2) .true 3 (.rp 2 a1 3 x2 0) = some (aE x3))
  apply bn h; intro x4 h4 h
  have q3 := ((idx_sl h4) : idxA 3 (.sl 2 a1 3 0 a2) (i6 (w6 (v1 - 1))) = some (.rp 2 a1 3 x4 0))
  have k4 := k1.a [(26, .v (aE x3)), (30, .v (.rp 2 a1 3 x4 0))] (apc q2 (apc q3 apn))
  apply bn h; intro x5 h5 h
  have q5 := ((ld_row rfl h5 rfl) : ldA (L65_0_3_d0 a1 v2) .true 3 (.rp 2 a1 3 x4 0) = some (aE x5))
  apply bn h; intro x6 h6 h
  have q6 := (((F44_ok x3 x5 h6).cp rfl _) : CP prg 44 [aE x3, aE x5] (L65_0_3_d0 a1 v2) = some (i6 x6))
  have k7 := k4.a [(31, .v (aE x5)), (32, .v (i6 x6))] (apc q5 (apc q6 apn))
  apply bi h <;> intro h7 h
  ·
   apply bn h; intro x8 h8 h
   rw [← sj h]
   exact rn ([(33, .d true), (45, .v (.rp 2 a1 3 x4 0)), (46, .v (aE x5)), (49, .v (.rp 2 a1 3 x2 0)), (50, .v (aE x3)), (51, .v (.rp 2 a1 3 x2 0)), (1051, .r ud (L65_0_3_d1 a1 v2 x2 x5)), (52, .v (.rp 2 a1 3 x4 0)), (1052, .r ud (L65_0_3_d2 a1 v2 x2 x5 x4 x3)), (6000, .d true)] ++ kH k7) (k7.b (av h7 (apc q3 (apc q5 (apc q0 (apc q2 (apc q0 (apc (⟨st_row (v' := (⟨x5.frm, x5.til, x5.text⟩ : EditD)) rfl h3 rfl rfl (Nat.le_of_ble_eq_true rfl) rfl, rfl⟩ : stA (L65_0_3_d0 a1 v2) 3 (.rp 2 a1 3 x2 0) (aE x5) = some (L65_0_3_d1 a1 v2 x2 x5) ∧ ud = ud) (apc q3 (apc (⟨st_row (v' := (⟨x3.frm, x3.til, x3.text⟩ : EditD)) rfl h8 rfl rfl (Nat.le_of_ble_eq_true rfl) rfl, rfl⟩ : stA (L65_0_3_d1 a1 v2 x2 x5) 3 (.rp 2 a1 3 x4 0) (aE x3) = some (L65_0_3_d2 a1 v2 x2 x5 x4 x3) ∧ ud = ud) (apc (L65_0_3_k a1 a2 a3 a4 a5 (w6 (v1 - 1)) ((v2.set x2 (⟨x5.frm, x5.til, x5.text⟩ : EditD)).set x4 (⟨x3.frm, x3.til, x3.text⟩ : EditD))) apn)))))))))))
  ·
   rw [← sj h]
   exact xb ([(33, .d false), (6000, .d true)] ++ kH k7) (k7.b (av h7 apn))
 ·
  rw [← sj h]
  exact xb [(20, .d false), (6000, .d true)] (av h1 apn)
theorem L65_0_3_run (s0 : Int × (List EditD)) (e : E_L65_0_3) (h : runL (fun s => L65_0_3 a2 a3 s.1 s.2) s0 = some e) : L65_0_3_x a1 a2 a3 a4 a5 e (L65_0_3_e a1 a2 a3 a4 a5 s0.1 s0.2) := by
  have q := @loop_sound' (Int × (List EditD)) E_L65_0_3 (fun s => L65_0_3 a2 a3 s.1 s.2) (fun s => L65_0_3_e a1 a2 a3 a4 a5 s.1 s.2) (L65_0_3_x a1 a2 a3 a4 a5) (fun s r h => L65_0_3_ok a1 a2 a3 a4 a5 s.1 s.2 h) s0 e h
  exact q
end
inductive E_L65_1_2 where
  | k0 (x0 : List EditD)
section
variable (a1 a2 : Nat) (a3 a4 : Int)
abbrev L65_1_2_p (l : List AB) : List AB := yE0 :: yE0 :: l
def L65_1_2 (v1 : Int) (v2 : List EditD) : Option (E_L65_1_2 ⊕ (Int × (List EditD))) :=
  (bif (decide (v1 < a4)) then ((runL (fun s => L65_0_3 a2 a3 s.1 s.2) (v1, v2)).bind fun r2 => match r2 with | .k0 x2_0 => (some (.inr ((IntKind.wrap .i64 (v1 + 1)), x2_0)))) else (some (.inl (.k0 v2))))
def L65_1_2_s (v1 : Int) (v2 : List EditD) : St := ⟨fr 53 ug [(0, .sl 2 a1 3 0 a2), (1, i6 a3), (2, i6 a4), (3, (.fn 44 [])), (8, i6 v1)], (L65_1_2_p [yE a1 v2])⟩
theorem L65_1_2_k (v1 : Int) (v2 : List EditD) : okT 3 (L65_1_2_s a1 a2 a3 a4 v1 v2).h = true := (okT_of rfl (ar (ar (ar rfl))))
abbrev L65_1_2_e (v1 : Int) (v2 : List EditD) := evH prg 3 [0, 1, 2, 3, 8] ir65_l1 (L65_1_2_s a1 a2 a3 a4 v1 v2)
def L65_1_2_x (e : E_L65_1_2) (r : Option (Out × St)) : Prop := match e with | .k0 x0 => ∃ g, r = some ((.brk 0), ⟨fr 53 g [(1, i6 a3)], (L65_1_2_p [yE a1 x0])⟩)
abbrev L65_1_2_d0 (g2 : Nat → AV) (v1 : Int) (x2_0 : List EditD) : St := ⟨fr 53 g2 [(0, .sl 2 a1 3 0 a2), (1, i6 a3), (2, i6 a4), (3, (.fn 44 [])), (8, i6 v1)], (L65_1_2_p [yE a1 x2_0])⟩
theorem L65_1_2_ok (v1 : Int) (v2 : List EditD) {r : E_L65_1_2 ⊕ (Int × (List EditD))} (h : L65_1_2 a2 a3 a4 v1 v2 = some r) : OkR (fun e => L65_1_2_x a1 a3 e (L65_1_2_e a1 a2 a3 a4 v1 v2)) (fun s => L65_1_2_e a1 a2 a3 a4 v1 v2 = L65_1_2_e a1 a2 a3 a4 s.1 s.2) r := by
 unfold L65_1_2 at h
 apply bi h <;> intro h1 h
 ·
  apply bn h; intro r2 h2 h
  cases r2 with
  | k0 x2_0 =>
   obtain ⟨g2, e2⟩ := L65_0_3_run a1 a2 a3 a4 v1 (v1, v2) _ h2
   rw [← sj h]
   exact rn [(14, .d true), (2002, .l (.brk 2) (L65_1_2_d0 a1 a2 a3 a4 g2 v1 x2_0)), (6000, .d true)] (av h1 (apc (L65_0_3_k a1 a2 a3 a4 v1 v1 v2) (apc (e2 : L65_0_3_e a1 a2 a3 a4 v1 v1 v2 = some ((.brk 2), L65_1_2_d0 a1 a2 a3 a4 g2 v1 x2_0)) (apc (L65_1_2_k a1 a2 a3 a4 (w6 (v1 + 1)) x2_0) apn))))
 ·
  rw [← sj h]
  exact xb [(14, .d false), (6000, .d true)] (av h1 apn)
theorem L65_1_2_run (s0 : Int × (List EditD)) (e : E_L65_1_2) (h : runL (fun s => L65_1_2 a2 a3 a4 s.1 s.2) s0 = some e) : L65_1_2_x a1 a3 e (L65_1_2_e a1 a2 a3 a4 s0.1 s0.2) := by
  have q := @loop_sound' (Int × (List EditD)) E_L65_1_2 (fun s => L65_1_2 a2 a3 a4 s.1 s.2) (fun s => L65_1_2_e a1 a2 a3 a4 s.1 s.2) (L65_1_2_x a1 a3) (fun s r h => L65_1_2_ok a1 a2 a3 a4 s.1 s.2 h) s0 e h
  exact q
end
def F65_2_v (a1 a2 : Nat) (a3 a4 : Int) (a5 : List EditD) (x0 : (List EditD)) : AV := (.tup [])
def F65_2_h (a1 a2 : Nat) (a3 a4 : Int) (a5 : List EditD) (x0 : (List EditD)) : List AB := [yE0, yE0, yE a1 x0]
def F65_2 (a2 : Nat) (a3 a4 : Int) (a5 : List EditD) : Option (List EditD) :=
  ((runL (fun s => L65_1_2 a2 a3 a4 s.1 s.2) ((IntKind.wrap .i64 (a3 + 1)), a5)).bind fun r1 => match r1 with | .k0 x1_0 => (some x1_0))
abbrev F65_2_d0 (g1 : Nat → AV) (a3 : Int) (a1 : Nat) (x1_0 : List EditD) : St := ⟨fr 53 g1 [(1, i6 a3)], [yE0, yE0, yE a1 x1_0]⟩
theorem F65_2_ok (a1 a2 : Nat) (a3 a4 : Int) (a5 : List EditD) {r : (List EditD)} (h : F65_2 a2 a3 a4 a5 = some r) : CS prg 65 [.sl 2 a1 3 0 a2, i6 a3, i6 a4, (.fn 44 [])] [yE0, yE0, yE a1 a5] = some (F65_2_v a1 a2 a3 a4 a5 r, F65_2_h a1 a2 a3 a4 a5 r) := by
 unfold F65_2 at h
 apply bn h; intro r1 h1 h
 cases r1 with
 | k0 x1_0 =>
  obtain ⟨g1, e1⟩ := L65_1_2_run a1 a2 a3 a4 ((w6 (a3 + 1)), a5) _ h1
  rw [← sj h]
  exact fc [(2000, .l (.brk 0) (F65_2_d0 g1 a3 a1 x1_0)), (6000, .d true)] (apc (L65_1_2_k a1 a2 a3 a4 (w6 (a3 + 1)) a5) (apc (e1 : L65_1_2_e a1 a2 a3 a4 (w6 (a3 + 1)) a5 = some ((.brk 0), F65_2_d0 g1 a3 a1 x1_0)) apn))
inductive E_L55_2 where
  | k0 (x0 x1 : Int) (x2 : List EditD)
section
variable (a1 a2 : Nat) (a3 : Int)
abbrev L55_2_p (l : List AB) : List AB := yE0 :: yE0 :: l
def L55_2 (v1 v2 : Int) (v3 : List EditD) : Option (E_L55_2 ⊕ (Int × Int × (List EditD))) :=
  (bif (decide (v2 ≤ a3)) then ((F65_2 a2 v1 v2 v3).bind fun x2 => (some (.inr (v2, (IntKind.wrap .i64 (v2 + 20)), x2)))) else (some (.inl (.k0 v1 v2 v3))))
def L55_2_s (v1 v2 : Int) (v3 : List EditD) : St := ⟨fr 63 ug [(0, .sl 2 a1 3 0 a2), (1, i6 a3), (2, (.fn 44 [])), (6, i6 20), (7, i6 v1), (8, i6 v2)], (L55_2_p [yE a1 v3])⟩
theorem L55_2_k (v1 v2 : Int) (v3 : List EditD) : okT 3 (L55_2_s a1 a2 a3 v1 v2 v3).h = true := (okT_of rfl (ar (ar (ar rfl))))
abbrev L55_2_e (v1 v2 : Int) (v3 : List EditD) := evH prg 3 [0, 1, 2, 6, 7, 8] ir55_l2 (L55_2_s a1 a2 a3 v1 v2 v3)
def L55_2_x (e : E_L55_2) (r : Option (Out × St)) : Prop := match e with | .k0 x0 x1 x2 => ∃ g, r = some ((.brk 0), ⟨fr 63 g [(0, .sl 2 a1 3 0 a2), (1, i6 a3), (2, (.fn 44 [])), (6, i6 20), (7, i6 x0), (8, i6 x1)], (L55_2_p [yE a1 x2])⟩)
abbrev L55_2_d0 (x2 : List EditD) : List AB := (L55_2_p [yE a1 x2])
theorem L55_2_ok (v1 v2 : Int) (v3 : List EditD) {r : E_L55_2 ⊕ (Int × Int × (List EditD))} (h : L55_2 a2 a3 v1 v2 v3 = some r) : OkR (fun e => L55_2_x a1 a2 a3 e (L55_2_e a1 a2 a3 v1 v2 v3)) (fun s => L55_2_e a1 a2 a3 v1 v2 v3 = L55_2_e a1 a2 a3 s.1 s.2.1 s.2.2) r := by
 unfold L55_2 at h
 apply bi h <;> intro h1 h
 ·
  apply bn h; intro x2 h2 h
  rw [← sj h]
  exact rn [(13, .d true), (18, .r (.tup []) (L55_2_d0 a1 x2)), (6000, .d true)] (av h1 (apc ((F65_2_ok a1 a2 v1 v2 v3 h2) : CS prg 65 [.sl 2 a1 3 0 a2, i6 v1, i6 v2, (.fn 44 [])] (L55_2_p [yE a1 v3]) = some ((.tup []), L55_2_d0 a1 x2)) (apc (L55_2_k a1 a2 a3 v2 (w6 (v2 + 20)) x2) apn)))
 ·
  rw [← sj h]
  exact xb [(13, .d false), (6000, .d true)] (av h1 apn)
theorem L55_2_run (s0 : Int × Int × (List EditD)) (e : E_L55_2) (h : runL (fun s => L55_2 a2 a3 s.1 s.2.1 s.2.2) s0 = some e) : L55_2_x a1 a2 a3 e (L55_2_e a1 a2 a3 s0.1 s0.2.1 s0.2.2) := by
  have q := @loop_sound' (Int × Int × (List EditD)) E_L55_2 (fun s => L55_2 a2 a3 s.1 s.2.1 s.2.2) (fun s => L55_2_e a1 a2 a3 s.1 s.2.1 s.2.2) (L55_2_x a1 a2 a3) (fun s r h => L55_2_ok a1 a2 a3 s.1 s.2.1 s.2.2 h) s0 e h
  exact q
end
def F66_2_v (a1 a2 : Nat) (a3 a4 a5 : Int) (a6 : Nat) (a7 : List EditD) (a8 : Nat) (a9 a10 : List EditD) (x0 : (List EditD)) : AV := (.tup [])
def F66_2_h (a1 a2 : Nat) (a3 a4 a5 : Int) (a6 : Nat) (a7 : List EditD) (a8 : Nat) (a9 a10 : List EditD) (x0 : (List EditD)) : List AB := [yE a6 a7, yE a8 a9, yE a1 x0]
abbrev T_F66_2 := Nat → Nat → Int → Int → Int → Nat → (List EditD) → Nat → (List EditD) → (List EditD) → Option (List EditD)
abbrev H_F66_2 (f : T_F66_2) : Prop := ∀ (a1 a2 : Nat) (a3 a4 a5 : Int) (a6 : Nat) (a7 : List EditD) (a8 : Nat) (a9 a10 : List EditD) {r : (List EditD)}, f a1 a2 a3 a4 a5 a6 a7 a8 a9 a10 = some r → CS prg 66 [.sl 2 a1 3 0 a2, i6 a3, i6 a4, i6 a5, (.fn 44 [])] [yE a6 a7, yE a8 a9, yE a1 a10] = some (F66_2_v a1 a2 a3 a4 a5 a6 a7 a8 a9 a10 r, F66_2_h a1 a2 a3 a4 a5 a6 a7 a8 a9 a10 r)
inductive R_F44_3 where
  | k0 (x0 x1 x2 : Int)
def F44_3_v (a1 a2 : EditD) (a3 : Nat) (a4 : List EditD) (a5 : Nat) (a6 : List EditD) (a7 : Nat) (a8 : List EditD) (r : R_F44_3) : AV := match r with | .k0 x0 x1 x2 => (i6 x0)
def F44_3_h (a1 a2 : EditD) (a3 : Nat) (a4 : List EditD) (a5 : Nat) (a6 : List EditD) (a7 : Nat) (a8 : List EditD) (r : R_F44_3) : List AB := match r with | .k0 x0 x1 x2 => [yE a3 a4, yE a5 a6, yE a7 a8, .cells 34 ((eEdit a1).map .p), .cells 34 ((eEdit a2).map .p), .row 3 1 0 [[i6 x1], [i6 x2]]]
def F44_3 (a1 a2 : EditD) : Option R_F44_3 :=
  ((F46 a1 a2).bind fun x1 => ((F46_2 a1 a2).bind fun x2 => ((F45 ([x1, x2])).bind fun x3 => (some (.k0 x3 x1 x2)))))
abbrev F44_3_d0 (a3 : Nat) (a4 : List EditD) (a5 : Nat) (a6 : List EditD) (a7 : Nat) (a8 : List EditD) (a1 a2 : EditD) : List AB := [yE a3 a4, yE a5 a6, yE a7 a8, .cells 34 ((eEdit a1).map .p), .cells 34 ((eEdit a2).map .p)]
theorem F44_3_ok (a1 a2 : EditD) (a3 : Nat) (a4 : List EditD) (a5 : Nat) (a6 : List EditD) (a7 : Nat) (a8 : List EditD) {r : R_F44_3} (h : F44_3 a1 a2 = some r) : CS prg 44 [aE a1, aE a2] [yE a3 a4, yE a5 a6, yE a7 a8] = some (F44_3_v a1 a2 a3 a4 a5 a6 a7 a8 r, F44_3_h a1 a2 a3 a4 a5 a6 a7 a8 r) := by
 unfold F44_3 at h
 apply bn h; intro x1 h1 h
 apply bn h; intro x2 h2 h
 apply bn h; intro x3 h3 h
 rw [← sj h]
 exact fc [(11, .v (i6 x1)), (18, .v (i6 x2)), (20, .v (i6 x3))] (apc (((F46_ok a1 a2 h1).cp rfl _) : CP prg 46 [i6 a1.frm, i6 a2.frm] (F44_3_d0 a3 a4 a5 a6 a7 a8 a1 a2) = some (i6 x1)) (apc (((F46_2_ok a1 a2 h2).cp rfl _) : CP prg 46 [i6 a1.til, i6 a2.til] (F44_3_d0 a3 a4 a5 a6 a7 a8 a1 a2) = some (i6 x2)) (apc (((F45_ok ([x1, x2]) h3).own rfl (purAs_cons (purA_sl (e := eI64) (xs := [x1, x2]) rfl rfl) purAs_nil) rfl) : CP prg 45 [.sl 5 0 1 0 2] [yE a3 a4, yE a5 a6, yE a7 a8, .cells 34 ((eEdit a1).map .p), .cells 34 ((eEdit a2).map .p), .row 3 1 0 [[i6 x1], [i6 x2]]] = some (i6 x3)) apn)))
inductive E_L66_4 where
  | k0 (x0 : Int)
section
variable (a1 a2 : Nat) (a3 : Int) (a6 : Nat) (a7 : List EditD) (a8 : Nat) (a9 a10 : List EditD)
abbrev L66_4_p (l : List AB) : List AB := yE a6 a7 :: yE a8 a9 :: yE a1 a10 :: l
def L66_4 (v1 v2 : Int) : Option (E_L66_4 ⊕ (Int × Int)) :=
  (bif (decide (v1 < v2)) then ((ixN a2 (IntKind.wrap .i64 (Int.fdiv (IntKind.wrap .u64 (IntKind.wrap .i64 (v1 + v2))) (2 ^ (min (Int.toNat 1) (IntKind.bits .u64)))))).bind fun x2 => ((a10[x2]?).bind fun x3 => ((ixN a2 a3).bind fun x4 => ((a10[x4]?).bind fun x5 => ((F44_3 x3 x5).bind fun r6 => match r6 with | .k0 x6_0 x6_1 x6_2 => (bif (decide (x6_0 < 0)) then (some (.inr ((IntKind.wrap .i64 ((IntKind.wrap .i64 (Int.fdiv (IntKind.wrap .u64 (IntKind.wrap .i64 (v1 + v2))) (2 ^ (min (Int.toNat 1) (IntKind.bits .u64))))) + 1)), v2))) else (some (.inr (v1, (IntKind.wrap .i64 (Int.fdiv (IntKind.wrap .u64 (IntKind.wrap .i64 (v1 + v2))) (2 ^ (min (Int.toNat 1) (IntKind.bits .u64)))))))))))))) else (some (.inl (.k0 v1))))
def L66_4_s (v1 v2 : Int) : St := ⟨fr 220 ug [(0, .sl 2 a1 3 0 a2), (1, i6 a3), (4, (.fn 44 [])), (10, i6 v1), (11, i6 v2)], (L66_4_p a1 a6 a7 a8 a9 a10 [])⟩
theorem L66_4_k (v1 v2 : Int) : okT 3 (L66_4_s a1 a2 a3 a6 a7 a8 a9 a10 v1 v2).h = true := (okT_of rfl (ar (ar (ar rfl))))
abbrev L66_4_e (v1 v2 : Int) := evH prg 3 [0, 1, 4, 10, 11] ir66_l4 (L66_4_s a1 a2 a3 a6 a7 a8 a9 a10 v1 v2)
def L66_4_x (e : E_L66_4) (r : Option (Out × St)) : Prop := match e with | .k0 x0 => ∃ g, r = some ((.brk 0), ⟨fr 220 g [(0, .sl 2 a1 3 0 a2), (1, i6 a3), (4, (.fn 44 [])), (10, i6 x0)], (L66_4_p a1 a6 a7 a8 a9 a10 [])⟩)
abbrev L66_4_d0 : List AB := (L66_4_p a1 a6 a7 a8 a9 a10 [])
abbrev L66_4_d1 (x3 x5 : EditD) (x6_1 x6_2 : Int) : List AB := (L66_4_p a1 a6 a7 a8 a9 a10 [.cells 34 ((eEdit x3).map .p), .cells 34 ((eEdit x5).map .p), .row 3 1 0 [[i6 x6_1], [i6 x6_2]]])
theorem L66_4_ok (v1 v2 : Int) {r : E_L66_4 ⊕ (Int × Int)} (h : L66_4 a2 a3 a10 v1 v2 = some r) : OkR (fun e => L66_4_x a1 a2 a3 a6 a7 a8 a9 a10 e (L66_4_e a1 a2 a3 a6 a7 a8 a9 a10 v1 v2)) (fun s => L66_4_e a1 a2 a3 a6 a7 a8 a9 a10 v1 v2 = L66_4_e a1 a2 a3 a6 a7 a8 a9 a10 s.1 s.2) r := by
 unfold L66_4 at h
 have q0 := ((sh_shr (by decide)) : binA .shr (vi .u64 (IntKind.wrap .u64 (w6 (v1 + v2)))) (vi .u64 1) = some (vi .u64 (Int.fdiv (IntKind.wrap .u64 (w6 (v1 + v2))) (2 ^ (min (Int.toNat 1) (IntKind.bits .u64))))))
 apply bi h <;> intro h1 h
 ·
  have k1 := ka [(33, .d true), (38, .v (vi .u64 (Int.fdiv (IntKind.wrap .u64 (w6 (v1 + v2))) (2 ^ (min (Int.toNat 1) (IntKind.bits .u64))))))] (av h1 (apc q0 apn))
  apply bn h; intro x2 h2 h
  have q2 := ((idx_sl h2) : idxA 3 (.sl 2 a1 3 0 a2) (i6 (w6 (Int.fdiv (IntKind.wrap .u64 (w6 (v1 + v2))) (2 ^ (min (Int.toNat 1) (IntKind.bits .u64)))))) = some (.rp 2 a1 3 x2 0))
  apply bn h; intro x3 h3 h
  have q3 := ((ld_row rfl h3 rfl) : ldA (L66_4_d0 a1 a6 a7 a8 a9 a10) .true 3 (.rp 2 a1 3 x2 0) = some (aE x3))
  have k4 := k1.a [(43, .v (.rp 2 a1 3 x2 0)), (44, .v (aE x3))] (apc q2 (apc q3 apn))
  apply bn h; intro x4 h4 h
  have q5 := ((idx_sl h4) : idxA 3 (.sl 2 a1 3 0 a2) (i6 a3) = some (.rp 2 a1 3 x4 0))
  apply bn h; intro x5 h5 h
  have q6 := ((ld_row rfl h5 rfl) : ldA (L66_4_d0 a1 a6 a7 a8 a9 a10) .true 3 (.rp 2 a1 3 x4 0) = some (aE x5))
  have k7 := k4.a [(47, .v (.rp 2 a1 3 x4 0)), (48, .v (aE x5))] (apc q5 (apc q6 apn))
  apply bn h; intro r6 h6 h
  cases r6 with
  | k0 x6_0 x6_1 x6_2 =>
   have q8 := ((F44_3_ok x3 x5 a6 a7 a8 a9 a1 a10 h6) : CS prg 44 [aE x3, aE x5] (L66_4_d0 a1 a6 a7 a8 a9 a10) = some ((i6 x6_0), L66_4_d1 a1 a6 a7 a8 a9 a10 x3 x5 x6_1 x6_2))
   have k9 := k7.a [(49, .r (i6 x6_0) (L66_4_d1 a1 a6 a7 a8 a9 a10 x3 x5 x6_1 x6_2))] (apc q8 apn)
   apply bi h <;> intro h7 h
   ·
    rw [← sj h]
    exact rn ([(50, .d true), (6000, .d true)] ++ kH k9) (k9.b (av h7 (apc (L66_4_k a1 a2 a3 a6 a7 a8 a9 a10 (w6 ((w6 (Int.fdiv (IntKind.wrap .u64 (w6 (v1 + v2))) (2 ^ (min (Int.toNat 1) (IntKind.bits .u64))))) + 1)) v2) apn)))
   ·
    rw [← sj h]
    exact rn ([(50, .d false), (6000, .d true)] ++ kH k9) (k9.b (av h7 (apc (L66_4_k a1 a2 a3 a6 a7 a8 a9 a10 v1 (w6 (Int.fdiv (IntKind.wrap .u64 (w6 (v1 + v2))) (2 ^ (min (Int.toNat 1) (IntKind.bits .u64)))))) apn)))
 ·
  rw [← sj h]
  exact xb [(33, .d false), (6000, .d true)] (av h1 apn)
theorem L66_4_run (s0 : Int × Int) (e : E_L66_4) (h : runL (fun s => L66_4 a2 a3 a10 s.1 s.2) s0 = some e) : L66_4_x a1 a2 a3 a6 a7 a8 a9 a10 e (L66_4_e a1 a2 a3 a6 a7 a8 a9 a10 s0.1 s0.2) := by
  have q := @loop_sound' (Int × Int) E_L66_4 (fun s => L66_4 a2 a3 a10 s.1 s.2) (fun s => L66_4_e a1 a2 a3 a6 a7 a8 a9 a10 s.1 s.2) (L66_4_x a1 a2 a3 a6 a7 a8 a9 a10) (fun s r h => L66_4_ok a1 a2 a3 a6 a7 a8 a9 a10 s.1 s.2 h) s0 e h
  exact q
end
inductive E_L66_3 where
  | k0 (x0 : List EditD)
section
variable (a1 a2 : Nat) (a3 : Int) (a5 : Nat) (a6 : List EditD) (a7 : Nat) (a8 : List EditD)
abbrev L66_3_p (l : List AB) : List AB := yE a5 a6 :: yE a7 a8 :: l
def L66_3 (v1 : Int) (v2 : List EditD) : Option (E_L66_3 ⊕ (Int × (List EditD))) :=
  (bif (decide (v1 < (IntKind.wrap .i64 (a3 - 1)))) then ((ixN a2 (IntKind.wrap .i64 (v1 + 1))).bind fun x2 => ((v2[x2]?).bind fun x3 => ((ixN a2 v1).bind fun x4 => ((v2[x4]?).bind fun x5 => (((v2.set x4 (⟨x3.frm, x3.til, x3.text⟩ : EditD))[x2]?).bind fun x6 => (some (.inr ((IntKind.wrap .i64 (v1 + 1)), ((v2.set x4 (⟨x3.frm, x3.til, x3.text⟩ : EditD)).set x2 (⟨x5.frm, x5.til, x5.text⟩ : EditD)))))))))) else (some (.inl (.k0 v2))))
def L66_3_s (v1 : Int) (v2 : List EditD) : St := ⟨fr 220 ug [(0, .sl 2 a1 3 0 a2), (10, i6 a3), (13, i6 v1)], (L66_3_p a5 a6 a7 a8 [yE a1 v2])⟩
theorem L66_3_k (v1 : Int) (v2 : List EditD) : okT 3 (L66_3_s a1 a2 a3 a5 a6 a7 a8 v1 v2).h = true := (okT_of rfl (ar (ar (ar rfl))))
abbrev L66_3_e (v1 : Int) (v2 : List EditD) := evH prg 3 [0, 10, 13] ir66_l3 (L66_3_s a1 a2 a3 a5 a6 a7 a8 v1 v2)
def L66_3_x (e : E_L66_3) (r : Option (Out × St)) : Prop := match e with | .k0 x0 => ∃ g, r = some ((.brk 2), ⟨fr 220 g [(0, .sl 2 a1 3 0 a2), (10, i6 a3)], (L66_3_p a5 a6 a7 a8 [yE a1 x0])⟩)
abbrev L66_3_d0 (v2 : List EditD) (x4 : Nat) (x3 : EditD) : List AB := (L66_3_p a5 a6 a7 a8 [yE a1 (v2.set x4 (⟨x3.frm, x3.til, x3.text⟩ : EditD))])
abbrev L66_3_d1 (v2 : List EditD) (x4 : Nat) (x3 : EditD) (x2 : Nat) (x5 : EditD) : List AB := (L66_3_p a5 a6 a7 a8 [yE a1 ((v2.set x4 (⟨x3.frm, x3.til, x3.text⟩ : EditD)).set x2 (⟨x5.frm, x5.til, x5.text⟩ : EditD))])
abbrev L66_3_d2 (v2 : List EditD) : List AB := (L66_3_p a5 a6 a7 a8 [yE a1 v2])
theorem L66_3_ok (v1 : Int) (v2 : List EditD) {r : E_L66_3 ⊕ (Int × (List EditD))} (h : L66_3 a2 a3 v1 v2 = some r) : OkR (fun e => L66_3_x a1 a2 a3 a5 a6 a7 a8 e (L66_3_e a1 a2 a3 a5 a6 a7 a8 v1 v2)) (fun s => L66_3_e a1 a2 a3 a5 a6 a7 a8 v1 v2 = L66_3_e a1 a2 a3 a5 a6 a7 a8 s.1 s.2) r := by
 unfold L66_3 at h
 apply bi h <;> intro h1 h
 ·
  apply bn h; intro x2 h2 h
  have q0 := ((idx_sl h2) : idxA 3 (.sl 2 a1 3 0 a2) (i6 (w6 (v1 + 1))) = some (.rp 2 a1 3 x2 0))
  apply bn h; intro x3 h3 h
  apply bn h; intro x4 h4 h
  have q1 := ((idx_sl h4) : idxA 3 (.sl 2 a1 3 0 a2) (i6 v1) = some (.rp 2 a1 3 x4 0))
  apply bn h; intro x5 h5 h
  apply bn h; intro x6 h6 h
  rw [← sj h]
  exact rn [(58, .d true), (69, .v (.rp 2 a1 3 x2 0)), (70, .v (aE x3)), (73, .v (.rp 2 a1 3 x4 0)), (74, .v (aE x5)), (75, .v (.rp 2 a1 3 x4 0)), (1075, .r ud (L66_3_d0 a1 a5 a6 a7 a8 v2 x4 x3)), (76, .v (.rp 2 a1 3 x2 0)), (1076, .r ud (L66_3_d1 a1 a5 a6 a7 a8 v2 x4 x3 x2 x5)), (6000, .d true)] (av h1 (apc q0 (apc ((ld_row rfl h3 rfl) : ldA (L66_3_d2 a1 a5 a6 a7 a8 v2) .true 3 (.rp 2 a1 3 x2 0) = some (aE x3)) (apc q1 (apc ((ld_row rfl h5 rfl) : ldA (L66_3_d2 a1 a5 a6 a7 a8 v2) .true 3 (.rp 2 a1 3 x4 0) = some (aE x5)) (apc q1 (apc (⟨st_row (v' := (⟨x3.frm, x3.til, x3.text⟩ : EditD)) rfl h5 rfl rfl (Nat.le_of_ble_eq_true rfl) rfl, rfl⟩ : stA (L66_3_d2 a1 a5 a6 a7 a8 v2) 3 (.rp 2 a1 3 x4 0) (aE x3) = some (L66_3_d0 a1 a5 a6 a7 a8 v2 x4 x3) ∧ ud = ud) (apc q0 (apc (⟨st_row (v' := (⟨x5.frm, x5.til, x5.text⟩ : EditD)) rfl h6 rfl rfl (Nat.le_of_ble_eq_true rfl) rfl, rfl⟩ : stA (L66_3_d0 a1 a5 a6 a7 a8 v2 x4 x3) 3 (.rp 2 a1 3 x2 0) (aE x5) = some (L66_3_d1 a1 a5 a6 a7 a8 v2 x4 x3 x2 x5) ∧ ud = ud) (apc (L66_3_k a1 a2 a3 a5 a6 a7 a8 (w6 (v1 + 1)) ((v2.set x4 (⟨x3.frm, x3.til, x3.text⟩ : EditD)).set x2 (⟨x5.frm, x5.til, x5.text⟩ : EditD))) apn))))))))))
 ·
  rw [← sj h]
  exact xb [(58, .d false), (6000, .d true)] (av h1 apn)
theorem L66_3_run (s0 : Int × (List EditD)) (e : E_L66_3) (h : runL (fun s => L66_3 a2 a3 s.1 s.2) s0 = some e) : L66_3_x a1 a2 a3 a5 a6 a7 a8 e (L66_3_e a1 a2 a3 a5 a6 a7 a8 s0.1 s0.2) := by
  have q := @loop_sound' (Int × (List EditD)) E_L66_3 (fun s => L66_3 a2 a3 s.1 s.2) (fun s => L66_3_e a1 a2 a3 a5 a6 a7 a8 s.1 s.2) (L66_3_x a1 a2 a3 a5 a6 a7 a8) (fun s r h => L66_3_ok a1 a2 a3 a5 a6 a7 a8 s.1 s.2 h) s0 e h
  exact q
end
inductive E_L66_2 where
  | k0 (x0 : Int)
section
variable (a1 a2 : Nat) (a3 : Int) (a5 : Nat) (a6 : List EditD) (a7 : Nat) (a8 a9 : List EditD)
abbrev L66_2_p (l : List AB) : List AB := yE a5 a6 :: yE a7 a8 :: yE a1 a9 :: l
def L66_2 (v1 v2 : Int) : Option (E_L66_2 ⊕ (Int × Int)) :=
  (bif (decide (v1 < v2)) then ((ixN a2 a3).bind fun x2 => ((a9[x2]?).bind fun x3 => ((ixN a2 (IntKind.wrap .i64 (Int.fdiv (IntKind.wrap .u64 (IntKind.wrap .i64 (v1 + v2))) (2 ^ (min (Int.toNat 1) (IntKind.bits .u64)))))).bind fun x4 => ((a9[x4]?).bind fun x5 => ((F44_3 x3 x5).bind fun r6 => match r6 with | .k0 x6_0 x6_1 x6_2 => (bif (decide (x6_0 < 0)) then (some (.inr (v1, (IntKind.wrap .i64 (Int.fdiv (IntKind.wrap .u64 (IntKind.wrap .i64 (v1 + v2))) (2 ^ (min (Int.toNat 1) (IntKind.bits .u64)))))))) else (some (.inr ((IntKind.wrap .i64 ((IntKind.wrap .i64 (Int.fdiv (IntKind.wrap .u64 (IntKind.wrap .i64 (v1 + v2))) (2 ^ (min (Int.toNat 1) (IntKind.bits .u64))))) + 1)), v2))))))))) else (some (.inl (.k0 v1))))
def L66_2_s (v1 v2 : Int) : St := ⟨fr 220 ug [(0, .sl 2 a1 3 0 a2), (2, i6 a3), (4, (.fn 44 [])), (14, i6 v1), (15, i6 v2)], (L66_2_p a1 a5 a6 a7 a8 a9 [])⟩
theorem L66_2_k (v1 v2 : Int) : okT 3 (L66_2_s a1 a2 a3 a5 a6 a7 a8 a9 v1 v2).h = true := (okT_of rfl (ar (ar (ar rfl))))
abbrev L66_2_e (v1 v2 : Int) := evH prg 3 [0, 2, 4, 14, 15] ir66_l2 (L66_2_s a1 a2 a3 a5 a6 a7 a8 a9 v1 v2)
def L66_2_x (e : E_L66_2) (r : Option (Out × St)) : Prop := match e with | .k0 x0 => ∃ g, r = some ((.brk 4), ⟨fr 220 g [(0, .sl 2 a1 3 0 a2), (2, i6 a3), (4, (.fn 44 [])), (14, i6 x0)], (L66_2_p a1 a5 a6 a7 a8 a9 [])⟩)
abbrev L66_2_d0 : List AB := (L66_2_p a1 a5 a6 a7 a8 a9 [])
abbrev L66_2_d1 (x3 x5 : EditD) (x6_1 x6_2 : Int) : List AB := (L66_2_p a1 a5 a6 a7 a8 a9 [.cells 34 ((eEdit x3).map .p), .cells 34 ((eEdit x5).map .p), .row 3 1 0 [[i6 x6_1], [i6 x6_2]]])
theorem L66_2_ok (v1 v2 : Int) {r : E_L66_2 ⊕ (Int × Int)} (h : L66_2 a2 a3 a9 v1 v2 = some r) : OkR (fun e => L66_2_x a1 a2 a3 a5 a6 a7 a8 a9 e (L66_2_e a1 a2 a3 a5 a6 a7 a8 a9 v1 v2)) (fun s => L66_2_e a1 a2 a3 a5 a6 a7 a8 a9 v1 v2 = L66_2_e a1 a2 a3 a5 a6 a7 a8 a9 s.1 s.2) r := by
 unfold L66_2 at h
 have q0 := ((sh_shr (by decide)) : binA .shr (vi .u64 (IntKind.wrap .u64 (w6 (v1 + v2)))) (vi .u64 1) = some (vi .u64 (Int.fdiv (IntKind.wrap .u64 (w6 (v1 + v2))) (2 ^ (min (Int.toNat 1) (IntKind.bits .u64))))))
 apply bi h <;> intro h1 h
 ·
  have k1 := ka [(85, .d true), (90, .v (vi .u64 (Int.fdiv (IntKind.wrap .u64 (w6 (v1 + v2))) (2 ^ (min (Int.toNat 1) (IntKind.bits .u64))))))] (av h1 (apc q0 apn))
  apply bn h; intro x2 h2 h
  have q2 := ((idx_sl h2) : idxA 3 (.sl 2 a1 3 0 a2) (i6 a3) = some (.rp 2 a1 3 x2 0))
  apply bn h; intro x3 h3 h
  have q3 := ((ld_row rfl h3 rfl) : ldA (L66_2_d0 a1 a5 a6 a7 a8 a9) .true 3 (.rp 2 a1 3 x2 0) = some (aE x3))
  have k4 := k1.a [(95, .v (.rp 2 a1 3 x2 0)), (96, .v (aE x3))] (apc q2 (apc q3 apn))
  apply bn h; intro x4 h4 h
  have q5 := ((idx_sl h4) : idxA 3 (.sl 2 a1 3 0 a2) (i6 (w6 (Int.fdiv (IntKind.wrap .u64 (w6 (v1 + v2))) (2 ^ (min (Int.toNat 1) (IntKind.bits .u64)))))) = some (.rp 2 a1 3 x4 0))
  apply bn h; intro x5 h5 h
  have q6 := ((ld_row rfl h5 rfl) : ldA (L66_2_d0 a1 a5 a6 a7 a8 a9) .true 3 (.rp 2 a1 3 x4 0) = some (aE x5))
  have k7 := k4.a [(99, .v (.rp 2 a1 3 x4 0)), (100, .v (aE x5))] (apc q5 (apc q6 apn))
  apply bn h; intro r6 h6 h
  cases r6 with
  | k0 x6_0 x6_1 x6_2 =>
   have q8 := ((F44_3_ok x3 x5 a5 a6 a7 a8 a1 a9 h6) : CS prg 44 [aE x3, aE x5] (L66_2_d0 a1 a5 a6 a7 a8 a9) = some ((i6 x6_0), L66_2_d1 a1 a5 a6 a7 a8 a9 x3 x5 x6_1 x6_2))
   have k9 := k7.a [(101, .r (i6 x6_0) (L66_2_d1 a1 a5 a6 a7 a8 a9 x3 x5 x6_1 x6_2))] (apc q8 apn)
   apply bi h <;> intro h7 h
   ·
    rw [← sj h]
    exact rn ([(102, .d true), (6000, .d true)] ++ kH k9) (k9.b (av h7 (apc (L66_2_k a1 a2 a3 a5 a6 a7 a8 a9 v1 (w6 (Int.fdiv (IntKind.wrap .u64 (w6 (v1 + v2))) (2 ^ (min (Int.toNat 1) (IntKind.bits .u64)))))) apn)))
   ·
    rw [← sj h]
    exact rn ([(102, .d false), (6000, .d true)] ++ kH k9) (k9.b (av h7 (apc (L66_2_k a1 a2 a3 a5 a6 a7 a8 a9 (w6 ((w6 (Int.fdiv (IntKind.wrap .u64 (w6 (v1 + v2))) (2 ^ (min (Int.toNat 1) (IntKind.bits .u64))))) + 1)) v2) apn)))
 ·
  rw [← sj h]
  exact xb [(85, .d false), (6000, .d true)] (av h1 apn)
theorem L66_2_run (s0 : Int × Int) (e : E_L66_2) (h : runL (fun s => L66_2 a2 a3 a9 s.1 s.2) s0 = some e) : L66_2_x a1 a2 a3 a5 a6 a7 a8 a9 e (L66_2_e a1 a2 a3 a5 a6 a7 a8 a9 s0.1 s0.2) := by
  have q := @loop_sound' (Int × Int) E_L66_2 (fun s => L66_2 a2 a3 a9 s.1 s.2) (fun s => L66_2_e a1 a2 a3 a5 a6 a7 a8 a9 s.1 s.2) (L66_2_x a1 a2 a3 a5 a6 a7 a8 a9) (fun s r h => L66_2_ok a1 a2 a3 a5 a6 a7 a8 a9 s.1 s.2 h) s0 e h
  exact q
end
inductive E_L66_1 where
  | k0 (x0 : List EditD)
section
variable (a1 a2 : Nat) (a3 : Int) (a5 : Nat) (a6 : List EditD) (a7 : Nat) (a8 : List EditD)
abbrev L66_1_p (l : List AB) : List AB := yE a5 a6 :: yE a7 a8 :: l
def L66_1 (v1 : Int) (v2 : List EditD) : Option (E_L66_1 ⊕ (Int × (List EditD))) :=
  (bif (decide (v1 > a3)) then ((ixN a2 (IntKind.wrap .i64 (v1 - 1))).bind fun x2 => ((v2[x2]?).bind fun x3 => ((ixN a2 v1).bind fun x4 => ((v2[x4]?).bind fun x5 => (((v2.set x4 (⟨x3.frm, x3.til, x3.text⟩ : EditD))[x2]?).bind fun x6 => (some (.inr ((IntKind.wrap .i64 (v1 - 1)), ((v2.set x4 (⟨x3.frm, x3.til, x3.text⟩ : EditD)).set x2 (⟨x5.frm, x5.til, x5.text⟩ : EditD)))))))))) else (some (.inl (.k0 v2))))
def L66_1_s (v1 : Int) (v2 : List EditD) : St := ⟨fr 220 ug [(0, .sl 2 a1 3 0 a2), (14, i6 a3), (17, i6 v1)], (L66_1_p a5 a6 a7 a8 [yE a1 v2])⟩
theorem L66_1_k (v1 : Int) (v2 : List EditD) : okT 3 (L66_1_s a1 a2 a3 a5 a6 a7 a8 v1 v2).h = true := (okT_of rfl (ar (ar (ar rfl))))
abbrev L66_1_e (v1 : Int) (v2 : List EditD) := evH prg 3 [0, 14, 17] ir66_l1 (L66_1_s a1 a2 a3 a5 a6 a7 a8 v1 v2)
def L66_1_x (e : E_L66_1) (r : Option (Out × St)) : Prop := match e with | .k0 x0 => ∃ g, r = some ((.brk 6), ⟨fr 220 g [(0, .sl 2 a1 3 0 a2), (14, i6 a3)], (L66_1_p a5 a6 a7 a8 [yE a1 x0])⟩)
abbrev L66_1_d0 (v2 : List EditD) (x4 : Nat) (x3 : EditD) : List AB := (L66_1_p a5 a6 a7 a8 [yE a1 (v2.set x4 (⟨x3.frm, x3.til, x3.text⟩ : EditD))])
abbrev L66_1_d1 (v2 : List EditD) (x4 : Nat) (x3 : EditD) (x2 : Nat) (x5 : EditD) : List AB := (L66_1_p a5 a6 a7 a8 [yE a1 ((v2.set x4 (⟨x3.frm, x3.til, x3.text⟩ : EditD)).set x2 (⟨x5.frm, x5.til, x5.text⟩ : EditD))])
abbrev L66_1_d2 (v2 : List EditD) : List AB := (L66_1_p a5 a6 a7 a8 [yE a1 v2])
theorem L66_1_ok (v1 : Int) (v2 : List EditD) {r : E_L66_1 ⊕ (Int × (List EditD))} (h : L66_1 a2 a3 v1 v2 = some r) : OkR (fun e => L66_1_x a1 a2 a3 a5 a6 a7 a8 e (L66_1_e a1 a2 a3 a5 a6 a7 a8 v1 v2)) (fun s => L66_1_e a1 a2 a3 a5 a6 a7 a8 v1 v2 = L66_1_e a1 a2 a3 a5 a6 a7 a8 s.1 s.2) r := by
 unfold L66_1 at h
 apply bi h <;> intro h1 h
 ·
  apply bn h; intro x2 h2 h
  have q0 := ((idx_sl h2) : idxA 3 (.sl 2 a1 3 0 a2) (i6 (w6 (v1 - 1))) = some (.rp 2 a1 3 x2 0))
  apply bn h; intro x3 h3 h
  apply bn h; intro x4 h4 h
  have q1 := ((idx_sl h4) : idxA 3 (.sl 2 a1 3 0 a2) (i6 v1) = some (.rp 2 a1 3 x4 0))
  apply bn h; intro x5 h5 h
  apply bn h; intro x6 h6 h
  rw [← sj h]
  exact rn [(110, .d true), (121, .v (.rp 2 a1 3 x2 0)), (122, .v (aE x3)), (125, .v (.rp 2 a1 3 x4 0)), (126, .v (aE x5)), (127, .v (.rp 2 a1 3 x4 0)), (1127, .r ud (L66_1_d0 a1 a5 a6 a7 a8 v2 x4 x3)), (128, .v (.rp 2 a1 3 x2 0)), (1128, .r ud (L66_1_d1 a1 a5 a6 a7 a8 v2 x4 x3 x2 x5)), (6000, .d true)] (av h1 (apc q0 (apc ((ld_row rfl h3 rfl) : ldA (L66_1_d2 a1 a5 a6 a7 a8 v2) .true 3 (.rp 2 a1 3 x2 0) = some (aE x3)) (apc q1 (apc ((ld_row rfl h5 rfl) : ldA (L66_1_d2 a1 a5 a6 a7 a8 v2) .true 3 (.rp 2 a1 3 x4 0) = some (aE x5)) (apc q1 (apc (⟨st_row (v' := (⟨x3.frm, x3.til, x3.text⟩ : EditD)) rfl h5 rfl rfl (Nat.le_of_ble_eq_true rfl) rfl, rfl⟩ : stA (L66_1_d2 a1 a5 a6 a7 a8 v2) 3 (.rp 2 a1 3 x4 0) (aE x3) = some (L66_1_d0 a1 a5 a6 a7 a8 v2 x4 x3) ∧ ud = ud) (apc q0 (apc (⟨st_row (v' := (⟨x5.frm, x5.til, x5.text⟩ : EditD)) rfl h6 rfl rfl (Nat.le_of_ble_eq_true rfl) rfl, rfl⟩ : stA (L66_1_d0 a1 a5 a6 a7 a8 v2 x4 x3) 3 (.rp 2 a1 3 x2 0) (aE x5) = some (L66_1_d1 a1 a5 a6 a7 a8 v2 x4 x3 x2 x5) ∧ ud = ud) (apc (L66_1_k a1 a2 a3 a5 a6 a7 a8 (w6 (v1 - 1)) ((v2.set x4 (⟨x3.frm, x3.til, x3.text⟩ : EditD)).set x2 (⟨x5.frm, x5.til, x5.text⟩ : EditD))) apn))))))))))
 ·
  rw [← sj h]
  exact xb [(110, .d false), (6000, .d true)] (av h1 apn)
theorem L66_1_run (s0 : Int × (List EditD)) (e : E_L66_1) (h : runL (fun s => L66_1 a2 a3 s.1 s.2) s0 = some e) : L66_1_x a1 a2 a3 a5 a6 a7 a8 e (L66_1_e a1 a2 a3 a5 a6 a7 a8 s0.1 s0.2) := by
  have q := @loop_sound' (Int × (List EditD)) E_L66_1 (fun s => L66_1 a2 a3 s.1 s.2) (fun s => L66_1_e a1 a2 a3 a5 a6 a7 a8 s.1 s.2) (L66_1_x a1 a2 a3 a5 a6 a7 a8) (fun s r h => L66_1_ok a1 a2 a3 a5 a6 a7 a8 s.1 s.2 h) s0 e h
  exact q
end
inductive E_L66_0_2 where
  | k0 (x0 : Int)
section
variable (a1 a2 : Nat) (a3 a4 a5 a6 a7 a9 : Int) (a10 : Nat) (a11 : List EditD) (a12 : Nat) (a13 a14 : List EditD)
abbrev L66_0_2_p (l : List AB) : List AB := yE a10 a11 :: yE a12 a13 :: yE a1 a14 :: l
def L66_0_2 (v1 v2 : Int) : Option (E_L66_0_2 ⊕ (Int × Int)) :=
  (bif (decide (v1 < v2)) then ((ixN a2 (IntKind.wrap .i64 (a9 - (IntKind.wrap .i64 (Int.fdiv (IntKind.wrap .u64 (IntKind.wrap .i64 (v1 + v2))) (2 ^ (min (Int.toNat 1) (IntKind.bits .u64)))))))).bind fun x2 => ((a14[x2]?).bind fun x3 => ((ixN a2 (IntKind.wrap .i64 (Int.fdiv (IntKind.wrap .u64 (IntKind.wrap .i64 (v1 + v2))) (2 ^ (min (Int.toNat 1) (IntKind.bits .u64)))))).bind fun x4 => ((a14[x4]?).bind fun x5 => ((F44_3 x3 x5).bind fun r6 => match r6 with | .k0 x6_0 x6_1 x6_2 => (bif (decide (x6_0 < 0)) then (some (.inr (v1, (IntKind.wrap .i64 (Int.fdiv (IntKind.wrap .u64 (IntKind.wrap .i64 (v1 + v2))) (2 ^ (min (Int.toNat 1) (IntKind.bits .u64)))))))) else (some (.inr ((IntKind.wrap .i64 ((IntKind.wrap .i64 (Int.fdiv (IntKind.wrap .u64 (IntKind.wrap .i64 (v1 + v2))) (2 ^ (min (Int.toNat 1) (IntKind.bits .u64))))) + 1)), v2))))))))) else (some (.inl (.k0 v1))))
def L66_0_2_s (v1 v2 : Int) : St := ⟨fr 220 ug [(0, .sl 2 a1 3 0 a2), (1, i6 a3), (2, i6 a4), (3, i6 a5), (4, (.fn 44 [])), (18, i6 a6), (19, i6 a7), (20, i6 v1), (21, i6 v2), (22, i6 a9)], (L66_0_2_p a1 a10 a11 a12 a13 a14 [])⟩
theorem L66_0_2_k (v1 v2 : Int) : okT 3 (L66_0_2_s a1 a2 a3 a4 a5 a6 a7 a9 a10 a11 a12 a13 a14 v1 v2).h = true := (okT_of rfl (ar (ar (ar rfl))))
abbrev L66_0_2_e (v1 v2 : Int) := evH prg 3 [0, 1, 2, 3, 4, 18, 19, 20, 21, 22] ir66_l0 (L66_0_2_s a1 a2 a3 a4 a5 a6 a7 a9 a10 a11 a12 a13 a14 v1 v2)
def L66_0_2_x (e : E_L66_0_2) (r : Option (Out × St)) : Prop := match e with | .k0 x0 => ∃ g, r = some ((.brk 8), ⟨fr 220 g [(0, .sl 2 a1 3 0 a2), (1, i6 a3), (2, i6 a4), (3, i6 a5), (4, (.fn 44 [])), (18, i6 a6), (19, i6 a7), (20, i6 x0)], (L66_0_2_p a1 a10 a11 a12 a13 a14 [])⟩)
abbrev L66_0_2_d0 : List AB := (L66_0_2_p a1 a10 a11 a12 a13 a14 [])
abbrev L66_0_2_d1 (x3 x5 : EditD) (x6_1 x6_2 : Int) : List AB := (L66_0_2_p a1 a10 a11 a12 a13 a14 [.cells 34 ((eEdit x3).map .p), .cells 34 ((eEdit x5).map .p), .row 3 1 0 [[i6 x6_1], [i6 x6_2]]])
theorem L66_0_2_ok (v1 v2 : Int) {r : E_L66_0_2 ⊕ (Int × Int)} (h : L66_0_2 a2 a9 a14 v1 v2 = some r) : OkR (fun e => L66_0_2_x a1 a2 a3 a4 a5 a6 a7 a10 a11 a12 a13 a14 e (L66_0_2_e a1 a2 a3 a4 a5 a6 a7 a9 a10 a11 a12 a13 a14 v1 v2)) (fun s => L66_0_2_e a1 a2 a3 a4 a5 a6 a7 a9 a10 a11 a12 a13 a14 v1 v2 = L66_0_2_e a1 a2 a3 a4 a5 a6 a7 a9 a10 a11 a12 a13 a14 s.1 s.2) r := by
 unfold L66_0_2 at h
 have q0 := ((sh_shr (by decide)) : binA .shr (vi .u64 (IntKind.wrap .u64 (w6 (v1 + v2)))) (vi .u64 1) = some (vi .u64 (Int.fdiv (IntKind.wrap .u64 (w6 (v1 + v2))) (2 ^ (min (Int.toNat 1) (IntKind.bits .u64))))))
 apply bi h <;> intro h1 h
 ·
  have k1 := ka [(151, .d true), (156, .v (vi .u64 (Int.fdiv (IntKind.wrap .u64 (w6 (v1 + v2))) (2 ^ (min (Int.toNat 1) (IntKind.bits .u64))))))] (av h1 (apc q0 apn))
  apply bn h; intro x2 h2 h
  have q2 := ((idx_sl h2) : idxA 3 (.sl 2 a1 3 0 a2) (i6 (w6 (a9 - (w6 (Int.fdiv (IntKind.wrap .u64 (w6 (v1 + v2))) (2 ^ (min (Int.toNat 1) (IntKind.bits .u64)))))))) = some (.rp 2 a1 3 x2 0))
  apply bn h; intro x3 h3 h
  have q3 := ((ld_row rfl h3 rfl) : ldA (L66_0_2_d0 a1 a10 a11 a12 a13 a14) .true 3 (.rp 2 a1 3 x2 0) = some (aE x3))
  have k4 := k1.a [(163, .v (.rp 2 a1 3 x2 0)), (164, .v (aE x3))] (apc q2 (apc q3 apn))
  apply bn h; intro x4 h4 h
  have q5 := ((idx_sl h4) : idxA 3 (.sl 2 a1 3 0 a2) (i6 (w6 (Int.fdiv (IntKind.wrap .u64 (w6 (v1 + v2))) (2 ^ (min (Int.toNat 1) (IntKind.bits .u64)))))) = some (.rp 2 a1 3 x4 0))
  apply bn h; intro x5 h5 h
  have q6 := ((ld_row rfl h5 rfl) : ldA (L66_0_2_d0 a1 a10 a11 a12 a13 a14) .true 3 (.rp 2 a1 3 x4 0) = some (aE x5))
  have k7 := k4.a [(167, .v (.rp 2 a1 3 x4 0)), (168, .v (aE x5))] (apc q5 (apc q6 apn))
  apply bn h; intro r6 h6 h
  cases r6 with
  | k0 x6_0 x6_1 x6_2 =>
   have q8 := ((F44_3_ok x3 x5 a10 a11 a12 a13 a1 a14 h6) : CS prg 44 [aE x3, aE x5] (L66_0_2_d0 a1 a10 a11 a12 a13 a14) = some ((i6 x6_0), L66_0_2_d1 a1 a10 a11 a12 a13 a14 x3 x5 x6_1 x6_2))
   have k9 := k7.a [(169, .r (i6 x6_0) (L66_0_2_d1 a1 a10 a11 a12 a13 a14 x3 x5 x6_1 x6_2))] (apc q8 apn)
   apply bi h <;> intro h7 h
   ·
    rw [← sj h]
    exact rn ([(170, .d true), (6000, .d true)] ++ kH k9) (k9.b (av h7 (apc (L66_0_2_k a1 a2 a3 a4 a5 a6 a7 a9 a10 a11 a12 a13 a14 v1 (w6 (Int.fdiv (IntKind.wrap .u64 (w6 (v1 + v2))) (2 ^ (min (Int.toNat 1) (IntKind.bits .u64)))))) apn)))
   ·
    rw [← sj h]
    exact rn ([(170, .d false), (6000, .d true)] ++ kH k9) (k9.b (av h7 (apc (L66_0_2_k a1 a2 a3 a4 a5 a6 a7 a9 a10 a11 a12 a13 a14 (w6 ((w6 (Int.fdiv (IntKind.wrap .u64 (w6 (v1 + v2))) (2 ^ (min (Int.toNat 1) (IntKind.bits .u64))))) + 1)) v2) apn)))
 ·
  rw [← sj h]
  exact xb [(151, .d false), (6000, .d true)] (av h1 apn)
theorem L66_0_2_run (s0 : Int × Int) (e : E_L66_0_2) (h : runL (fun s => L66_0_2 a2 a9 a14 s.1 s.2) s0 = some e) : L66_0_2_x a1 a2 a3 a4 a5 a6 a7 a10 a11 a12 a13 a14 e (L66_0_2_e a1 a2 a3 a4 a5 a6 a7 a9 a10 a11 a12 a13 a14 s0.1 s0.2) := by
  have q := @loop_sound' (Int × Int) E_L66_0_2 (fun s => L66_0_2 a2 a9 a14 s.1 s.2) (fun s => L66_0_2_e a1 a2 a3 a4 a5 a6 a7 a9 a10 a11 a12 a13 a14 s.1 s.2) (L66_0_2_x a1 a2 a3 a4 a5 a6 a7 a10 a11 a12 a13 a14) (fun s r h => L66_0_2_ok a1 a2 a3 a4 a5 a6 a7 a9 a10 a11 a12 a13 a14 s.1 s.2 h) s0 e h
  exact q
end
inductive E_L71_0_3 where
  | k0 (x0 : List EditD)
section
variable (a1 a2 : Nat) (a3 a4 a5 : Int) (a6 : Nat) (a7 : List EditD) (a8 : Nat) (a9 : List EditD)
def L71_0_3 (v1 : Int) (v2 : List EditD) : Option (E_L71_0_3 ⊕ (Int × (List EditD))) :=
  (bif (decide (v1 < a5)) then ((ixN a2 (IntKind.wrap .i64 (a4 + v1))).bind fun x2 => ((v2[x2]?).bind fun x3 => ((ixN a2 (IntKind.wrap .i64 (a3 + v1))).bind fun x4 => ((v2[x4]?).bind fun x5 => (((v2.set x4 (⟨x3.frm, x3.til, x3.text⟩ : EditD))[x2]?).bind fun x6 => (some (.inr ((IntKind.wrap .i64 (v1 + 1)), ((v2.set x4 (⟨x3.frm, x3.til, x3.text⟩ : EditD)).set x2 (⟨x5.frm, x5.til, x5.text⟩ : EditD)))))))))) else (some (.inl (.k0 v2))))
def L71_0_3_s (v1 : Int) (v2 : List EditD) : St := ⟨fr 38 ug [(0, .sl 2 a1 3 0 a2), (1, i6 a3), (2, i6 a4), (3, i6 a5), (10, i6 v1)], [yE a6 a7, yE a8 a9, yE a1 v2]⟩
theorem L71_0_3_k (v1 : Int) (v2 : List EditD) : okT 3 (L71_0_3_s a1 a2 a3 a4 a5 a6 a7 a8 a9 v1 v2).h = true := (okT_of rfl (ar (ar (ar rfl))))
abbrev L71_0_3_e (v1 : Int) (v2 : List EditD) := evH prg 3 [0, 1, 2, 3, 10] ir71_l0 (L71_0_3_s a1 a2 a3 a4 a5 a6 a7 a8 a9 v1 v2)
def L71_0_3_x (e : E_L71_0_3) (r : Option (Out × St)) : Prop := match e with | .k0 x0 => ∃ g, r = some ((.brk 0), ⟨fr 38 g [], [yE a6 a7, yE a8 a9, yE a1 x0]⟩)
abbrev L71_0_3_d0 (v2 : List EditD) (x4 : Nat) (x3 : EditD) : List AB := [yE a6 a7, yE a8 a9, yE a1 (v2.set x4 (⟨x3.frm, x3.til, x3.text⟩ : EditD))]
abbrev L71_0_3_d1 (v2 : List EditD) (x4 : Nat) (x3 : EditD) (x2 : Nat) (x5 : EditD) : List AB := [yE a6 a7, yE a8 a9, yE a1 ((v2.set x4 (⟨x3.frm, x3.til, x3.text⟩ : EditD)).set x2 (⟨x5.frm, x5.til, x5.text⟩ : EditD))]
abbrev L71_0_3_d2 (v2 : List EditD) : List AB := [yE a6 a7, yE a8 a9, yE a1 v2]
theorem L71_0_3_ok (v1 : Int) (v2 : List EditD) {r : E_L71_0_3 ⊕ (Int × (List EditD))} (h : L71_0_3 a2 a3 a4 a5 v1 v2 = some r) : OkR (fun e => L71_0_3_x a1 a6 a7 a8 a9 e (L71_0_3_e a1 a2 a3 a4 a5 a6 a7 a8 a9 v1 v2)) (fun s => L71_0_3_e a1 a2 a3 a4 a5 a6 a7 a8 a9 v1 v2 = L71_0_3_e a1 a2 a3 a4 a5 a6 a7 a8 a9 s.1 s.2) r := by
 unfold L71_0_3 at h
 apply bi h <;> intro h1 h
 ·
  apply bn h; intro x2 h2 h
  have q0 := ((idx_sl h2) : idxA 3 (.sl 2 a1 3 0 a2) (i6 (w6 (a4 + v1))) = some (.rp 2 a1 3 x2 0))
  apply bn h; intro x3 h3 h
  apply bn h; intro x4 h4 h
  have q1 := ((idx_sl h4) : idxA 3 (.sl 2 a1 3 0 a2) (i6 (w6 (a3 + v1))) = some (.rp 2 a1 3 x4 0))
  apply bn h; intro x5 h5 h
  apply bn h; intro x6 h6 h
  rw [← sj h]
  exact rn [(13, .d true), (28, .v (.rp 2 a1 3 x2 0)), (29, .v (aE x3)), (34, .v (.rp 2 a1 3 x4 0)), (35, .v (aE x5)), (36, .v (.rp 2 a1 3 x4 0)), (1036, .r ud (L71_0_3_d0 a1 a6 a7 a8 a9 v2 x4 x3)), (37, .v (.rp 2 a1 3 x2 0)), (1037, .r ud (L71_0_3_d1 a1 a6 a7 a8 a9 v2 x4 x3 x2 x5)), (6000, .d true)] (av h1 (apc q0 (apc ((ld_row rfl h3 rfl) : ldA (L71_0_3_d2 a1 a6 a7 a8 a9 v2) .true 3 (.rp 2 a1 3 x2 0) = some (aE x3)) (apc q1 (apc ((ld_row rfl h5 rfl) : ldA (L71_0_3_d2 a1 a6 a7 a8 a9 v2) .true 3 (.rp 2 a1 3 x4 0) = some (aE x5)) (apc q1 (apc (⟨st_row (v' := (⟨x3.frm, x3.til, x3.text⟩ : EditD)) rfl h5 rfl rfl (Nat.le_of_ble_eq_true rfl) rfl, rfl⟩ : stA (L71_0_3_d2 a1 a6 a7 a8 a9 v2) 3 (.rp 2 a1 3 x4 0) (aE x3) = some (L71_0_3_d0 a1 a6 a7 a8 a9 v2 x4 x3) ∧ ud = ud) (apc q0 (apc (⟨st_row (v' := (⟨x5.frm, x5.til, x5.text⟩ : EditD)) rfl h6 rfl rfl (Nat.le_of_ble_eq_true rfl) rfl, rfl⟩ : stA (L71_0_3_d0 a1 a6 a7 a8 a9 v2 x4 x3) 3 (.rp 2 a1 3 x2 0) (aE x5) = some (L71_0_3_d1 a1 a6 a7 a8 a9 v2 x4 x3 x2 x5) ∧ ud = ud) (apc (L71_0_3_k a1 a2 a3 a4 a5 a6 a7 a8 a9 (w6 (v1 + 1)) ((v2.set x4 (⟨x3.frm, x3.til, x3.text⟩ : EditD)).set x2 (⟨x5.frm, x5.til, x5.text⟩ : EditD))) apn))))))))))
 ·
  rw [← sj h]
  exact xb [(13, .d false), (6000, .d true)] (av h1 apn)
theorem L71_0_3_run (s0 : Int × (List EditD)) (e : E_L71_0_3) (h : runL (fun s => L71_0_3 a2 a3 a4 a5 s.1 s.2) s0 = some e) : L71_0_3_x a1 a6 a7 a8 a9 e (L71_0_3_e a1 a2 a3 a4 a5 a6 a7 a8 a9 s0.1 s0.2) := by
  have q := @loop_sound' (Int × (List EditD)) E_L71_0_3 (fun s => L71_0_3 a2 a3 a4 a5 s.1 s.2) (fun s => L71_0_3_e a1 a2 a3 a4 a5 a6 a7 a8 a9 s.1 s.2) (L71_0_3_x a1 a6 a7 a8 a9) (fun s r h => L71_0_3_ok a1 a2 a3 a4 a5 a6 a7 a8 a9 s.1 s.2 h) s0 e h
  exact q
end
def F71_3_v (a1 a2 : Nat) (a3 a4 a5 : Int) (a6 : Nat) (a7 : List EditD) (a8 : Nat) (a9 a10 : List EditD) (x0 : (List EditD)) : AV := (.tup [])
def F71_3_h (a1 a2 : Nat) (a3 a4 a5 : Int) (a6 : Nat) (a7 : List EditD) (a8 : Nat) (a9 a10 : List EditD) (x0 : (List EditD)) : List AB := [yE a6 a7, yE a8 a9, yE a1 x0]
def F71_3 (a2 : Nat) (a3 a4 a5 : Int) (a10 : List EditD) : Option (List EditD) :=
  ((runL (fun s => L71_0_3 a2 a3 a4 a5 s.1 s.2) (0, a10)).bind fun r1 => match r1 with | .k0 x1_0 => (some x1_0))
abbrev F71_3_d0 (g1 : Nat → AV) (a6 : Nat) (a7 : List EditD) (a8 : Nat) (a9 : List EditD) (a1 : Nat) (x1_0 : List EditD) : St := ⟨fr 38 g1 [], [yE a6 a7, yE a8 a9, yE a1 x1_0]⟩
theorem F71_3_ok (a1 a2 : Nat) (a3 a4 a5 : Int) (a6 : Nat) (a7 : List EditD) (a8 : Nat) (a9 a10 : List EditD) {r : (List EditD)} (h : F71_3 a2 a3 a4 a5 a10 = some r) : CS prg 71 [.sl 2 a1 3 0 a2, i6 a3, i6 a4, i6 a5, (.fn 44 [])] [yE a6 a7, yE a8 a9, yE a1 a10] = some (F71_3_v a1 a2 a3 a4 a5 a6 a7 a8 a9 a10 r, F71_3_h a1 a2 a3 a4 a5 a6 a7 a8 a9 a10 r) := by
 unfold F71_3 at h
 apply bn h; intro r1 h1 h
 cases r1 with
 | k0 x1_0 =>
  obtain ⟨g1, e1⟩ := L71_0_3_run a1 a2 a3 a4 a5 a6 a7 a8 a9 (0, a10) _ h1
  rw [← sj h]
  exact fc [(2000, .l (.brk 0) (F71_3_d0 g1 a6 a7 a8 a9 a1 x1_0)), (6000, .d true)] (apc (L71_0_3_k a1 a2 a3 a4 a5 a6 a7 a8 a9 0 a10) (apc (e1 : L71_0_3_e a1 a2 a3 a4 a5 a6 a7 a8 a9 0 a10 = some ((.brk 0), F71_3_d0 g1 a6 a7 a8 a9 a1 x1_0)) apn))
inductive E_L70_0_2 where
  | k0 (x0 : Int) (x1 : List EditD)
section
variable (a1 a2 : Nat) (a3 : Int) (a6 : Nat) (a7 : List EditD) (a8 : Nat) (a9 : List EditD)
def L70_0_2 (v1 v2 : Int) (v3 : List EditD) : Option (E_L70_0_2 ⊕ (Int × Int × (List EditD))) :=
  (bif (v1 != v2) then (bif (decide (v1 > v2)) then ((F71_3 a2 (IntKind.wrap .i64 (a3 - v1)) a3 v2 v3).bind fun x3 => (some (.inr ((IntKind.wrap .i64 (v1 - v2)), v2, x3)))) else ((F71_3 a2 (IntKind.wrap .i64 (a3 - v1)) (IntKind.wrap .i64 ((IntKind.wrap .i64 (a3 + v2)) - v1)) v1 v3).bind fun x3 => (some (.inr (v1, (IntKind.wrap .i64 (v2 - v1)), x3))))) else (some (.inl (.k0 v1 v3))))
def L70_0_2_s (v1 v2 : Int) (v3 : List EditD) : St := ⟨fr 58 ug [(0, .sl 2 a1 3 0 a2), (2, i6 a3), (4, (.fn 44 [])), (10, i6 v1), (11, i6 v2)], [yE a6 a7, yE a8 a9, yE a1 v3]⟩
theorem L70_0_2_k (v1 v2 : Int) (v3 : List EditD) : okT 3 (L70_0_2_s a1 a2 a3 a6 a7 a8 a9 v1 v2 v3).h = true := (okT_of rfl (ar (ar (ar rfl))))
abbrev L70_0_2_e (v1 v2 : Int) (v3 : List EditD) := evH prg 3 [0, 2, 4, 10, 11] ir70_l0 (L70_0_2_s a1 a2 a3 a6 a7 a8 a9 v1 v2 v3)
def L70_0_2_x (e : E_L70_0_2) (r : Option (Out × St)) : Prop := match e with | .k0 x0 x1 => ∃ g, r = some ((.brk 0), ⟨fr 58 g [(0, .sl 2 a1 3 0 a2), (2, i6 a3), (4, (.fn 44 [])), (10, i6 x0)], [yE a6 a7, yE a8 a9, yE a1 x1]⟩)
abbrev L70_0_2_d0 (x3 : List EditD) : List AB := [yE a6 a7, yE a8 a9, yE a1 x3]
abbrev L70_0_2_d1 (v3 : List EditD) : List AB := [yE a6 a7, yE a8 a9, yE a1 v3]
theorem L70_0_2_ok (v1 v2 : Int) (v3 : List EditD) {r : E_L70_0_2 ⊕ (Int × Int × (List EditD))} (h : L70_0_2 a2 a3 v1 v2 v3 = some r) : OkR (fun e => L70_0_2_x a1 a2 a3 a6 a7 a8 a9 e (L70_0_2_e a1 a2 a3 a6 a7 a8 a9 v1 v2 v3)) (fun s => L70_0_2_e a1 a2 a3 a6 a7 a8 a9 v1 v2 v3 = L70_0_2_e a1 a2 a3 a6 a7 a8 a9 s.1 s.2.1 s.2.2) r := by
 unfold L70_0_2 at h
 apply bi h <;> intro h1 h
 ·
  apply bi h <;> intro h2 h
  ·
   apply bn h; intro x3 h3 h
   rw [← sj h]
   exact rn [(20, .d true), (23, .d true), (31, .r (.tup []) (L70_0_2_d0 a1 a6 a7 a8 a9 x3)), (6000, .d true)] (av h1 (av h2 (apc ((F71_3_ok a1 a2 (w6 (a3 - v1)) a3 v2 a6 a7 a8 a9 v3 h3) : CS prg 71 [.sl 2 a1 3 0 a2, (i6 (w6 (a3 - v1))), i6 a3, i6 v2, (.fn 44 [])] (L70_0_2_d1 a1 a6 a7 a8 a9 v3) = some ((.tup []), L70_0_2_d0 a1 a6 a7 a8 a9 x3)) (apc (L70_0_2_k a1 a2 a3 a6 a7 a8 a9 (w6 (v1 - v2)) v2 x3) apn))))
  ·
   apply bn h; intro x3 h3 h
   rw [← sj h]
   exact rn [(20, .d true), (23, .d false), (46, .r (.tup []) (L70_0_2_d0 a1 a6 a7 a8 a9 x3)), (6000, .d true)] (av h1 (av h2 (apc ((F71_3_ok a1 a2 (w6 (a3 - v1)) (w6 ((w6 (a3 + v2)) - v1)) v1 a6 a7 a8 a9 v3 h3) : CS prg 71 [.sl 2 a1 3 0 a2, (i6 (w6 (a3 - v1))), (i6 (w6 ((w6 (a3 + v2)) - v1))), i6 v1, (.fn 44 [])] (L70_0_2_d1 a1 a6 a7 a8 a9 v3) = some ((.tup []), L70_0_2_d0 a1 a6 a7 a8 a9 x3)) (apc (L70_0_2_k a1 a2 a3 a6 a7 a8 a9 v1 (w6 (v2 - v1)) x3) apn))))
 ·
  rw [← sj h]
  exact xb [(20, .d false), (6000, .d true)] (av h1 apn)
theorem L70_0_2_run (s0 : Int × Int × (List EditD)) (e : E_L70_0_2) (h : runL (fun s => L70_0_2 a2 a3 s.1 s.2.1 s.2.2) s0 = some e) : L70_0_2_x a1 a2 a3 a6 a7 a8 a9 e (L70_0_2_e a1 a2 a3 a6 a7 a8 a9 s0.1 s0.2.1 s0.2.2) := by
  have q := @loop_sound' (Int × Int × (List EditD)) E_L70_0_2 (fun s => L70_0_2 a2 a3 s.1 s.2.1 s.2.2) (fun s => L70_0_2_e a1 a2 a3 a6 a7 a8 a9 s.1 s.2.1 s.2.2) (L70_0_2_x a1 a2 a3 a6 a7 a8 a9) (fun s r h => L70_0_2_ok a1 a2 a3 a6 a7 a8 a9 s.1 s.2.1 s.2.2 h) s0 e h
  exact q
end
def F70_2_v (a1 a2 : Nat) (a3 a4 a5 : Int) (a6 : Nat) (a7 : List EditD) (a8 : Nat) (a9 a10 : List EditD) (x0 : (List EditD)) : AV := (.tup [])
def F70_2_h (a1 a2 : Nat) (a3 a4 a5 : Int) (a6 : Nat) (a7 : List EditD) (a8 : Nat) (a9 a10 : List EditD) (x0 : (List EditD)) : List AB := [yE a6 a7, yE a8 a9, yE a1 x0]
def F70_2 (a2 : Nat) (a3 a4 a5 : Int) (a10 : List EditD) : Option (List EditD) :=
  ((runL (fun s => L70_0_2 a2 a4 s.1 s.2.1 s.2.2) ((IntKind.wrap .i64 (a4 - a3)), (IntKind.wrap .i64 (a5 - a4)), a10)).bind fun r1 => match r1 with | .k0 x1_0 x1_1 => ((F71_3 a2 (IntKind.wrap .i64 (a4 - x1_0)) a4 x1_0 x1_1).bind fun x2 => (some x2)))
abbrev F70_2_d0 (g1 : Nat → AV) (a1 a2 : Nat) (a4 x1_0 : Int) (a6 : Nat) (a7 : List EditD) (a8 : Nat) (a9 x1_1 : List EditD) : St := ⟨fr 58 g1 [(0, .sl 2 a1 3 0 a2), (2, i6 a4), (4, (.fn 44 [])), (10, i6 x1_0)], [yE a6 a7, yE a8 a9, yE a1 x1_1]⟩
abbrev F70_2_d1 (a6 : Nat) (a7 : List EditD) (a8 : Nat) (a9 : List EditD) (a1 : Nat) (x2 : List EditD) : List AB := [yE a6 a7, yE a8 a9, yE a1 x2]
theorem F70_2_ok (a1 a2 : Nat) (a3 a4 a5 : Int) (a6 : Nat) (a7 : List EditD) (a8 : Nat) (a9 a10 : List EditD) {r : (List EditD)} (h : F70_2 a2 a3 a4 a5 a10 = some r) : CS prg 70 [.sl 2 a1 3 0 a2, i6 a3, i6 a4, i6 a5, (.fn 44 [])] [yE a6 a7, yE a8 a9, yE a1 a10] = some (F70_2_v a1 a2 a3 a4 a5 a6 a7 a8 a9 a10 r, F70_2_h a1 a2 a3 a4 a5 a6 a7 a8 a9 a10 r) := by
 unfold F70_2 at h
 apply bn h; intro r1 h1 h
 cases r1 with
 | k0 x1_0 x1_1 =>
  obtain ⟨g1, e1⟩ := L70_0_2_run a1 a2 a4 a6 a7 a8 a9 ((w6 (a4 - a3)), (w6 (a5 - a4)), a10) _ h1
  apply bn h; intro x2 h2 h
  rw [← sj h]
  exact fc [(2000, .l (.brk 0) (F70_2_d0 g1 a1 a2 a4 x1_0 a6 a7 a8 a9 x1_1)), (57, .r (.tup []) (F70_2_d1 a6 a7 a8 a9 a1 x2)), (6000, .d true)] (apc (L70_0_2_k a1 a2 a4 a6 a7 a8 a9 (w6 (a4 - a3)) (w6 (a5 - a4)) a10) (apc (e1 : L70_0_2_e a1 a2 a4 a6 a7 a8 a9 (w6 (a4 - a3)) (w6 (a5 - a4)) a10 = some ((.brk 0), F70_2_d0 g1 a1 a2 a4 x1_0 a6 a7 a8 a9 x1_1)) (apc ((F71_3_ok a1 a2 (w6 (a4 - x1_0)) a4 x1_0 a6 a7 a8 a9 x1_1 h2) : CS prg 71 [.sl 2 a1 3 0 a2, (i6 (w6 (a4 - x1_0))), i6 a4, i6 x1_0, (.fn 44 [])] [yE a6 a7, yE a8 a9, yE a1 x1_1] = some ((.tup []), F70_2_d1 a6 a7 a8 a9 a1 x2)) apn)))
inductive E_L66_0_3 where
  | k0 (x0 : Int)
section
variable (a1 a2 : Nat) (a3 a4 a5 a6 a7 a8 : Int) (a9 : Nat) (a10 : List EditD) (a11 : Nat) (a12 a13 : List EditD)
abbrev L66_0_3_p (l : List AB) : List AB := yE a9 a10 :: yE a11 a12 :: yE a1 a13 :: l
def L66_0_3 (v1 v2 : Int) : Option (E_L66_0_3 ⊕ (Int × Int)) :=
  (bif (decide (v1 < v2)) then ((ixN a2 (IntKind.wrap .i64 (a8 - (IntKind.wrap .i64 (Int.fdiv (IntKind.wrap .u64 (IntKind.wrap .i64 (v1 + v2))) (2 ^ (min (Int.toNat 1) (IntKind.bits .u64)))))))).bind fun x2 => ((a13[x2]?).bind fun x3 => ((ixN a2 (IntKind.wrap .i64 (Int.fdiv (IntKind.wrap .u64 (IntKind.wrap .i64 (v1 + v2))) (2 ^ (min (Int.toNat 1) (IntKind.bits .u64)))))).bind fun x4 => ((a13[x4]?).bind fun x5 => ((F44_3 x3 x5).bind fun r6 => match r6 with | .k0 x6_0 x6_1 x6_2 => (bif (decide (x6_0 < 0)) then (some (.inr (v1, (IntKind.wrap .i64 (Int.fdiv (IntKind.wrap .u64 (IntKind.wrap .i64 (v1 + v2))) (2 ^ (min (Int.toNat 1) (IntKind.bits .u64)))))))) else (some (.inr ((IntKind.wrap .i64 ((IntKind.wrap .i64 (Int.fdiv (IntKind.wrap .u64 (IntKind.wrap .i64 (v1 + v2))) (2 ^ (min (Int.toNat 1) (IntKind.bits .u64))))) + 1)), v2))))))))) else (some (.inl (.k0 v1))))
def L66_0_3_s (v1 v2 : Int) : St := ⟨fr 220 ug [(0, .sl 2 a1 3 0 a2), (1, i6 a3), (2, i6 a4), (3, i6 a5), (4, (.fn 44 [])), (18, i6 a6), (19, i6 a7), (20, i6 v1), (21, i6 v2), (22, i6 a8)], (L66_0_3_p a1 a9 a10 a11 a12 a13 [])⟩
theorem L66_0_3_k (v1 v2 : Int) : okT 3 (L66_0_3_s a1 a2 a3 a4 a5 a6 a7 a8 a9 a10 a11 a12 a13 v1 v2).h = true := (okT_of rfl (ar (ar (ar rfl))))
abbrev L66_0_3_e (v1 v2 : Int) := evH prg 3 [0, 1, 2, 3, 4, 18, 19, 20, 21, 22] ir66_l0 (L66_0_3_s a1 a2 a3 a4 a5 a6 a7 a8 a9 a10 a11 a12 a13 v1 v2)
def L66_0_3_x (e : E_L66_0_3) (r : Option (Out × St)) : Prop := match e with | .k0 x0 => ∃ g, r = some ((.brk 8), ⟨fr 220 g [(0, .sl 2 a1 3 0 a2), (1, i6 a3), (2, i6 a4), (3, i6 a5), (4, (.fn 44 [])), (18, i6 a6), (19, i6 a7), (20, i6 x0)], (L66_0_3_p a1 a9 a10 a11 a12 a13 [])⟩)
abbrev L66_0_3_d0 : List AB := (L66_0_3_p a1 a9 a10 a11 a12 a13 [])
abbrev L66_0_3_d1 (x3 x5 : EditD) (x6_1 x6_2 : Int) : List AB := (L66_0_3_p a1 a9 a10 a11 a12 a13 [.cells 34 ((eEdit x3).map .p), .cells 34 ((eEdit x5).map .p), .row 3 1 0 [[i6 x6_1], [i6 x6_2]]])
theorem L66_0_3_ok (v1 v2 : Int) {r : E_L66_0_3 ⊕ (Int × Int)} (h : L66_0_3 a2 a8 a13 v1 v2 = some r) : OkR (fun e => L66_0_3_x a1 a2 a3 a4 a5 a6 a7 a9 a10 a11 a12 a13 e (L66_0_3_e a1 a2 a3 a4 a5 a6 a7 a8 a9 a10 a11 a12 a13 v1 v2)) (fun s => L66_0_3_e a1 a2 a3 a4 a5 a6 a7 a8 a9 a10 a11 a12 a13 v1 v2 = L66_0_3_e a1 a2 a3 a4 a5 a6 a7 a8 a9 a10 a11 a12 a13 s.1 s.2) r := by
 unfold L66_0_3 at h
 have q0 := ((sh_shr (by decide)) : binA .shr (vi .u64 (IntKind.wrap .u64 (w6 (v1 + v2)))) (vi .u64 1) = some (vi .u64 (Int.fdiv (IntKind.wrap .u64 (w6 (v1 + v2))) (2 ^ (min (Int.toNat 1) (IntKind.bits .u64))))))
 apply bi h <;> intro h1 h
 ·
  have k1 := ka [(151, .d true), (156, .v (vi .u64 (Int.fdiv (IntKind.wrap .u64 (w6 (v1 + v2))) (2 ^ (min (Int.toNat 1) (IntKind.bits .u64))))))] (av h1 (apc q0 apn))
  apply bn h; intro x2 h2 h
  have q2 := ((idx_sl h2) : idxA 3 (.sl 2 a1 3 0 a2) (i6 (w6 (a8 - (w6 (Int.fdiv (IntKind.wrap .u64 (w6 (v1 + v2))) (2 ^ (min (Int.toNat 1) (IntKind.bits .u64)))))))) = some (.rp 2 a1 3 x2 0))
  apply bn h; intro x3 h3 h
  have q3 := ((ld_row rfl h3 rfl) : ldA (L66_0_3_d0 a1 a9 a10 a11 a12 a13) .true 3 (.rp 2 a1 3 x2 0) = some (aE x3))
  have k4 := k1.a [(163, .v (.rp 2 a1 3 x2 0)), (164, .v (aE x3))] (apc q2 (apc q3 apn))
  apply bn h; intro x4 h4 h
  have q5 := ((idx_sl h4) : idxA 3 (.sl 2 a1 3 0 a2) (i6 (w6 (Int.fdiv (IntKind.wrap .u64 (w6 (v1 + v2))) (2 ^ (min (Int.toNat 1) (IntKind.bits .u64)))))) = some (.rp 2 a1 3 x4 0))
  apply bn h; intro x5 h5 h
  have q6 := ((ld_row rfl h5 rfl) : ldA (L66_0_3_d0 a1 a9 a10 a11 a12 a13) .true 3 (.rp 2 a1 3 x4 0) = some (aE x5))
  have k7 := k4.a [(167, .v (.rp 2 a1 3 x4 0)), (168, .v (aE x5))] (apc q5 (apc q6 apn))
  apply bn h; intro r6 h6 h
  cases r6 with
  | k0 x6_0 x6_1 x6_2 =>
   have q8 := ((F44_3_ok x3 x5 a9 a10 a11 a12 a1 a13 h6) : CS prg 44 [aE x3, aE x5] (L66_0_3_d0 a1 a9 a10 a11 a12 a13) = some ((i6 x6_0), L66_0_3_d1 a1 a9 a10 a11 a12 a13 x3 x5 x6_1 x6_2))
   have k9 := k7.a [(169, .r (i6 x6_0) (L66_0_3_d1 a1 a9 a10 a11 a12 a13 x3 x5 x6_1 x6_2))] (apc q8 apn)
   apply bi h <;> intro h7 h
   ·
    rw [← sj h]
    exact rn ([(170, .d true), (6000, .d true)] ++ kH k9) (k9.b (av h7 (apc (L66_0_3_k a1 a2 a3 a4 a5 a6 a7 a8 a9 a10 a11 a12 a13 v1 (w6 (Int.fdiv (IntKind.wrap .u64 (w6 (v1 + v2))) (2 ^ (min (Int.toNat 1) (IntKind.bits .u64)))))) apn)))
   ·
    rw [← sj h]
    exact rn ([(170, .d false), (6000, .d true)] ++ kH k9) (k9.b (av h7 (apc (L66_0_3_k a1 a2 a3 a4 a5 a6 a7 a8 a9 a10 a11 a12 a13 (w6 ((w6 (Int.fdiv (IntKind.wrap .u64 (w6 (v1 + v2))) (2 ^ (min (Int.toNat 1) (IntKind.bits .u64))))) + 1)) v2) apn)))
 ·
  rw [← sj h]
  exact xb [(151, .d false), (6000, .d true)] (av h1 apn)
theorem L66_0_3_run (s0 : Int × Int) (e : E_L66_0_3) (h : runL (fun s => L66_0_3 a2 a8 a13 s.1 s.2) s0 = some e) : L66_0_3_x a1 a2 a3 a4 a5 a6 a7 a9 a10 a11 a12 a13 e (L66_0_3_e a1 a2 a3 a4 a5 a6 a7 a8 a9 a10 a11 a12 a13 s0.1 s0.2) := by
  have q := @loop_sound' (Int × Int) E_L66_0_3 (fun s => L66_0_3 a2 a8 a13 s.1 s.2) (fun s => L66_0_3_e a1 a2 a3 a4 a5 a6 a7 a8 a9 a10 a11 a12 a13 s.1 s.2) (L66_0_3_x a1 a2 a3 a4 a5 a6 a7 a9 a10 a11 a12 a13) (fun s r h => L66_0_3_ok a1 a2 a3 a4 a5 a6 a7 a8 a9 a10 a11 a12 a13 s.1 s.2 h) s0 e h
  exact q
end
end
end Go.Proofs.Tryd
