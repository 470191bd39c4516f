/- Decompiled by a program: functions as plain data see them, part 1. -/
import Derived.Test.YthpmanlglbfcdaaDoorW3
namespace Go.Proofs.Tryd
set_option linter.unusedSimpArgs false
set_option linter.unusedVariables false
set_option maxHeartbeats 4000000
open Go Go.Vs
noncomputable section
def F17_v (a1 : ByteArray) (x0 : Int) : AV := (i6 x0)
def F17 (a1 : ByteArray) : Option Int :=
  ((getI (⟨([10] : List UInt8).toArray⟩ : ByteArray).data.toList 0).bind fun x1 => (some ((a1.data.toList.count (Int.toNat (x1.toNat : Int)).toUInt8 : Nat) : Int)))
theorem F17_ok (a1 : ByteArray) {r : Int} (h : F17 a1 = some r) : PR1 prg 17 [vs a1, (vs (⟨([10] : List UInt8).toArray⟩ : ByteArray))] (F17_v a1 r) := by
 unfold F17 at h
 apply bn h; intro x1 h1 h
 rw [← sj h]
 exact fq [(18, .v (vi .u8 (x1.toNat : Int)))] (apc ((ix_str h1) : ixS (vs (⟨([10] : List UInt8).toArray⟩ : ByteArray)) (i6 0) = some (vi .u8 (x1.toNat : Int))) apn)
inductive E_L39_0 where
  | k0 (x0 : Int)
  | k1
section
variable (a1 : ByteArray)
def L39_0 (v1 : Int) : Option (E_L39_0 ⊕ (Int)) :=
  (bif (decide (v1 ≥ 0)) then ((getI a1.data.toList v1).bind fun x2 => (bif ((x2.toNat : Int) == 10) then (some (.inl (.k0 v1))) else (some (.inr ((IntKind.wrap .i64 (v1 - 1))))))) else (some (.inl (.k1))))
def L39_0_s (v1 : Int) : St := ⟨fr 19 ug [(0, vs a1), (1, vi .u8 10), (5, i6 v1)], []⟩
theorem L39_0_k (v1 : Int) : okT 0 (L39_0_s a1 v1).h = true := (okT_of rfl rfl)
abbrev L39_0_e (v1 : Int) := evH prg 0 [0, 1, 5] ir39_l0 (L39_0_s a1 v1)
def L39_0_x (e : E_L39_0) (r : Option (Out × St)) : Prop := match e with | .k0 x0 => ∃ g y, r = some (.ret, ⟨fr 19 g [(4, i6 x0)], y⟩) | .k1 => ∃ g, r = some ((.brk 0), ⟨fr 19 g [(0, vs a1)], []⟩)
theorem L39_0_ok (v1 : Int) {r : E_L39_0 ⊕ (Int)} (h : L39_0 a1 v1 = some r) : OkR (fun e => L39_0_x a1 e (L39_0_e a1 v1)) (fun s => L39_0_e a1 v1 = L39_0_e a1 s) r := by
 unfold L39_0 at h
 apply bi h <;> intro h1 h
 ·
  apply bn h; intro x2 h2 h
  have q0 := ((ix_str h2) : ixS (vs a1) (i6 v1) = some (vi .u8 (x2.toNat : Int)))
  have k1 := ka [(10, .d true), (15, .v (vi .u8 (x2.toNat : Int)))] (av h1 (apc q0 apn))
  apply bi h <;> intro h3 h
  ·
   rw [← sj h]
   exact xy ([(17, .d true), (6000, .d true)] ++ kH k1) (k1.b (av h3 apn))
  ·
   rw [← sj h]
   exact rn ([(17, .d false), (6000, .d true)] ++ kH k1) (k1.b (av h3 (apc (L39_0_k a1 (w6 (v1 - 1))) apn)))
 ·
  rw [← sj h]
  exact xb [(10, .d false), (6000, .d true)] (av h1 apn)
theorem L39_0_run (s0 : Int) (e : E_L39_0) (h : runL (fun s => L39_0 a1 s) s0 = some e) : L39_0_x a1 e (L39_0_e a1 s0) := by
  have q := @loop_sound' (Int) E_L39_0 (fun s => L39_0 a1 s) (fun s => L39_0_e a1 s) (L39_0_x a1) (fun s r h => L39_0_ok a1 s h) s0 e h
  exact q
end
def F39_v (a1 : ByteArray) (x0 : Int) : AV := (i6 x0)
def F39 (a1 : ByteArray) : Option Int :=
  ((runL (fun s => L39_0 a1 s) ((IntKind.wrap .i64 ((a1.size : Int) - 1)))).bind fun r1 => match r1 with | .k0 x1_0 => (some x1_0) | .k1 => (some (-1)))
theorem F39_ok (a1 : ByteArray) {r : Int} (h : F39 a1 = some r) : PR1 prg 39 [vs a1, vi .u8 10] (F39_v a1 r) := by
 unfold F39 at h
 apply bn h; intro r1 h1 h
 cases r1 with
 | k0 x1_0 =>
  obtain ⟨g1, y1, e1⟩ := L39_0_run a1 ((w6 ((a1.size : Int) - 1))) _ h1
  rw [← sj h]
  exact fq [(2000, .l .ret ⟨fr 19 g1 [(4, i6 x1_0)], y1⟩), (6000, .d true)] (apc (L39_0_k a1 (w6 ((a1.size : Int) - 1))) (apc (e1 : L39_0_e a1 (w6 ((a1.size : Int) - 1)) = some (.ret, ⟨fr 19 g1 [(4, i6 x1_0)], y1⟩)) apn))
 | k1 =>
  obtain ⟨g1, e1⟩ := L39_0_run a1 ((w6 ((a1.size : Int) - 1))) _ h1
  rw [← sj h]
  exact fq [(2000, .l (.brk 0) ⟨fr 19 g1 [(0, vs a1)], []⟩), (6000, .d true)] (apc (L39_0_k a1 (w6 ((a1.size : Int) - 1))) (apc (e1 : L39_0_e a1 (w6 ((a1.size : Int) - 1)) = some ((.brk 0), ⟨fr 19 g1 [(0, vs a1)], []⟩)) apn))
def F23_v (a1 : ByteArray) (x0 : Int) : AV := (i6 x0)
def F23 (a1 : ByteArray) : Option Int :=
  ((F39 a1).bind fun x1 => (some x1))
theorem F23_ok (a1 : ByteArray) {r : Int} (h : F23 a1 = some r) : PR1 prg 23 [vs a1, vi .u8 10] (F23_v a1 r) := by
 unfold F23 at h
 apply bn h; intro x1 h1 h
 rw [← sj h]
 exact fq [(7, .v (i6 x1))] (apc (((F39_ok a1 h1).cp rfl _) : CP prg 39 [vs a1, vi .u8 10] [] = some (i6 x1)) apn)
inductive R_F10 where
  | k0 (x0 x1 x2 : Int)
def F10_v (a1 : ByteArray) (a2 : Int) (r : R_F10) : AV := match r with | .k0 x0 x1 x2 => (.tup [(.agg [i6 x0, i6 x1]), i6 x2])
def F10 (a1 : ByteArray) (a2 : Int) : Option R_F10 :=
  (bif (decide ((a1.size : Int) > 1048576)) then (some (.k0 0 0 3)) else (bif (decide (a2 < 0)) then (some (.k0 0 0 4)) else (bif (decide (a2 > (a1.size : Int))) then (some (.k0 0 0 4)) else (bif (sl_ok 0 a2 a1.size) then ((F17 (a1.extract (Int.toNat 0) (Int.toNat a2))).bind fun x5 => ((F23 (a1.extract (Int.toNat 0) (Int.toNat a2))).bind fun x6 => (some (.k0 (IntKind.wrap .i64 (x5 + 1)) (IntKind.wrap .i64 (a2 - x6)) 0)))) else none))))
theorem F10_ok (a1 : ByteArray) (a2 : Int) {r : R_F10} (h : F10 a1 a2 = some r) : PR1 prg 10 [vs a1, i6 a2] (F10_v a1 a2 r) := by
 unfold F10 at h
 apply bi h <;> intro h1 h
 ·
  rw [← sj h]
  exact fq [(10, .d true)] (av h1 apn)
 ·
  apply bi h <;> intro h2 h
  ·
   rw [← sj h]
   exact fq [(10, .d false), (14, .d true)] (av h1 (av h2 apn))
  ·
   have k0 := ka [(10, .d false), (14, .d false)] (av h1 (av h2 apn))
   apply bi h <;> intro h3 h
   ·
    rw [← sj h]
    exact fq ([(19, .d true)] ++ kH k0) (k0.b (av h3 apn))
   ·
    apply bi h <;> intro h4 h
    ·
     apply bn h; intro x5 h5 h
     apply bn h; intro x6 h6 h
     rw [← sj h]
     exact fq ([(19, .d false), (24, .v (vs (a1.extract (Int.toNat 0) (Int.toNat a2)))), (26, .v (i6 x5)), (30, .v (i6 x6))] ++ kH k0) (k0.b (av h3 (apc ((sl_str h4) : slS (vs a1) (some 0) (some a2) = some (vs (a1.extract (Int.toNat 0) (Int.toNat a2)))) (apc (((F17_ok (a1.extract (Int.toNat 0) (Int.toNat a2)) h5).cp rfl _) : CP prg 17 [(vs (a1.extract (Int.toNat 0) (Int.toNat a2))), (vs (⟨([10] : List UInt8).toArray⟩ : ByteArray))] [.cells 23 [i6 0, i6 0]] = some (i6 x5)) (apc (((F23_ok (a1.extract (Int.toNat 0) (Int.toNat a2)) h6).cp rfl _) : CP prg 23 [(vs (a1.extract (Int.toNat 0) (Int.toNat a2))), vi .u8 10] [.cells 23 [i6 0, i6 0]] = some (i6 x6)) apn)))))
    ·
     cases h
def F15_v (a1 : ByteArray) (x0 : ByteArray) : AV := (.fn 28 [(.ro [.val (.string x0)])])
def F15 (a1 : ByteArray) : Option ByteArray :=
  (some a1)
theorem F15_ok (a1 : ByteArray) {r : ByteArray} (h : F15 a1 = some r) : PR1 prg 15 [vs a1] (F15_v a1 r) := by
 unfold F15 at h
 rw [← sj h]
 exact fpo (v := (.fn 28 [.ptr 0 0])) (h' := [.cells 9 [vs a1]]) [] apn (purA_fn (purAs_cons (purA_ptr rfl (mapO_con rfl rfl)) purAs_nil)) (by kernel_rfl)
inductive R_F47_3 where
  | k0
def F47_3_v (a1 : ByteArray) (a2 a3 : Int) (a4 : ByteArray) (a5 : Int) (r : R_F47_3) : AV := match r with | .k0 => (.fn 57 [.ptr 8 0, .ptr 7 0, .ptr 9 0])
def F47_3_h (a1 : ByteArray) (a2 a3 : Int) (a4 : ByteArray) (a5 : Int) (r : R_F47_3) : List AB := match r with | .k0 => [.cells 23 [i6 a2, i6 a3], .cells 3 [i6 0], .cells 25 [i6 0], .cells 3 [i6 0], .loop 0 none [13, 14] [vs a4, (.agg [i6 a2, i6 a3]), (.p (.val undef)), .ptr 0 0, .ptr 1 0, .ptr 2 0, .ptr 3 0, (.p (.val undef)), vs a4, i6 a5, vb false, vs a4, (.fn 28 [(.ro [.val (.string a1)])]), (.p (.val undef)), (.p (.val undef)), (.p (.val undef)), (.p (.val undef)), (.p (.val undef)), (.p (.val undef)), (.p (.val undef)), (.p (.val undef)), (.p (.val undef)), (.p (.val undef)), (.p (.val undef)), (.p (.val undef)), (.p (.val undef)), (.p (.val undef)), (.p (.val undef)), (.p (.val undef)), (.p (.val undef)), (.p (.val undef)), (.p (.val undef)), (.p (.val undef)), (.p (.val undef)), (.p (.val undef)), (.p (.val undef)), (.p (.val undef)), (.p (.val undef)), (.p (.val undef)), (.p (.val undef)), (.p (.val undef))] ir11_a0 ir11_b0, .cells 66 [.yl 4], .cells 3 [i6 0], .cells 9 [vs a1], .cells 9 [(vs (⟨([10] : List UInt8).toArray⟩ : ByteArray))], .cells 3 [i6 0]]
def F47_3 : Option R_F47_3 :=
  (some (.k0))
theorem F47_3_ok (a1 : ByteArray) (a2 a3 : Int) (a4 : ByteArray) (a5 : Int) {r : R_F47_3} (h : F47_3 = some r) : CS prg 47 [vs a1, (vs (⟨([10] : List UInt8).toArray⟩ : ByteArray)), i6 0] [.cells 23 [i6 a2, i6 a3], .cells 3 [i6 0], .cells 25 [i6 0], .cells 3 [i6 0], .loop 0 none [13, 14] [vs a4, (.agg [i6 a2, i6 a3]), (.p (.val undef)), .ptr 0 0, .ptr 1 0, .ptr 2 0, .ptr 3 0, (.p (.val undef)), vs a4, i6 a5, vb false, vs a4, (.fn 28 [(.ro [.val (.string a1)])]), (.p (.val undef)), (.p (.val undef)), (.p (.val undef)), (.p (.val undef)), (.p (.val undef)), (.p (.val undef)), (.p (.val undef)), (.p (.val undef)), (.p (.val undef)), (.p (.val undef)), (.p (.val undef)), (.p (.val undef)), (.p (.val undef)), (.p (.val undef)), (.p (.val undef)), (.p (.val undef)), (.p (.val undef)), (.p (.val undef)), (.p (.val undef)), (.p (.val undef)), (.p (.val undef)), (.p (.val undef)), (.p (.val undef)), (.p (.val undef)), (.p (.val undef)), (.p (.val undef)), (.p (.val undef)), (.p (.val undef))] ir11_a0 ir11_b0, .cells 66 [.yl 4], .cells 3 [i6 0]] = some (F47_3_v a1 a2 a3 a4 a5 r, F47_3_h a1 a2 a3 a4 a5 r) := by
 unfold F47_3 at h
 rw [← sj h]
 exact fc [] apn
inductive R_F29_3 where
  | k0
def F29_3_v (a1 : ByteArray) (a2 a3 : Int) (a4 : ByteArray) (a5 : Int) (r : R_F29_3) : AV := match r with | .k0 => (.fn 57 [.ptr 8 0, .ptr 7 0, .ptr 9 0])
def F29_3_h (a1 : ByteArray) (a2 a3 : Int) (a4 : ByteArray) (a5 : Int) (r : R_F29_3) : List AB := match r with | .k0 => [.cells 23 [i6 a2, i6 a3], .cells 3 [i6 0], .cells 25 [i6 0], .cells 3 [i6 0], .loop 0 none [13, 14] [vs a4, (.agg [i6 a2, i6 a3]), (.p (.val undef)), .ptr 0 0, .ptr 1 0, .ptr 2 0, .ptr 3 0, (.p (.val undef)), vs a4, i6 a5, vb false, vs a4, (.fn 28 [(.ro [.val (.string a1)])]), (.p (.val undef)), (.p (.val undef)), (.p (.val undef)), (.p (.val undef)), (.p (.val undef)), (.p (.val undef)), (.p (.val undef)), (.p (.val undef)), (.p (.val undef)), (.p (.val undef)), (.p (.val undef)), (.p (.val undef)), (.p (.val undef)), (.p (.val undef)), (.p (.val undef)), (.p (.val undef)), (.p (.val undef)), (.p (.val undef)), (.p (.val undef)), (.p (.val undef)), (.p (.val undef)), (.p (.val undef)), (.p (.val undef)), (.p (.val undef)), (.p (.val undef)), (.p (.val undef)), (.p (.val undef)), (.p (.val undef))] ir11_a0 ir11_b0, .cells 66 [.yl 4], .cells 3 [i6 0], .cells 9 [vs a1], .cells 9 [(vs (⟨([10] : List UInt8).toArray⟩ : ByteArray))], .cells 3 [i6 0]]
def F29_3 : Option R_F29_3 :=
  ((F47_3).bind fun r1 => match r1 with | .k0 => (some (.k0)))
abbrev F29_3_d0 (a2 a3 : Int) (a4 : ByteArray) (a5 : Int) (a1 : ByteArray) : List AB := [.cells 23 [i6 a2, i6 a3], .cells 3 [i6 0], .cells 25 [i6 0], .cells 3 [i6 0], .loop 0 none [13, 14] [vs a4, (.agg [i6 a2, i6 a3]), (.p (.val undef)), .ptr 0 0, .ptr 1 0, .ptr 2 0, .ptr 3 0, (.p (.val undef)), vs a4, i6 a5, vb false, vs a4, (.fn 28 [(.ro [.val (.string a1)])]), (.p (.val undef)), (.p (.val undef)), (.p (.val undef)), (.p (.val undef)), (.p (.val undef)), (.p (.val undef)), (.p (.val undef)), (.p (.val undef)), (.p (.val undef)), (.p (.val undef)), (.p (.val undef)), (.p (.val undef)), (.p (.val undef)), (.p (.val undef)), (.p (.val undef)), (.p (.val undef)), (.p (.val undef)), (.p (.val undef)), (.p (.val undef)), (.p (.val undef)), (.p (.val undef)), (.p (.val undef)), (.p (.val undef)), (.p (.val undef)), (.p (.val undef)), (.p (.val undef)), (.p (.val undef)), (.p (.val undef))] ir11_a0 ir11_b0, .cells 66 [.yl 4], .cells 3 [i6 0], .cells 9 [vs a1], .cells 9 [(vs (⟨([10] : List UInt8).toArray⟩ : ByteArray))], .cells 3 [i6 0]]
theorem F29_3_ok (a1 : ByteArray) (a2 a3 : Int) (a4 : ByteArray) (a5 : Int) {r : R_F29_3} (h : F29_3 = some r) : CS prg 29 [vs a1, (vs (⟨([10] : List UInt8).toArray⟩ : ByteArray))] [.cells 23 [i6 a2, i6 a3], .cells 3 [i6 0], .cells 25 [i6 0], .cells 3 [i6 0], .loop 0 none [13, 14] [vs a4, (.agg [i6 a2, i6 a3]), (.p (.val undef)), .ptr 0 0, .ptr 1 0, .ptr 2 0, .ptr 3 0, (.p (.val undef)), vs a4, i6 a5, vb false, vs a4, (.fn 28 [(.ro [.val (.string a1)])]), (.p (.val undef)), (.p (.val undef)), (.p (.val undef)), (.p (.val undef)), (.p (.val undef)), (.p (.val undef)), (.p (.val undef)), (.p (.val undef)), (.p (.val undef)), (.p (.val undef)), (.p (.val undef)), (.p (.val undef)), (.p (.val undef)), (.p (.val undef)), (.p (.val undef)), (.p (.val undef)), (.p (.val undef)), (.p (.val undef)), (.p (.val undef)), (.p (.val undef)), (.p (.val undef)), (.p (.val undef)), (.p (.val undef)), (.p (.val undef)), (.p (.val undef)), (.p (.val undef)), (.p (.val undef)), (.p (.val undef))] ir11_a0 ir11_b0, .cells 66 [.yl 4], .cells 3 [i6 0]] = some (F29_3_v a1 a2 a3 a4 a5 r, F29_3_h a1 a2 a3 a4 a5 r) := by
 unfold F29_3 at h
 apply bn h; intro r1 h1 h
 cases r1 with
 | k0 =>
  rw [← sj h]
  exact fc [(7, .r (.fn 57 [.ptr 8 0, .ptr 7 0, .ptr 9 0]) (F29_3_d0 a2 a3 a4 a5 a1))] (apc ((F47_3_ok a1 a2 a3 a4 a5 h1) : CS prg 47 [vs a1, (vs (⟨([10] : List UInt8).toArray⟩ : ByteArray)), i6 0] [.cells 23 [i6 a2, i6 a3], .cells 3 [i6 0], .cells 25 [i6 0], .cells 3 [i6 0], .loop 0 none [13, 14] [vs a4, (.agg [i6 a2, i6 a3]), (.p (.val undef)), .ptr 0 0, .ptr 1 0, .ptr 2 0, .ptr 3 0, (.p (.val undef)), vs a4, i6 a5, vb false, vs a4, (.fn 28 [(.ro [.val (.string a1)])]), (.p (.val undef)), (.p (.val undef)), (.p (.val undef)), (.p (.val undef)), (.p (.val undef)), (.p (.val undef)), (.p (.val undef)), (.p (.val undef)), (.p (.val undef)), (.p (.val undef)), (.p (.val undef)), (.p (.val undef)), (.p (.val undef)), (.p (.val undef)), (.p (.val undef)), (.p (.val undef)), (.p (.val undef)), (.p (.val undef)), (.p (.val undef)), (.p (.val undef)), (.p (.val undef)), (.p (.val undef)), (.p (.val undef)), (.p (.val undef)), (.p (.val undef)), (.p (.val undef)), (.p (.val undef)), (.p (.val undef))] ir11_a0 ir11_b0, .cells 66 [.yl 4], .cells 3 [i6 0]] = some ((.fn 57 [.ptr 8 0, .ptr 7 0, .ptr 9 0]), F29_3_d0 a2 a3 a4 a5 a1)) apn)
def F59_v (a1 : ByteArray) (a2 : Int) (x0 : Int) : AV := (i6 x0)
def F59 (a1 : ByteArray) (a2 : Int) : Option Int :=
  (some (firstIdx a1 (Int.toNat a2).toUInt8))
theorem F59_ok (a1 : ByteArray) (a2 : Int) {r : Int} (h : F59 a1 a2 = some r) : PR1 prg 59 [vs a1, vi .u8 a2] (F59_v a1 a2 r) := by
 unfold F59 at h
 rw [← sj h]
 exact fq [] apn
def F48_v (a1 : ByteArray) (x0 : Int) : AV := (i6 x0)
def F48 (a1 : ByteArray) : Option Int :=
  (bif ((⟨([10] : List UInt8).toArray⟩ : ByteArray).toList == a1.toList) then (some 0) else ((getI (⟨([10] : List UInt8).toArray⟩ : ByteArray).data.toList 0).bind fun x2 => ((F59 a1 (x2.toNat : Int)).bind fun x3 => (some x3))))
theorem F48_ok (a1 : ByteArray) {r : Int} (h : F48 a1 = some r) : PR1 prg 48 [vs a1, (vs (⟨([10] : List UInt8).toArray⟩ : ByteArray))] (F48_v a1 r) := by
 unfold F48 at h
 apply bi h <;> intro h1 h
 ·
  rw [← sj h]
  exact fq [(22, .d true)] (av h1 apn)
 ·
  apply bn h; intro x2 h2 h
  apply bn h; intro x3 h3 h
  rw [← sj h]
  exact fq [(22, .d false), (29, .v (vi .u8 (x2.toNat : Int))), (30, .v (i6 x3))] (av h1 (apc ((ix_str h2) : ixS (vs (⟨([10] : List UInt8).toArray⟩ : ByteArray)) (i6 0) = some (vi .u8 (x2.toNat : Int))) (apc (((F59_ok a1 (x2.toNat : Int) h3).cp rfl _) : CP prg 59 [vs a1, (vi .u8 (x2.toNat : Int))] [] = some (i6 x3)) apn)))
def F30_v (a1 : ByteArray) (x0 : Int) : AV := (i6 x0)
def F30 (a1 : ByteArray) : Option Int :=
  ((F48 a1).bind fun x1 => (some x1))
theorem F30_ok (a1 : ByteArray) {r : Int} (h : F30 a1 = some r) : PR1 prg 30 [vs a1, (vs (⟨([10] : List UInt8).toArray⟩ : ByteArray))] (F30_v a1 r) := by
 unfold F30 at h
 apply bn h; intro x1 h1 h
 rw [← sj h]
 exact fq [(7, .v (i6 x1))] (apc (((F48_ok a1 h1).cp rfl _) : CP prg 48 [vs a1, (vs (⟨([10] : List UInt8).toArray⟩ : ByteArray))] [] = some (i6 x1)) apn)
inductive R_Y11_0_3 where
  | k0 (x0 x1 : Int)
  | k1
def Y11_0_3_v (a1 a2 : Int) (a3 : ByteArray) (a4 a5 a6 : Int) (a7 : ByteArray) (a8 : Int) (a9 a10 : ByteArray) (r : R_Y11_0_3) : AV := match r with | .k0 x0 x1 => (vb false) | .k1 => (vb true)
def Y11_0_3_h (a1 a2 : Int) (a3 : ByteArray) (a4 a5 a6 : Int) (a7 : ByteArray) (a8 : Int) (a9 a10 : ByteArray) (r : R_Y11_0_3) : List AB := match r with | .k0 x0 x1 => [.cells 23 [i6 a4, i6 a5], .cells 3 [i6 x0], .cells 25 [i6 x1], .cells 3 [(i6 (w6 (a6 + 1)))], .loop 2 (some none) [13, 14] [vs a7, (.agg [i6 a4, i6 a5]), (.p (.val undef)), .ptr 0 0, .ptr 1 0, .ptr 2 0, .ptr 3 0, (.p (.val undef)), vs a7, i6 a8, vb false, vs a7, (.fn 28 [(.ro [.val (.string a9)])]), (.p (.val undef)), (.p (.val undef)), (.p (.val undef)), (.p (.val undef)), (.p (.val undef)), (.p (.val undef)), (.p (.val undef)), (.p (.val undef)), (.p (.val undef)), (.p (.val undef)), (.p (.val undef)), (.p (.val undef)), (.p (.val undef)), (.p (.val undef)), (.p (.val undef)), (.p (.val undef)), (.p (.val undef)), (.p (.val undef)), (.p (.val undef)), (.p (.val undef)), (.p (.val undef)), (.p (.val undef)), (.p (.val undef)), (.p (.val undef)), (.p (.val undef)), (.p (.val undef)), (.p (.val undef)), (.p (.val undef))] ir11_a0 ir11_b0, .cells 66 [.yl 4], .cells 3 [i6 a1], .cells 9 [vs a10], .cells 9 [(vs (⟨([10] : List UInt8).toArray⟩ : ByteArray))], .cells 3 [i6 0], .loop 1 none [7] [.yl 4, (.ro [.val (.string a9)]), .ptr 5 0, .ptr 6 0, (.p (.val undef)), vs a9, (.fn 57 [.ptr 8 0, .ptr 7 0, .ptr 9 0]), (.p (.val undef)), (.p (.val undef)), (.p (.val undef)), (.p (.val undef)), (.p (.val undef)), (.p (.val undef)), (.p (.val undef)), (.p (.val undef)), (.p (.val undef)), (.p (.val undef)), (.p (.val undef)), (.p (.val undef)), (.p (.val undef)), (.p (.val undef)), (.p (.val undef)), (.p (.val undef))] ir28_a0 ir28_b0, .cells 32 [i6 a1, i6 a2]] | .k1 => [.cells 23 [i6 a4, i6 a5], .cells 3 [i6 0], .cells 25 [i6 0], .cells 3 [(i6 (w6 (a6 + 1)))], .loop 0 none [13, 14] [vs a7, (.agg [i6 a4, i6 a5]), (.p (.val undef)), .ptr 0 0, .ptr 1 0, .ptr 2 0, .ptr 3 0, (.p (.val undef)), vs a7, i6 a8, vb false, vs a7, (.fn 28 [(.ro [.val (.string a9)])]), (.p (.val undef)), (.p (.val undef)), (.p (.val undef)), (.p (.val undef)), (.p (.val undef)), (.p (.val undef)), (.p (.val undef)), (.p (.val undef)), (.p (.val undef)), (.p (.val undef)), (.p (.val undef)), (.p (.val undef)), (.p (.val undef)), (.p (.val undef)), (.p (.val undef)), (.p (.val undef)), (.p (.val undef)), (.p (.val undef)), (.p (.val undef)), (.p (.val undef)), (.p (.val undef)), (.p (.val undef)), (.p (.val undef)), (.p (.val undef)), (.p (.val undef)), (.p (.val undef)), (.p (.val undef)), (.p (.val undef))] ir11_a0 ir11_b0, .cells 66 [.yl 4], .cells 3 [i6 a1], .cells 9 [vs a10], .cells 9 [(vs (⟨([10] : List UInt8).toArray⟩ : ByteArray))], .cells 3 [i6 0], .loop 1 none [7] [.yl 4, (.ro [.val (.string a9)]), .ptr 5 0, .ptr 6 0, (.p (.val undef)), vs a9, (.fn 57 [.ptr 8 0, .ptr 7 0, .ptr 9 0]), (.p (.val undef)), (.p (.val undef)), (.p (.val undef)), (.p (.val undef)), (.p (.val undef)), (.p (.val undef)), (.p (.val undef)), (.p (.val undef)), (.p (.val undef)), (.p (.val undef)), (.p (.val undef)), (.p (.val undef)), (.p (.val undef)), (.p (.val undef)), (.p (.val undef)), (.p (.val undef))] ir28_a0 ir28_b0, .cells 32 [i6 a1, i6 a2]]
def Y11_0_3 (a1 a2 a4 a5 a6 : Int) : Option R_Y11_0_3 :=
  (bif ((IntKind.wrap .i64 (a6 + 1)) == a4) then (bif (decide (a5 < 1)) then (some (.k0 0 4)) else (bif (decide (a5 > (IntKind.wrap .i64 ((IntKind.wrap .i64 (a2 - a1)) + 1)))) then (some (.k0 0 4)) else (some (.k0 (IntKind.wrap .i64 ((IntKind.wrap .i64 (a1 + a5)) - 1)) 0)))) else (some (.k1)))
theorem Y11_0_3_ok (a1 a2 : Int) (a3 : ByteArray) (a4 a5 a6 : Int) (a7 : ByteArray) (a8 : Int) (a9 a10 : ByteArray) {r : R_Y11_0_3} (h : Y11_0_3 a1 a2 a4 a5 a6 = some r) : callY (ev prg) 4 [(.agg [i6 a1, i6 a2]), vs a3] [.cells 23 [i6 a4, i6 a5], .cells 3 [i6 0], .cells 25 [i6 0], .cells 3 [i6 a6], .loop 0 none [13, 14] [vs a7, (.agg [i6 a4, i6 a5]), (.p (.val undef)), .ptr 0 0, .ptr 1 0, .ptr 2 0, .ptr 3 0, (.p (.val undef)), vs a7, i6 a8, vb false, vs a7, (.fn 28 [(.ro [.val (.string a9)])]), (.p (.val undef)), (.p (.val undef)), (.p (.val undef)), (.p (.val undef)), (.p (.val undef)), (.p (.val undef)), (.p (.val undef)), (.p (.val undef)), (.p (.val undef)), (.p (.val undef)), (.p (.val undef)), (.p (.val undef)), (.p (.val undef)), (.p (.val undef)), (.p (.val undef)), (.p (.val undef)), (.p (.val undef)), (.p (.val undef)), (.p (.val undef)), (.p (.val undef)), (.p (.val undef)), (.p (.val undef)), (.p (.val undef)), (.p (.val undef)), (.p (.val undef)), (.p (.val undef)), (.p (.val undef)), (.p (.val undef))] ir11_a0 ir11_b0, .cells 66 [.yl 4], .cells 3 [i6 a1], .cells 9 [vs a10], .cells 9 [(vs (⟨([10] : List UInt8).toArray⟩ : ByteArray))], .cells 3 [i6 0], .loop 1 none [7] [.yl 4, (.ro [.val (.string a9)]), .ptr 5 0, .ptr 6 0, (.p (.val undef)), vs a9, (.fn 57 [.ptr 8 0, .ptr 7 0, .ptr 9 0]), (.p (.val undef)), (.p (.val undef)), (.p (.val undef)), (.p (.val undef)), (.p (.val undef)), (.p (.val undef)), (.p (.val undef)), (.p (.val undef)), (.p (.val undef)), (.p (.val undef)), (.p (.val undef)), (.p (.val undef)), (.p (.val undef)), (.p (.val undef)), (.p (.val undef)), (.p (.val undef))] ir28_a0 ir28_b0] = some (Y11_0_3_v a1 a2 a3 a4 a5 a6 a7 a8 a9 a10 r, Y11_0_3_h a1 a2 a3 a4 a5 a6 a7 a8 a9 a10 r) := by
 unfold Y11_0_3 at h
 apply bi h <;> intro h1 h
 ·
  apply bi h <;> intro h2 h
  ·
   rw [← sj h]
   exact fyc [(20, .d true), (23, .d true)] (av h1 (av h2 apn)) (by kernel_rfl)
  ·
   have k0 := ka [(20, .d true), (23, .d false)] (av h1 (av h2 apn))
   apply bi h <;> intro h3 h
   ·
    rw [← sj h]
    exact fyc ([(33, .d true)] ++ kH k0) (k0.b (av h3 apn)) (by kernel_rfl)
   ·
    rw [← sj h]
    exact fyc ([(33, .d false)] ++ kH k0) (k0.b (av h3 apn)) (by kernel_rfl)
 ·
  rw [← sj h]
  exact fyc [(20, .d false)] (av h1 apn) (by kernel_rfl)
inductive R_Y28_0_11 where
  | k0 (x0 x1 : Int)
  | k1
def Y28_0_11_v (a1 : ByteArray) (a2 a3 a4 : Int) (a5 : ByteArray) (a6 : Int) (a7 : ByteArray) (a8 : Int) (a9 : ByteArray) (r : R_Y28_0_11) : AV := match r with | .k0 x0 x1 => (vb false) | .k1 => (vb true)
def Y28_0_11_h (a1 : ByteArray) (a2 a3 a4 : Int) (a5 : ByteArray) (a6 : Int) (a7 : ByteArray) (a8 : Int) (a9 : ByteArray) (r : R_Y28_0_11) : List AB := match r with | .k0 x0 x1 => [.cells 23 [i6 a2, i6 a3], .cells 3 [i6 x0], .cells 25 [i6 x1], .cells 3 [(i6 (w6 (a4 + 1)))], .loop 2 (some none) [13, 14] [vs a5, (.agg [i6 a2, i6 a3]), (.p (.val undef)), .ptr 0 0, .ptr 1 0, .ptr 2 0, .ptr 3 0, (.p (.val undef)), vs a5, i6 a6, vb false, vs a5, (.fn 28 [(.ro [.val (.string a7)])]), (.p (.val undef)), (.p (.val undef)), (.p (.val undef)), (.p (.val undef)), (.p (.val undef)), (.p (.val undef)), (.p (.val undef)), (.p (.val undef)), (.p (.val undef)), (.p (.val undef)), (.p (.val undef)), (.p (.val undef)), (.p (.val undef)), (.p (.val undef)), (.p (.val undef)), (.p (.val undef)), (.p (.val undef)), (.p (.val undef)), (.p (.val undef)), (.p (.val undef)), (.p (.val undef)), (.p (.val undef)), (.p (.val undef)), (.p (.val undef)), (.p (.val undef)), (.p (.val undef)), (.p (.val undef)), (.p (.val undef))] ir11_a0 ir11_b0, .cells 66 [.yl 4], .cells 3 [i6 a8], .cells 9 [vs a9], .cells 9 [(vs (⟨([10] : List UInt8).toArray⟩ : ByteArray))], .cells 3 [i6 0], .loop 2 (some none) [7] [.yl 4, (.ro [.val (.string a7)]), .ptr 5 0, .ptr 6 0, (.p (.val undef)), vs a7, (.fn 57 [.ptr 8 0, .ptr 7 0, .ptr 9 0]), (.p (.val undef)), (.p (.val undef)), (.p (.val undef)), (.p (.val undef)), (.p (.val undef)), (.p (.val undef)), (.p (.val undef)), (.p (.val undef)), (.p (.val undef)), (.p (.val undef)), (.p (.val undef)), (.p (.val undef)), (.p (.val undef)), (.p (.val undef)), (.p (.val undef)), (.p (.val undef))] ir28_a0 ir28_b0, .cells 32 [i6 a8, (i6 (w6 (a8 + (a1.size : Int))))]] | .k1 => [.cells 23 [i6 a2, i6 a3], .cells 3 [i6 0], .cells 25 [i6 0], .cells 3 [(i6 (w6 (a4 + 1)))], .loop 0 none [13, 14] [vs a5, (.agg [i6 a2, i6 a3]), (.p (.val undef)), .ptr 0 0, .ptr 1 0, .ptr 2 0, .ptr 3 0, (.p (.val undef)), vs a5, i6 a6, vb false, vs a5, (.fn 28 [(.ro [.val (.string a7)])]), (.p (.val undef)), (.p (.val undef)), (.p (.val undef)), (.p (.val undef)), (.p (.val undef)), (.p (.val undef)), (.p (.val undef)), (.p (.val undef)), (.p (.val undef)), (.p (.val undef)), (.p (.val undef)), (.p (.val undef)), (.p (.val undef)), (.p (.val undef)), (.p (.val undef)), (.p (.val undef)), (.p (.val undef)), (.p (.val undef)), (.p (.val undef)), (.p (.val undef)), (.p (.val undef)), (.p (.val undef)), (.p (.val undef)), (.p (.val undef)), (.p (.val undef)), (.p (.val undef)), (.p (.val undef)), (.p (.val undef))] ir11_a0 ir11_b0, .cells 66 [.yl 4], .cells 3 [(i6 (w6 (a8 + (w6 ((a1.size : Int) + 1)))))], .cells 9 [vs a9], .cells 9 [(vs (⟨([10] : List UInt8).toArray⟩ : ByteArray))], .cells 3 [i6 0], .loop 0 none [7] [.yl 4, (.ro [.val (.string a7)]), .ptr 5 0, .ptr 6 0, (.p (.val undef)), vs a7, (.fn 57 [.ptr 8 0, .ptr 7 0, .ptr 9 0]), (.p (.val undef)), (.p (.val undef)), (.p (.val undef)), (.p (.val undef)), (.p (.val undef)), (.p (.val undef)), (.p (.val undef)), (.p (.val undef)), (.p (.val undef)), (.p (.val undef)), (.p (.val undef)), (.p (.val undef)), (.p (.val undef)), (.p (.val undef)), (.p (.val undef)), (.p (.val undef))] ir28_a0 ir28_b0, .cells 32 [i6 a8, (i6 (w6 (a8 + (a1.size : Int))))]]
def Y28_0_11 (a1 : ByteArray) (a2 a3 a4 a8 : Int) : Option R_Y28_0_11 :=
  ((Y11_0_3 a8 (IntKind.wrap .i64 (a8 + (a1.size : Int))) a2 a3 a4).bind fun r1 => match r1 with | .k0 x1_0 x1_1 => (some (.k0 x1_0 x1_1)) | .k1 => (some (.k1)))
abbrev Y28_0_11_d0 (a2 a3 x1_0 x1_1 a4 : Int) (a5 : ByteArray) (a6 : Int) (a7 : ByteArray) (a8 : Int) (a9 a1 : ByteArray) : List AB := [.cells 23 [i6 a2, i6 a3], .cells 3 [i6 x1_0], .cells 25 [i6 x1_1], .cells 3 [(i6 (w6 (a4 + 1)))], .loop 2 (some none) [13, 14] [vs a5, (.agg [i6 a2, i6 a3]), (.p (.val undef)), .ptr 0 0, .ptr 1 0, .ptr 2 0, .ptr 3 0, (.p (.val undef)), vs a5, i6 a6, vb false, vs a5, (.fn 28 [(.ro [.val (.string a7)])]), (.p (.val undef)), (.p (.val undef)), (.p (.val undef)), (.p (.val undef)), (.p (.val undef)), (.p (.val undef)), (.p (.val undef)), (.p (.val undef)), (.p (.val undef)), (.p (.val undef)), (.p (.val undef)), (.p (.val undef)), (.p (.val undef)), (.p (.val undef)), (.p (.val undef)), (.p (.val undef)), (.p (.val undef)), (.p (.val undef)), (.p (.val undef)), (.p (.val undef)), (.p (.val undef)), (.p (.val undef)), (.p (.val undef)), (.p (.val undef)), (.p (.val undef)), (.p (.val undef)), (.p (.val undef)), (.p (.val undef))] ir11_a0 ir11_b0, .cells 66 [.yl 4], .cells 3 [i6 a8], .cells 9 [vs a9], .cells 9 [(vs (⟨([10] : List UInt8).toArray⟩ : ByteArray))], .cells 3 [i6 0], .loop 1 none [7] [.yl 4, (.ro [.val (.string a7)]), .ptr 5 0, .ptr 6 0, (.p (.val undef)), vs a7, (.fn 57 [.ptr 8 0, .ptr 7 0, .ptr 9 0]), (.p (.val undef)), (.p (.val undef)), (.p (.val undef)), (.p (.val undef)), (.p (.val undef)), (.p (.val undef)), (.p (.val undef)), (.p (.val undef)), (.p (.val undef)), (.p (.val undef)), (.p (.val undef)), (.p (.val undef)), (.p (.val undef)), (.p (.val undef)), (.p (.val undef)), (.p (.val undef))] ir28_a0 ir28_b0, .cells 32 [i6 a8, (i6 (w6 (a8 + (a1.size : Int))))]]
abbrev Y28_0_11_d1 (a2 a3 a4 : Int) (a5 : ByteArray) (a6 : Int) (a7 : ByteArray) (a8 : Int) (a9 : ByteArray) : List AB := [.cells 23 [i6 a2, i6 a3], .cells 3 [i6 0], .cells 25 [i6 0], .cells 3 [i6 a4], .loop 0 none [13, 14] [vs a5, (.agg [i6 a2, i6 a3]), (.p (.val undef)), .ptr 0 0, .ptr 1 0, .ptr 2 0, .ptr 3 0, (.p (.val undef)), vs a5, i6 a6, vb false, vs a5, (.fn 28 [(.ro [.val (.string a7)])]), (.p (.val undef)), (.p (.val undef)), (.p (.val undef)), (.p (.val undef)), (.p (.val undef)), (.p (.val undef)), (.p (.val undef)), (.p (.val undef)), (.p (.val undef)), (.p (.val undef)), (.p (.val undef)), (.p (.val undef)), (.p (.val undef)), (.p (.val undef)), (.p (.val undef)), (.p (.val undef)), (.p (.val undef)), (.p (.val undef)), (.p (.val undef)), (.p (.val undef)), (.p (.val undef)), (.p (.val undef)), (.p (.val undef)), (.p (.val undef)), (.p (.val undef)), (.p (.val undef)), (.p (.val undef)), (.p (.val undef))] ir11_a0 ir11_b0, .cells 66 [.yl 4], .cells 3 [i6 a8], .cells 9 [vs a9], .cells 9 [(vs (⟨([10] : List UInt8).toArray⟩ : ByteArray))], .cells 3 [i6 0], .loop 1 none [7] [.yl 4, (.ro [.val (.string a7)]), .ptr 5 0, .ptr 6 0, (.p (.val undef)), vs a7, (.fn 57 [.ptr 8 0, .ptr 7 0, .ptr 9 0]), (.p (.val undef)), (.p (.val undef)), (.p (.val undef)), (.p (.val undef)), (.p (.val undef)), (.p (.val undef)), (.p (.val undef)), (.p (.val undef)), (.p (.val undef)), (.p (.val undef)), (.p (.val undef)), (.p (.val undef)), (.p (.val undef)), (.p (.val undef)), (.p (.val undef)), (.p (.val undef))] ir28_a0 ir28_b0]
abbrev Y28_0_11_d2 (a2 a3 a4 : Int) (a5 : ByteArray) (a6 : Int) (a7 : ByteArray) (a8 : Int) (a9 a1 : ByteArray) : List AB := [.cells 23 [i6 a2, i6 a3], .cells 3 [i6 0], .cells 25 [i6 0], .cells 3 [(i6 (w6 (a4 + 1)))], .loop 0 none [13, 14] [vs a5, (.agg [i6 a2, i6 a3]), (.p (.val undef)), .ptr 0 0, .ptr 1 0, .ptr 2 0, .ptr 3 0, (.p (.val undef)), vs a5, i6 a6, vb false, vs a5, (.fn 28 [(.ro [.val (.string a7)])]), (.p (.val undef)), (.p (.val undef)), (.p (.val undef)), (.p (.val undef)), (.p (.val undef)), (.p (.val undef)), (.p (.val undef)), (.p (.val undef)), (.p (.val undef)), (.p (.val undef)), (.p (.val undef)), (.p (.val undef)), (.p (.val undef)), (.p (.val undef)), (.p (.val undef)), (.p (.val undef)), (.p (.val undef)), (.p (.val undef)), (.p (.val undef)), (.p (.val undef)), (.p (.val undef)), (.p (.val undef)), (.p (.val undef)), (.p (.val undef)), (.p (.val undef)), (.p (.val undef)), (.p (.val undef)), (.p (.val undef))] ir11_a0 ir11_b0, .cells 66 [.yl 4], .cells 3 [i6 a8], .cells 9 [vs a9], .cells 9 [(vs (⟨([10] : List UInt8).toArray⟩ : ByteArray))], .cells 3 [i6 0], .loop 1 none [7] [.yl 4, (.ro [.val (.string a7)]), .ptr 5 0, .ptr 6 0, (.p (.val undef)), vs a7, (.fn 57 [.ptr 8 0, .ptr 7 0, .ptr 9 0]), (.p (.val undef)), (.p (.val undef)), (.p (.val undef)), (.p (.val undef)), (.p (.val undef)), (.p (.val undef)), (.p (.val undef)), (.p (.val undef)), (.p (.val undef)), (.p (.val undef)), (.p (.val undef)), (.p (.val undef)), (.p (.val undef)), (.p (.val undef)), (.p (.val undef)), (.p (.val undef))] ir28_a0 ir28_b0, .cells 32 [i6 a8, (i6 (w6 (a8 + (a1.size : Int))))]]
theorem Y28_0_11_ok (a1 : ByteArray) (a2 a3 a4 : Int) (a5 : ByteArray) (a6 : Int) (a7 : ByteArray) (a8 : Int) (a9 : ByteArray) {r : R_Y28_0_11} (h : Y28_0_11 a1 a2 a3 a4 a8 = some r) : callY (ev prg) 10 [vs a1] [.cells 23 [i6 a2, i6 a3], .cells 3 [i6 0], .cells 25 [i6 0], .cells 3 [i6 a4], .loop 0 none [13, 14] [vs a5, (.agg [i6 a2, i6 a3]), (.p (.val undef)), .ptr 0 0, .ptr 1 0, .ptr 2 0, .ptr 3 0, (.p (.val undef)), vs a5, i6 a6, vb false, vs a5, (.fn 28 [(.ro [.val (.string a7)])]), (.p (.val undef)), (.p (.val undef)), (.p (.val undef)), (.p (.val undef)), (.p (.val undef)), (.p (.val undef)), (.p (.val undef)), (.p (.val undef)), (.p (.val undef)), (.p (.val undef)), (.p (.val undef)), (.p (.val undef)), (.p (.val undef)), (.p (.val undef)), (.p (.val undef)), (.p (.val undef)), (.p (.val undef)), (.p (.val undef)), (.p (.val undef)), (.p (.val undef)), (.p (.val undef)), (.p (.val undef)), (.p (.val undef)), (.p (.val undef)), (.p (.val undef)), (.p (.val undef)), (.p (.val undef)), (.p (.val undef))] ir11_a0 ir11_b0, .cells 66 [.yl 4], .cells 3 [i6 a8], .cells 9 [vs a9], .cells 9 [(vs (⟨([10] : List UInt8).toArray⟩ : ByteArray))], .cells 3 [i6 0], .loop 0 none [7] [.yl 4, (.ro [.val (.string a7)]), .ptr 5 0, .ptr 6 0, (.p (.val undef)), vs a7, (.fn 57 [.ptr 8 0, .ptr 7 0, .ptr 9 0]), (.p (.val undef)), (.p (.val undef)), (.p (.val undef)), (.p (.val undef)), (.p (.val undef)), (.p (.val undef)), (.p (.val undef)), (.p (.val undef)), (.p (.val undef)), (.p (.val undef)), (.p (.val undef)), (.p (.val undef)), (.p (.val undef)), (.p (.val undef)), (.p (.val undef)), (.p (.val undef))] ir28_a0 ir28_b0] = some (Y28_0_11_v a1 a2 a3 a4 a5 a6 a7 a8 a9 r, Y28_0_11_h a1 a2 a3 a4 a5 a6 a7 a8 a9 r) := by
 unfold Y28_0_11 at h
 apply bn h; intro r1 h1 h
 cases r1 with
 | k0 x1_0 x1_1 =>
  rw [← sj h]
  exact fyc [(16, .r (vb false) (Y28_0_11_d0 a2 a3 x1_0 x1_1 a4 a5 a6 a7 a8 a9 a1))] (apc ((Y11_0_3_ok a8 (w6 (a8 + (a1.size : Int))) a1 a2 a3 a4 a5 a6 a7 a9 h1) : callY (ev prg) 4 [(.agg [i6 a8, (i6 (w6 (a8 + (a1.size : Int))))]), vs a1] (Y28_0_11_d1 a2 a3 a4 a5 a6 a7 a8 a9) = some ((vb false), Y28_0_11_d0 a2 a3 x1_0 x1_1 a4 a5 a6 a7 a8 a9 a1)) apn) (by kernel_rfl)
 | k1 =>
  rw [← sj h]
  exact fyc [(16, .r (vb true) (Y28_0_11_d2 a2 a3 a4 a5 a6 a7 a8 a9 a1))] (apc ((Y11_0_3_ok a8 (w6 (a8 + (a1.size : Int))) a1 a2 a3 a4 a5 a6 a7 a9 h1) : callY (ev prg) 4 [(.agg [i6 a8, (i6 (w6 (a8 + (a1.size : Int))))]), vs a1] (Y28_0_11_d1 a2 a3 a4 a5 a6 a7 a8 a9) = some ((vb true), Y28_0_11_d2 a2 a3 a4 a5 a6 a7 a8 a9 a1)) apn) (by kernel_rfl)
inductive E_L57_0_3 where
  | k0 (x0 x1 : Int) (x2 : ByteArray)
  | k1 (x0 x1 x2 x3 : Int) (x4 : ByteArray) (x5 : Int)
section
variable (a1 a2 : Int) (a3 : ByteArray) (a4 : Int) (a5 : ByteArray)
abbrev L57_0_3_p (l : List AB) : List AB := .cells 23 [i6 a1, i6 a2] :: .cells 3 [i6 0] :: .cells 25 [i6 0] :: l
def L57_0_3 (v1 v2 : Int) (v3 : ByteArray) : Option (E_L57_0_3 ⊕ (Int × Int × ByteArray)) :=
  ((F30 v3).bind fun x1 => (bif (decide (x1 < 0)) then (some (.inl (.k0 v1 v2 v3))) else (bif (sl_ok 0 (IntKind.wrap .i64 (x1 + 0)) v3.size) then ((Y28_0_11 (v3.extract (Int.toNat 0) (Int.toNat (IntKind.wrap .i64 (x1 + 0)))) a1 a2 v1 v2).bind fun r4 => match r4 with | .k0 x4_0 x4_1 => (some (.inl (.k1 x4_0 x4_1 (IntKind.wrap .i64 (v1 + 1)) v2 v3 (IntKind.wrap .i64 (v2 + ((v3.extract (Int.toNat 0) (Int.toNat (IntKind.wrap .i64 (x1 + 0)))).size : Int)))))) | .k1 => (bif (sl_ok (IntKind.wrap .i64 (x1 + 1)) (v3.size : Int) v3.size) then (some (.inr ((IntKind.wrap .i64 (v1 + 1)), (IntKind.wrap .i64 (v2 + (IntKind.wrap .i64 (((v3.extract (Int.toNat 0) (Int.toNat (IntKind.wrap .i64 (x1 + 0)))).size : Int) + 1)))), (v3.extract (Int.toNat (IntKind.wrap .i64 (x1 + 1))) (Int.toNat (v3.size : Int)))))) else none)) else none)))
def L57_0_3_s (v1 v2 : Int) (v3 : ByteArray) : St := ⟨fr 52 ug [(0, .yl 10), (1, .ptr 8 0), (2, .ptr 7 0), (3, .ptr 9 0)], (L57_0_3_p a1 a2 [.cells 3 [i6 v1], .loop 0 none [13, 14] [vs a3, (.agg [i6 a1, i6 a2]), (.p (.val undef)), .ptr 0 0, .ptr 1 0, .ptr 2 0, .ptr 3 0, (.p (.val undef)), vs a3, i6 a4, vb false, vs a3, (.fn 28 [(.ro [.val (.string a5)])]), (.p (.val undef)), (.p (.val undef)), (.p (.val undef)), (.p (.val undef)), (.p (.val undef)), (.p (.val undef)), (.p (.val undef)), (.p (.val undef)), (.p (.val undef)), (.p (.val undef)), (.p (.val undef)), (.p (.val undef)), (.p (.val undef)), (.p (.val undef)), (.p (.val undef)), (.p (.val undef)), (.p (.val undef)), (.p (.val undef)), (.p (.val undef)), (.p (.val undef)), (.p (.val undef)), (.p (.val undef)), (.p (.val undef)), (.p (.val undef)), (.p (.val undef)), (.p (.val undef)), (.p (.val undef)), (.p (.val undef))] ir11_a0 ir11_b0, .cells 66 [.yl 4], .cells 3 [i6 v2], .cells 9 [vs v3], .cells 9 [(vs (⟨([10] : List UInt8).toArray⟩ : ByteArray))], .cells 3 [i6 0], .loop 0 none [7] [.yl 4, (.ro [.val (.string a5)]), .ptr 5 0, .ptr 6 0, (.p (.val undef)), vs a5, (.fn 57 [.ptr 8 0, .ptr 7 0, .ptr 9 0]), (.p (.val undef)), (.p (.val undef)), (.p (.val undef)), (.p (.val undef)), (.p (.val undef)), (.p (.val undef)), (.p (.val undef)), (.p (.val undef)), (.p (.val undef)), (.p (.val undef)), (.p (.val undef)), (.p (.val undef)), (.p (.val undef)), (.p (.val undef)), (.p (.val undef)), (.p (.val undef))] ir28_a0 ir28_b0])⟩
theorem L57_0_3_k (v1 v2 : Int) (v3 : ByteArray) : okT 11 (L57_0_3_s a1 a2 a3 a4 a5 v1 v2 v3).h = true := (okT_of rfl (ac (ac (ac (ac (ac (ac (ac (ac (ac (ac (ac rfl))))))))))))
abbrev L57_0_3_e (v1 v2 : Int) (v3 : ByteArray) := evH prg 11 [0, 1, 2, 3] ir57_l0 (L57_0_3_s a1 a2 a3 a4 a5 v1 v2 v3)
def L57_0_3_x (e : E_L57_0_3) (r : Option (Out × St)) : Prop := match e with | .k0 x0 x1 x2 => ∃ g, r = some ((.brk 2), ⟨fr 52 g [(0, .yl 10), (1, .ptr 8 0), (2, .ptr 7 0)], (L57_0_3_p a1 a2 [.cells 3 [i6 x0], .loop 0 none [13, 14] [vs a3, (.agg [i6 a1, i6 a2]), (.p (.val undef)), .ptr 0 0, .ptr 1 0, .ptr 2 0, .ptr 3 0, (.p (.val undef)), vs a3, i6 a4, vb false, vs a3, (.fn 28 [(.ro [.val (.string a5)])]), (.p (.val undef)), (.p (.val undef)), (.p (.val undef)), (.p (.val undef)), (.p (.val undef)), (.p (.val undef)), (.p (.val undef)), (.p (.val undef)), (.p (.val undef)), (.p (.val undef)), (.p (.val undef)), (.p (.val undef)), (.p (.val undef)), (.p (.val undef)), (.p (.val undef)), (.p (.val undef)), (.p (.val undef)), (.p (.val undef)), (.p (.val undef)), (.p (.val undef)), (.p (.val undef)), (.p (.val undef)), (.p (.val undef)), (.p (.val undef)), (.p (.val undef)), (.p (.val undef)), (.p (.val undef)), (.p (.val undef))] ir11_a0 ir11_b0, .cells 66 [.yl 4], .cells 3 [i6 x1], .cells 9 [vs x2], .cells 9 [(vs (⟨([10] : List UInt8).toArray⟩ : ByteArray))], .cells 3 [i6 0], .loop 0 none [7] [.yl 4, (.ro [.val (.string a5)]), .ptr 5 0, .ptr 6 0, (.p (.val undef)), vs a5, (.fn 57 [.ptr 8 0, .ptr 7 0, .ptr 9 0]), (.p (.val undef)), (.p (.val undef)), (.p (.val undef)), (.p (.val undef)), (.p (.val undef)), (.p (.val undef)), (.p (.val undef)), (.p (.val undef)), (.p (.val undef)), (.p (.val undef)), (.p (.val undef)), (.p (.val undef)), (.p (.val undef)), (.p (.val undef)), (.p (.val undef)), (.p (.val undef))] ir28_a0 ir28_b0])⟩) | .k1 x0 x1 x2 x3 x4 x5 => ∃ g, r = some (.ret, ⟨fr 52 g [], [.cells 23 [i6 a1, i6 a2], .cells 3 [i6 x0], .cells 25 [i6 x1], .cells 3 [i6 x2], .loop 2 (some none) [13, 14] [vs a3, (.agg [i6 a1, i6 a2]), (.p (.val undef)), .ptr 0 0, .ptr 1 0, .ptr 2 0, .ptr 3 0, (.p (.val undef)), vs a3, i6 a4, vb false, vs a3, (.fn 28 [(.ro [.val (.string a5)])]), (.p (.val undef)), (.p (.val undef)), (.p (.val undef)), (.p (.val undef)), (.p (.val undef)), (.p (.val undef)), (.p (.val undef)), (.p (.val undef)), (.p (.val undef)), (.p (.val undef)), (.p (.val undef)), (.p (.val undef)), (.p (.val undef)), (.p (.val undef)), (.p (.val undef)), (.p (.val undef)), (.p (.val undef)), (.p (.val undef)), (.p (.val undef)), (.p (.val undef)), (.p (.val undef)), (.p (.val undef)), (.p (.val undef)), (.p (.val undef)), (.p (.val undef)), (.p (.val undef)), (.p (.val undef)), (.p (.val undef))] ir11_a0 ir11_b0, .cells 66 [.yl 4], .cells 3 [i6 x3], .cells 9 [vs x4], .cells 9 [(vs (⟨([10] : List UInt8).toArray⟩ : ByteArray))], .cells 3 [i6 0], .loop 2 (some none) [7] [.yl 4, (.ro [.val (.string a5)]), .ptr 5 0, .ptr 6 0, (.p (.val undef)), vs a5, (.fn 57 [.ptr 8 0, .ptr 7 0, .ptr 9 0]), (.p (.val undef)), (.p (.val undef)), (.p (.val undef)), (.p (.val undef)), (.p (.val undef)), (.p (.val undef)), (.p (.val undef)), (.p (.val undef)), (.p (.val undef)), (.p (.val undef)), (.p (.val undef)), (.p (.val undef)), (.p (.val undef)), (.p (.val undef)), (.p (.val undef)), (.p (.val undef))] ir28_a0 ir28_b0, .cells 32 [i6 x3, i6 x5]]⟩)
abbrev L57_0_3_d0 (v1 v2 : Int) (v3 : ByteArray) : List AB := (L57_0_3_p a1 a2 [.cells 3 [i6 v1], .loop 0 none [13, 14] [vs a3, (.agg [i6 a1, i6 a2]), (.p (.val undef)), .ptr 0 0, .ptr 1 0, .ptr 2 0, .ptr 3 0, (.p (.val undef)), vs a3, i6 a4, vb false, vs a3, (.fn 28 [(.ro [.val (.string a5)])]), (.p (.val undef)), (.p (.val undef)), (.p (.val undef)), (.p (.val undef)), (.p (.val undef)), (.p (.val undef)), (.p (.val undef)), (.p (.val undef)), (.p (.val undef)), (.p (.val undef)), (.p (.val undef)), (.p (.val undef)), (.p (.val undef)), (.p (.val undef)), (.p (.val undef)), (.p (.val undef)), (.p (.val undef)), (.p (.val undef)), (.p (.val undef)), (.p (.val undef)), (.p (.val undef)), (.p (.val undef)), (.p (.val undef)), (.p (.val undef)), (.p (.val undef)), (.p (.val undef)), (.p (.val undef)), (.p (.val undef))] ir11_a0 ir11_b0, .cells 66 [.yl 4], .cells 3 [i6 v2], .cells 9 [vs v3], .cells 9 [(vs (⟨([10] : List UInt8).toArray⟩ : ByteArray))], .cells 3 [i6 0], .loop 0 none [7] [.yl 4, (.ro [.val (.string a5)]), .ptr 5 0, .ptr 6 0, (.p (.val undef)), vs a5, (.fn 57 [.ptr 8 0, .ptr 7 0, .ptr 9 0]), (.p (.val undef)), (.p (.val undef)), (.p (.val undef)), (.p (.val undef)), (.p (.val undef)), (.p (.val undef)), (.p (.val undef)), (.p (.val undef)), (.p (.val undef)), (.p (.val undef)), (.p (.val undef)), (.p (.val undef)), (.p (.val undef)), (.p (.val undef)), (.p (.val undef)), (.p (.val undef))] ir28_a0 ir28_b0])
abbrev L57_0_3_d1 (x4_0 x4_1 v1 v2 : Int) (v3 : ByteArray) (x1 : Int) : List AB := [.cells 23 [i6 a1, i6 a2], .cells 3 [i6 x4_0], .cells 25 [i6 x4_1], .cells 3 [(i6 (w6 (v1 + 1)))], .loop 2 (some none) [13, 14] [vs a3, (.agg [i6 a1, i6 a2]), (.p (.val undef)), .ptr 0 0, .ptr 1 0, .ptr 2 0, .ptr 3 0, (.p (.val undef)), vs a3, i6 a4, vb false, vs a3, (.fn 28 [(.ro [.val (.string a5)])]), (.p (.val undef)), (.p (.val undef)), (.p (.val undef)), (.p (.val undef)), (.p (.val undef)), (.p (.val undef)), (.p (.val undef)), (.p (.val undef)), (.p (.val undef)), (.p (.val undef)), (.p (.val undef)), (.p (.val undef)), (.p (.val undef)), (.p (.val undef)), (.p (.val undef)), (.p (.val undef)), (.p (.val undef)), (.p (.val undef)), (.p (.val undef)), (.p (.val undef)), (.p (.val undef)), (.p (.val undef)), (.p (.val undef)), (.p (.val undef)), (.p (.val undef)), (.p (.val undef)), (.p (.val undef)), (.p (.val undef))] ir11_a0 ir11_b0, .cells 66 [.yl 4], .cells 3 [i6 v2], .cells 9 [vs v3], .cells 9 [(vs (⟨([10] : List UInt8).toArray⟩ : ByteArray))], .cells 3 [i6 0], .loop 2 (some none) [7] [.yl 4, (.ro [.val (.string a5)]), .ptr 5 0, .ptr 6 0, (.p (.val undef)), vs a5, (.fn 57 [.ptr 8 0, .ptr 7 0, .ptr 9 0]), (.p (.val undef)), (.p (.val undef)), (.p (.val undef)), (.p (.val undef)), (.p (.val undef)), (.p (.val undef)), (.p (.val undef)), (.p (.val undef)), (.p (.val undef)), (.p (.val undef)), (.p (.val undef)), (.p (.val undef)), (.p (.val undef)), (.p (.val undef)), (.p (.val undef)), (.p (.val undef))] ir28_a0 ir28_b0, .cells 32 [i6 v2, (i6 (w6 (v2 + ((v3.extract (Int.toNat 0) (Int.toNat (w6 (x1 + 0)))).size : Int))))]]
abbrev L57_0_3_d2 (v1 v2 : Int) (v3 : ByteArray) (x1 : Int) : List AB := (L57_0_3_p a1 a2 [.cells 3 [(i6 (w6 (v1 + 1)))], .loop 0 none [13, 14] [vs a3, (.agg [i6 a1, i6 a2]), (.p (.val undef)), .ptr 0 0, .ptr 1 0, .ptr 2 0, .ptr 3 0, (.p (.val undef)), vs a3, i6 a4, vb false, vs a3, (.fn 28 [(.ro [.val (.string a5)])]), (.p (.val undef)), (.p (.val undef)), (.p (.val undef)), (.p (.val undef)), (.p (.val undef)), (.p (.val undef)), (.p (.val undef)), (.p (.val undef)), (.p (.val undef)), (.p (.val undef)), (.p (.val undef)), (.p (.val undef)), (.p (.val undef)), (.p (.val undef)), (.p (.val undef)), (.p (.val undef)), (.p (.val undef)), (.p (.val undef)), (.p (.val undef)), (.p (.val undef)), (.p (.val undef)), (.p (.val undef)), (.p (.val undef)), (.p (.val undef)), (.p (.val undef)), (.p (.val undef)), (.p (.val undef)), (.p (.val undef))] ir11_a0 ir11_b0, .cells 66 [.yl 4], .cells 3 [(i6 (w6 (v2 + (w6 (((v3.extract (Int.toNat 0) (Int.toNat (w6 (x1 + 0)))).size : Int) + 1)))))], .cells 9 [vs v3], .cells 9 [(vs (⟨([10] : List UInt8).toArray⟩ : ByteArray))], .cells 3 [i6 0], .loop 0 none [7] [.yl 4, (.ro [.val (.string a5)]), .ptr 5 0, .ptr 6 0, (.p (.val undef)), vs a5, (.fn 57 [.ptr 8 0, .ptr 7 0, .ptr 9 0]), (.p (.val undef)), (.p (.val undef)), (.p (.val undef)), (.p (.val undef)), (.p (.val undef)), (.p (.val undef)), (.p (.val undef)), (.p (.val undef)), (.p (.val undef)), (.p (.val undef)), (.p (.val undef)), (.p (.val undef)), (.p (.val undef)), (.p (.val undef)), (.p (.val undef)), (.p (.val undef))] ir28_a0 ir28_b0, .cells 32 [i6 v2, (i6 (w6 (v2 + ((v3.extract (Int.toNat 0) (Int.toNat (w6 (x1 + 0)))).size : Int))))]])
theorem L57_0_3_ok (v1 v2 : Int) (v3 : ByteArray) {r : E_L57_0_3 ⊕ (Int × Int × ByteArray)} (h : L57_0_3 a1 a2 v1 v2 v3 = some r) : OkR (fun e => L57_0_3_x a1 a2 a3 a4 a5 e (L57_0_3_e a1 a2 a3 a4 a5 v1 v2 v3)) (fun s => L57_0_3_e a1 a2 a3 a4 a5 v1 v2 v3 = L57_0_3_e a1 a2 a3 a4 a5 s.1 s.2.1 s.2.2) r := by
 unfold L57_0_3 at h
 apply bn h; intro x1 h1 h
 have q0 := (((F30_ok v3 h1).cp rfl _) : CP prg 30 [vs v3, (vs (⟨([10] : List UInt8).toArray⟩ : ByteArray))] (L57_0_3_d0 a1 a2 a3 a4 a5 v1 v2 v3) = some (i6 x1))
 apply bi h <;> intro h2 h
 ·
  rw [← sj h]
  exact xb [(31, .v (i6 x1)), (33, .d true), (6000, .d true)] (apc q0 (av h2 apn))
 ·
  have k1 := ka [(31, .v (i6 x1)), (33, .d false)] (apc q0 (av h2 apn))
  apply bi h <;> intro h3 h
  ·
   have q2 := ((sl_str h3) : slS (vs v3) (some 0) (some (w6 (x1 + 0))) = some (vs (v3.extract (Int.toNat 0) (Int.toNat (w6 (x1 + 0))))))
   have k3 := k1.a [(38, .v (vs (v3.extract (Int.toNat 0) (Int.toNat (w6 (x1 + 0))))))] (apc q2 apn)
   apply bn h; intro r4 h4 h
   cases r4 with
   | k0 x4_0 x4_1 =>
    rw [← sj h]
    exact xr ([(41, .r (vb false) (L57_0_3_d1 a1 a2 a3 a4 a5 x4_0 x4_1 v1 v2 v3 x1)), (6000, .d true)] ++ kH k3) (k3.b (apc ((Y28_0_11_ok (v3.extract (Int.toNat 0) (Int.toNat (w6 (x1 + 0)))) a1 a2 v1 a3 a4 a5 v2 v3 h4) : callY (ev prg) 10 [(vs (v3.extract (Int.toNat 0) (Int.toNat (w6 (x1 + 0)))))] (L57_0_3_d0 a1 a2 a3 a4 a5 v1 v2 v3) = some ((vb false), L57_0_3_d1 a1 a2 a3 a4 a5 x4_0 x4_1 v1 v2 v3 x1)) apn))
   | k1 =>
    have q4 := ((Y28_0_11_ok (v3.extract (Int.toNat 0) (Int.toNat (w6 (x1 + 0)))) a1 a2 v1 a3 a4 a5 v2 v3 h4) : callY (ev prg) 10 [(vs (v3.extract (Int.toNat 0) (Int.toNat (w6 (x1 + 0)))))] (L57_0_3_d0 a1 a2 a3 a4 a5 v1 v2 v3) = some ((vb true), L57_0_3_d2 a1 a2 a3 a4 a5 v1 v2 v3 x1))
    have k5 := k3.a [(41, .r (vb true) (L57_0_3_d2 a1 a2 a3 a4 a5 v1 v2 v3 x1))] (apc q4 apn)
    apply bi h <;> intro h5 h
    ·
     rw [← sj h]
     exact rn ([(48, .v (vs (v3.extract (Int.toNat (w6 (x1 + 1))) (Int.toNat (v3.size : Int))))), (6000, .d true)] ++ kH k5) (k5.b (apc ((sl_str h5) : slS (vs v3) (some (w6 (x1 + 1))) (some (v3.size : Int)) = some (vs (v3.extract (Int.toNat (w6 (x1 + 1))) (Int.toNat (v3.size : Int))))) (apc (L57_0_3_k a1 a2 a3 a4 a5 (w6 (v1 + 1)) (w6 (v2 + (w6 (((v3.extract (Int.toNat 0) (Int.toNat (w6 (x1 + 0)))).size : Int) + 1)))) (v3.extract (Int.toNat (w6 (x1 + 1))) (Int.toNat (v3.size : Int)))) apn)))
    ·
     cases h
  ·
   cases h
theorem L57_0_3_run (s0 : Int × Int × ByteArray) (e : E_L57_0_3) (h : runL (fun s => L57_0_3 a1 a2 s.1 s.2.1 s.2.2) s0 = some e) : L57_0_3_x a1 a2 a3 a4 a5 e (L57_0_3_e a1 a2 a3 a4 a5 s0.1 s0.2.1 s0.2.2) := by
  have q := @loop_sound' (Int × Int × ByteArray) E_L57_0_3 (fun s => L57_0_3 a1 a2 s.1 s.2.1 s.2.2) (fun s => L57_0_3_e a1 a2 a3 a4 a5 s.1 s.2.1 s.2.2) (L57_0_3_x a1 a2 a3 a4 a5) (fun s r h => L57_0_3_ok a1 a2 a3 a4 a5 s.1 s.2.1 s.2.2 h) s0 e h
  exact q
end
inductive R_Y11_0_4 where
  | k0 (x0 x1 : Int)
  | k1
def Y11_0_4_v (a1 a2 : Int) (a3 : ByteArray) (a4 a5 a6 : Int) (a7 : ByteArray) (a8 : Int) (a9 : ByteArray) (r : R_Y11_0_4) : AV := match r with | .k0 x0 x1 => (vb false) | .k1 => (vb true)
def Y11_0_4_h (a1 a2 : Int) (a3 : ByteArray) (a4 a5 a6 : Int) (a7 : ByteArray) (a8 : Int) (a9 : ByteArray) (r : R_Y11_0_4) : List AB := match r with | .k0 x0 x1 => [.cells 23 [i6 a4, i6 a5], .cells 3 [i6 x0], .cells 25 [i6 x1], .cells 3 [(i6 (w6 (a6 + 1)))], .loop 2 (some none) [13, 14] [vs a7, (.agg [i6 a4, i6 a5]), (.p (.val undef)), .ptr 0 0, .ptr 1 0, .ptr 2 0, .ptr 3 0, (.p (.val undef)), vs a7, i6 a8, vb false, vs a7, (.fn 28 [(.ro [.val (.string a9)])]), (.p (.val undef)), (.p (.val undef)), (.p (.val undef)), (.p (.val undef)), (.p (.val undef)), (.p (.val undef)), (.p (.val undef)), (.p (.val undef)), (.p (.val undef)), (.p (.val undef)), (.p (.val undef)), (.p (.val undef)), (.p (.val undef)), (.p (.val undef)), (.p (.val undef)), (.p (.val undef)), (.p (.val undef)), (.p (.val undef)), (.p (.val undef)), (.p (.val undef)), (.p (.val undef)), (.p (.val undef)), (.p (.val undef)), (.p (.val undef)), (.p (.val undef)), (.p (.val undef)), (.p (.val undef)), (.p (.val undef))] ir11_a0 ir11_b0, .cells 66 [.yl 4], .cells 3 [i6 a1], .cells 9 [vs a3], .cells 9 [(vs (⟨([10] : List UInt8).toArray⟩ : ByteArray))], .cells 3 [i6 0], .loop 1 none [7] [.yl 4, (.ro [.val (.string a9)]), .ptr 5 0, .ptr 6 0, (.p (.val undef)), vs a9, (.fn 57 [.ptr 8 0, .ptr 7 0, .ptr 9 0]), (.p (.val undef)), (.p (.val undef)), (.p (.val undef)), (.p (.val undef)), (.p (.val undef)), (.p (.val undef)), (.p (.val undef)), (.p (.val undef)), (.p (.val undef)), (.p (.val undef)), (.p (.val undef)), (.p (.val undef)), (.p (.val undef)), (.p (.val undef)), (.p (.val undef)), (.p (.val undef))] ir28_a0 ir28_b0, .cells 32 [i6 a1, i6 a2]] | .k1 => [.cells 23 [i6 a4, i6 a5], .cells 3 [i6 0], .cells 25 [i6 0], .cells 3 [(i6 (w6 (a6 + 1)))], .loop 0 none [13, 14] [vs a7, (.agg [i6 a4, i6 a5]), (.p (.val undef)), .ptr 0 0, .ptr 1 0, .ptr 2 0, .ptr 3 0, (.p (.val undef)), vs a7, i6 a8, vb false, vs a7, (.fn 28 [(.ro [.val (.string a9)])]), (.p (.val undef)), (.p (.val undef)), (.p (.val undef)), (.p (.val undef)), (.p (.val undef)), (.p (.val undef)), (.p (.val undef)), (.p (.val undef)), (.p (.val undef)), (.p (.val undef)), (.p (.val undef)), (.p (.val undef)), (.p (.val undef)), (.p (.val undef)), (.p (.val undef)), (.p (.val undef)), (.p (.val undef)), (.p (.val undef)), (.p (.val undef)), (.p (.val undef)), (.p (.val undef)), (.p (.val undef)), (.p (.val undef)), (.p (.val undef)), (.p (.val undef)), (.p (.val undef)), (.p (.val undef)), (.p (.val undef))] ir11_a0 ir11_b0, .cells 66 [.yl 4], .cells 3 [i6 a1], .cells 9 [vs a3], .cells 9 [(vs (⟨([10] : List UInt8).toArray⟩ : ByteArray))], .cells 3 [i6 0], .loop 1 none [7] [.yl 4, (.ro [.val (.string a9)]), .ptr 5 0, .ptr 6 0, (.p (.val undef)), vs a9, (.fn 57 [.ptr 8 0, .ptr 7 0, .ptr 9 0]), (.p (.val undef)), (.p (.val undef)), (.p (.val undef)), (.p (.val undef)), (.p (.val undef)), (.p (.val undef)), (.p (.val undef)), (.p (.val undef)), (.p (.val undef)), (.p (.val undef)), (.p (.val undef)), (.p (.val undef)), (.p (.val undef)), (.p (.val undef)), (.p (.val undef)), (.p (.val undef))] ir28_a0 ir28_b0, .cells 32 [i6 a1, i6 a2]]
def Y11_0_4 (a1 a2 a4 a5 a6 : Int) : Option R_Y11_0_4 :=
  (bif ((IntKind.wrap .i64 (a6 + 1)) == a4) then (bif (decide (a5 < 1)) then (some (.k0 0 4)) else (bif (decide (a5 > (IntKind.wrap .i64 ((IntKind.wrap .i64 (a2 - a1)) + 1)))) then (some (.k0 0 4)) else (some (.k0 (IntKind.wrap .i64 ((IntKind.wrap .i64 (a1 + a5)) - 1)) 0)))) else (some (.k1)))
theorem Y11_0_4_ok (a1 a2 : Int) (a3 : ByteArray) (a4 a5 a6 : Int) (a7 : ByteArray) (a8 : Int) (a9 : ByteArray) {r : R_Y11_0_4} (h : Y11_0_4 a1 a2 a4 a5 a6 = some r) : callY (ev prg) 4 [(.agg [i6 a1, i6 a2]), vs a3] [.cells 23 [i6 a4, i6 a5], .cells 3 [i6 0], .cells 25 [i6 0], .cells 3 [i6 a6], .loop 0 none [13, 14] [vs a7, (.agg [i6 a4, i6 a5]), (.p (.val undef)), .ptr 0 0, .ptr 1 0, .ptr 2 0, .ptr 3 0, (.p (.val undef)), vs a7, i6 a8, vb false, vs a7, (.fn 28 [(.ro [.val (.string a9)])]), (.p (.val undef)), (.p (.val undef)), (.p (.val undef)), (.p (.val undef)), (.p (.val undef)), (.p (.val undef)), (.p (.val undef)), (.p (.val undef)), (.p (.val undef)), (.p (.val undef)), (.p (.val undef)), (.p (.val undef)), (.p (.val undef)), (.p (.val undef)), (.p (.val undef)), (.p (.val undef)), (.p (.val undef)), (.p (.val undef)), (.p (.val undef)), (.p (.val undef)), (.p (.val undef)), (.p (.val undef)), (.p (.val undef)), (.p (.val undef)), (.p (.val undef)), (.p (.val undef)), (.p (.val undef)), (.p (.val undef))] ir11_a0 ir11_b0, .cells 66 [.yl 4], .cells 3 [i6 a1], .cells 9 [vs a3], .cells 9 [(vs (⟨([10] : List UInt8).toArray⟩ : ByteArray))], .cells 3 [i6 0], .loop 1 none [7] [.yl 4, (.ro [.val (.string a9)]), .ptr 5 0, .ptr 6 0, (.p (.val undef)), vs a9, (.fn 57 [.ptr 8 0, .ptr 7 0, .ptr 9 0]), (.p (.val undef)), (.p (.val undef)), (.p (.val undef)), (.p (.val undef)), (.p (.val undef)), (.p (.val undef)), (.p (.val undef)), (.p (.val undef)), (.p (.val undef)), (.p (.val undef)), (.p (.val undef)), (.p (.val undef)), (.p (.val undef)), (.p (.val undef)), (.p (.val undef)), (.p (.val undef))] ir28_a0 ir28_b0] = some (Y11_0_4_v a1 a2 a3 a4 a5 a6 a7 a8 a9 r, Y11_0_4_h a1 a2 a3 a4 a5 a6 a7 a8 a9 r) := by
 unfold Y11_0_4 at h
 apply bi h <;> intro h1 h
 ·
  apply bi h <;> intro h2 h
  ·
   rw [← sj h]
   exact fyc [(20, .d true), (23, .d true)] (av h1 (av h2 apn)) (by kernel_rfl)
  ·
   have k0 := ka [(20, .d true), (23, .d false)] (av h1 (av h2 apn))
   apply bi h <;> intro h3 h
   ·
    rw [← sj h]
    exact fyc ([(33, .d true)] ++ kH k0) (k0.b (av h3 apn)) (by kernel_rfl)
   ·
    rw [← sj h]
    exact fyc ([(33, .d false)] ++ kH k0) (k0.b (av h3 apn)) (by kernel_rfl)
 ·
  rw [← sj h]
  exact fyc [(20, .d false)] (av h1 apn) (by kernel_rfl)
inductive R_Y28_0_12 where
  | k0 (x0 x1 : Int)
  | k1
def Y28_0_12_v (a1 : ByteArray) (a2 a3 a4 : Int) (a5 : ByteArray) (a6 : Int) (a7 : ByteArray) (a8 : Int) (r : R_Y28_0_12) : AV := match r with | .k0 x0 x1 => (vb false) | .k1 => (vb true)
def Y28_0_12_h (a1 : ByteArray) (a2 a3 a4 : Int) (a5 : ByteArray) (a6 : Int) (a7 : ByteArray) (a8 : Int) (r : R_Y28_0_12) : List AB := match r with | .k0 x0 x1 => [.cells 23 [i6 a2, i6 a3], .cells 3 [i6 x0], .cells 25 [i6 x1], .cells 3 [(i6 (w6 (a4 + 1)))], .loop 2 (some none) [13, 14] [vs a5, (.agg [i6 a2, i6 a3]), (.p (.val undef)), .ptr 0 0, .ptr 1 0, .ptr 2 0, .ptr 3 0, (.p (.val undef)), vs a5, i6 a6, vb false, vs a5, (.fn 28 [(.ro [.val (.string a7)])]), (.p (.val undef)), (.p (.val undef)), (.p (.val undef)), (.p (.val undef)), (.p (.val undef)), (.p (.val undef)), (.p (.val undef)), (.p (.val undef)), (.p (.val undef)), (.p (.val undef)), (.p (.val undef)), (.p (.val undef)), (.p (.val undef)), (.p (.val undef)), (.p (.val undef)), (.p (.val undef)), (.p (.val undef)), (.p (.val undef)), (.p (.val undef)), (.p (.val undef)), (.p (.val undef)), (.p (.val undef)), (.p (.val undef)), (.p (.val undef)), (.p (.val undef)), (.p (.val undef)), (.p (.val undef)), (.p (.val undef))] ir11_a0 ir11_b0, .cells 66 [.yl 4], .cells 3 [i6 a8], .cells 9 [vs a1], .cells 9 [(vs (⟨([10] : List UInt8).toArray⟩ : ByteArray))], .cells 3 [i6 0], .loop 2 (some none) [7] [.yl 4, (.ro [.val (.string a7)]), .ptr 5 0, .ptr 6 0, (.p (.val undef)), vs a7, (.fn 57 [.ptr 8 0, .ptr 7 0, .ptr 9 0]), (.p (.val undef)), (.p (.val undef)), (.p (.val undef)), (.p (.val undef)), (.p (.val undef)), (.p (.val undef)), (.p (.val undef)), (.p (.val undef)), (.p (.val undef)), (.p (.val undef)), (.p (.val undef)), (.p (.val undef)), (.p (.val undef)), (.p (.val undef)), (.p (.val undef)), (.p (.val undef))] ir28_a0 ir28_b0, .cells 32 [i6 a8, (i6 (w6 (a8 + (a1.size : Int))))]] | .k1 => [.cells 23 [i6 a2, i6 a3], .cells 3 [i6 0], .cells 25 [i6 0], .cells 3 [(i6 (w6 (a4 + 1)))], .loop 0 none [13, 14] [vs a5, (.agg [i6 a2, i6 a3]), (.p (.val undef)), .ptr 0 0, .ptr 1 0, .ptr 2 0, .ptr 3 0, (.p (.val undef)), vs a5, i6 a6, vb false, vs a5, (.fn 28 [(.ro [.val (.string a7)])]), (.p (.val undef)), (.p (.val undef)), (.p (.val undef)), (.p (.val undef)), (.p (.val undef)), (.p (.val undef)), (.p (.val undef)), (.p (.val undef)), (.p (.val undef)), (.p (.val undef)), (.p (.val undef)), (.p (.val undef)), (.p (.val undef)), (.p (.val undef)), (.p (.val undef)), (.p (.val undef)), (.p (.val undef)), (.p (.val undef)), (.p (.val undef)), (.p (.val undef)), (.p (.val undef)), (.p (.val undef)), (.p (.val undef)), (.p (.val undef)), (.p (.val undef)), (.p (.val undef)), (.p (.val undef)), (.p (.val undef))] ir11_a0 ir11_b0, .cells 66 [.yl 4], .cells 3 [(i6 (w6 (a8 + (w6 ((a1.size : Int) + 1)))))], .cells 9 [vs a1], .cells 9 [(vs (⟨([10] : List UInt8).toArray⟩ : ByteArray))], .cells 3 [i6 0], .loop 0 none [7] [.yl 4, (.ro [.val (.string a7)]), .ptr 5 0, .ptr 6 0, (.p (.val undef)), vs a7, (.fn 57 [.ptr 8 0, .ptr 7 0, .ptr 9 0]), (.p (.val undef)), (.p (.val undef)), (.p (.val undef)), (.p (.val undef)), (.p (.val undef)), (.p (.val undef)), (.p (.val undef)), (.p (.val undef)), (.p (.val undef)), (.p (.val undef)), (.p (.val undef)), (.p (.val undef)), (.p (.val undef)), (.p (.val undef)), (.p (.val undef)), (.p (.val undef))] ir28_a0 ir28_b0, .cells 32 [i6 a8, (i6 (w6 (a8 + (a1.size : Int))))]]
def Y28_0_12 (a1 : ByteArray) (a2 a3 a4 a8 : Int) : Option R_Y28_0_12 :=
  ((Y11_0_4 a8 (IntKind.wrap .i64 (a8 + (a1.size : Int))) a2 a3 a4).bind fun r1 => match r1 with | .k0 x1_0 x1_1 => (some (.k0 x1_0 x1_1)) | .k1 => (some (.k1)))
abbrev Y28_0_12_d0 (a2 a3 x1_0 x1_1 a4 : Int) (a5 : ByteArray) (a6 : Int) (a7 : ByteArray) (a8 : Int) (a1 : ByteArray) : List AB := [.cells 23 [i6 a2, i6 a3], .cells 3 [i6 x1_0], .cells 25 [i6 x1_1], .cells 3 [(i6 (w6 (a4 + 1)))], .loop 2 (some none) [13, 14] [vs a5, (.agg [i6 a2, i6 a3]), (.p (.val undef)), .ptr 0 0, .ptr 1 0, .ptr 2 0, .ptr 3 0, (.p (.val undef)), vs a5, i6 a6, vb false, vs a5, (.fn 28 [(.ro [.val (.string a7)])]), (.p (.val undef)), (.p (.val undef)), (.p (.val undef)), (.p (.val undef)), (.p (.val undef)), (.p (.val undef)), (.p (.val undef)), (.p (.val undef)), (.p (.val undef)), (.p (.val undef)), (.p (.val undef)), (.p (.val undef)), (.p (.val undef)), (.p (.val undef)), (.p (.val undef)), (.p (.val undef)), (.p (.val undef)), (.p (.val undef)), (.p (.val undef)), (.p (.val undef)), (.p (.val undef)), (.p (.val undef)), (.p (.val undef)), (.p (.val undef)), (.p (.val undef)), (.p (.val undef)), (.p (.val undef)), (.p (.val undef))] ir11_a0 ir11_b0, .cells 66 [.yl 4], .cells 3 [i6 a8], .cells 9 [vs a1], .cells 9 [(vs (⟨([10] : List UInt8).toArray⟩ : ByteArray))], .cells 3 [i6 0], .loop 1 none [7] [.yl 4, (.ro [.val (.string a7)]), .ptr 5 0, .ptr 6 0, (.p (.val undef)), vs a7, (.fn 57 [.ptr 8 0, .ptr 7 0, .ptr 9 0]), (.p (.val undef)), (.p (.val undef)), (.p (.val undef)), (.p (.val undef)), (.p (.val undef)), (.p (.val undef)), (.p (.val undef)), (.p (.val undef)), (.p (.val undef)), (.p (.val undef)), (.p (.val undef)), (.p (.val undef)), (.p (.val undef)), (.p (.val undef)), (.p (.val undef)), (.p (.val undef))] ir28_a0 ir28_b0, .cells 32 [i6 a8, (i6 (w6 (a8 + (a1.size : Int))))]]
abbrev Y28_0_12_d1 (a2 a3 a4 : Int) (a5 : ByteArray) (a6 : Int) (a7 : ByteArray) (a8 : Int) (a1 : ByteArray) : List AB := [.cells 23 [i6 a2, i6 a3], .cells 3 [i6 0], .cells 25 [i6 0], .cells 3 [i6 a4], .loop 0 none [13, 14] [vs a5, (.agg [i6 a2, i6 a3]), (.p (.val undef)), .ptr 0 0, .ptr 1 0, .ptr 2 0, .ptr 3 0, (.p (.val undef)), vs a5, i6 a6, vb false, vs a5, (.fn 28 [(.ro [.val (.string a7)])]), (.p (.val undef)), (.p (.val undef)), (.p (.val undef)), (.p (.val undef)), (.p (.val undef)), (.p (.val undef)), (.p (.val undef)), (.p (.val undef)), (.p (.val undef)), (.p (.val undef)), (.p (.val undef)), (.p (.val undef)), (.p (.val undef)), (.p (.val undef)), (.p (.val undef)), (.p (.val undef)), (.p (.val undef)), (.p (.val undef)), (.p (.val undef)), (.p (.val undef)), (.p (.val undef)), (.p (.val undef)), (.p (.val undef)), (.p (.val undef)), (.p (.val undef)), (.p (.val undef)), (.p (.val undef)), (.p (.val undef))] ir11_a0 ir11_b0, .cells 66 [.yl 4], .cells 3 [i6 a8], .cells 9 [vs a1], .cells 9 [(vs (⟨([10] : List UInt8).toArray⟩ : ByteArray))], .cells 3 [i6 0], .loop 1 none [7] [.yl 4, (.ro [.val (.string a7)]), .ptr 5 0, .ptr 6 0, (.p (.val undef)), vs a7, (.fn 57 [.ptr 8 0, .ptr 7 0, .ptr 9 0]), (.p (.val undef)), (.p (.val undef)), (.p (.val undef)), (.p (.val undef)), (.p (.val undef)), (.p (.val undef)), (.p (.val undef)), (.p (.val undef)), (.p (.val undef)), (.p (.val undef)), (.p (.val undef)), (.p (.val undef)), (.p (.val undef)), (.p (.val undef)), (.p (.val undef)), (.p (.val undef))] ir28_a0 ir28_b0]
abbrev Y28_0_12_d2 (a2 a3 a4 : Int) (a5 : ByteArray) (a6 : Int) (a7 : ByteArray) (a8 : Int) (a1 : ByteArray) : List AB := [.cells 23 [i6 a2, i6 a3], .cells 3 [i6 0], .cells 25 [i6 0], .cells 3 [(i6 (w6 (a4 + 1)))], .loop 0 none [13, 14] [vs a5, (.agg [i6 a2, i6 a3]), (.p (.val undef)), .ptr 0 0, .ptr 1 0, .ptr 2 0, .ptr 3 0, (.p (.val undef)), vs a5, i6 a6, vb false, vs a5, (.fn 28 [(.ro [.val (.string a7)])]), (.p (.val undef)), (.p (.val undef)), (.p (.val undef)), (.p (.val undef)), (.p (.val undef)), (.p (.val undef)), (.p (.val undef)), (.p (.val undef)), (.p (.val undef)), (.p (.val undef)), (.p (.val undef)), (.p (.val undef)), (.p (.val undef)), (.p (.val undef)), (.p (.val undef)), (.p (.val undef)), (.p (.val undef)), (.p (.val undef)), (.p (.val undef)), (.p (.val undef)), (.p (.val undef)), (.p (.val undef)), (.p (.val undef)), (.p (.val undef)), (.p (.val undef)), (.p (.val undef)), (.p (.val undef)), (.p (.val undef))] ir11_a0 ir11_b0, .cells 66 [.yl 4], .cells 3 [i6 a8], .cells 9 [vs a1], .cells 9 [(vs (⟨([10] : List UInt8).toArray⟩ : ByteArray))], .cells 3 [i6 0], .loop 1 none [7] [.yl 4, (.ro [.val (.string a7)]), .ptr 5 0, .ptr 6 0, (.p (.val undef)), vs a7, (.fn 57 [.ptr 8 0, .ptr 7 0, .ptr 9 0]), (.p (.val undef)), (.p (.val undef)), (.p (.val undef)), (.p (.val undef)), (.p (.val undef)), (.p (.val undef)), (.p (.val undef)), (.p (.val undef)), (.p (.val undef)), (.p (.val undef)), (.p (.val undef)), (.p (.val undef)), (.p (.val undef)), (.p (.val undef)), (.p (.val undef)), (.p (.val undef))] ir28_a0 ir28_b0, .cells 32 [i6 a8, (i6 (w6 (a8 + (a1.size : Int))))]]
theorem Y28_0_12_ok (a1 : ByteArray) (a2 a3 a4 : Int) (a5 : ByteArray) (a6 : Int) (a7 : ByteArray) (a8 : Int) {r : R_Y28_0_12} (h : Y28_0_12 a1 a2 a3 a4 a8 = some r) : callY (ev prg) 10 [vs a1] [.cells 23 [i6 a2, i6 a3], .cells 3 [i6 0], .cells 25 [i6 0], .cells 3 [i6 a4], .loop 0 none [13, 14] [vs a5, (.agg [i6 a2, i6 a3]), (.p (.val undef)), .ptr 0 0, .ptr 1 0, .ptr 2 0, .ptr 3 0, (.p (.val undef)), vs a5, i6 a6, vb false, vs a5, (.fn 28 [(.ro [.val (.string a7)])]), (.p (.val undef)), (.p (.val undef)), (.p (.val undef)), (.p (.val undef)), (.p (.val undef)), (.p (.val undef)), (.p (.val undef)), (.p (.val undef)), (.p (.val undef)), (.p (.val undef)), (.p (.val undef)), (.p (.val undef)), (.p (.val undef)), (.p (.val undef)), (.p (.val undef)), (.p (.val undef)), (.p (.val undef)), (.p (.val undef)), (.p (.val undef)), (.p (.val undef)), (.p (.val undef)), (.p (.val undef)), (.p (.val undef)), (.p (.val undef)), (.p (.val undef)), (.p (.val undef)), (.p (.val undef)), (.p (.val undef))] ir11_a0 ir11_b0, .cells 66 [.yl 4], .cells 3 [i6 a8], .cells 9 [vs a1], .cells 9 [(vs (⟨([10] : List UInt8).toArray⟩ : ByteArray))], .cells 3 [i6 0], .loop 0 none [7] [.yl 4, (.ro [.val (.string a7)]), .ptr 5 0, .ptr 6 0, (.p (.val undef)), vs a7, (.fn 57 [.ptr 8 0, .ptr 7 0, .ptr 9 0]), (.p (.val undef)), (.p (.val undef)), (.p (.val undef)), (.p (.val undef)), (.p (.val undef)), (.p (.val undef)), (.p (.val undef)), (.p (.val undef)), (.p (.val undef)), (.p (.val undef)), (.p (.val undef)), (.p (.val undef)), (.p (.val undef)), (.p (.val undef)), (.p (.val undef)), (.p (.val undef))] ir28_a0 ir28_b0] = some (Y28_0_12_v a1 a2 a3 a4 a5 a6 a7 a8 r, Y28_0_12_h a1 a2 a3 a4 a5 a6 a7 a8 r) := by
 unfold Y28_0_12 at h
 apply bn h; intro r1 h1 h
 cases r1 with
 | k0 x1_0 x1_1 =>
  rw [← sj h]
  exact fyc [(16, .r (vb false) (Y28_0_12_d0 a2 a3 x1_0 x1_1 a4 a5 a6 a7 a8 a1))] (apc ((Y11_0_4_ok a8 (w6 (a8 + (a1.size : Int))) a1 a2 a3 a4 a5 a6 a7 h1) : callY (ev prg) 4 [(.agg [i6 a8, (i6 (w6 (a8 + (a1.size : Int))))]), vs a1] (Y28_0_12_d1 a2 a3 a4 a5 a6 a7 a8 a1) = some ((vb false), Y28_0_12_d0 a2 a3 x1_0 x1_1 a4 a5 a6 a7 a8 a1)) apn) (by kernel_rfl)
 | k1 =>
  rw [← sj h]
  exact fyc [(16, .r (vb true) (Y28_0_12_d2 a2 a3 a4 a5 a6 a7 a8 a1))] (apc ((Y11_0_4_ok a8 (w6 (a8 + (a1.size : Int))) a1 a2 a3 a4 a5 a6 a7 h1) : callY (ev prg) 4 [(.agg [i6 a8, (i6 (w6 (a8 + (a1.size : Int))))]), vs a1] (Y28_0_12_d1 a2 a3 a4 a5 a6 a7 a8 a1) = some ((vb true), Y28_0_12_d2 a2 a3 a4 a5 a6 a7 a8 a1)) apn) (by kernel_rfl)
inductive R_F57_3 where
  | k0 (x0 x1 x2 x3 : Int) (x4 : ByteArray) (x5 : Int)
  | k1 (x0 x1 : Int) (x2 : ByteArray) (x3 x4 : Int)
def F57_3_v (a1 a2 : Int) (a3 : ByteArray) (a4 : Int) (a5 : ByteArray) (r : R_F57_3) : AV := match r with | .k0 x0 x1 x2 x3 x4 x5 => (.tup []) | .k1 x0 x1 x2 x3 x4 => (.tup [])
def F57_3_h (a1 a2 : Int) (a3 : ByteArray) (a4 : Int) (a5 : ByteArray) (r : R_F57_3) : List AB := match r with | .k0 x0 x1 x2 x3 x4 x5 => [.cells 23 [i6 a1, i6 a2], .cells 3 [i6 x0], .cells 25 [i6 x1], .cells 3 [i6 x2], .loop 2 (some none) [13, 14] [vs a3, (.agg [i6 a1, i6 a2]), (.p (.val undef)), .ptr 0 0, .ptr 1 0, .ptr 2 0, .ptr 3 0, (.p (.val undef)), vs a3, i6 a4, vb false, vs a3, (.fn 28 [(.ro [.val (.string a5)])]), (.p (.val undef)), (.p (.val undef)), (.p (.val undef)), (.p (.val undef)), (.p (.val undef)), (.p (.val undef)), (.p (.val undef)), (.p (.val undef)), (.p (.val undef)), (.p (.val undef)), (.p (.val undef)), (.p (.val undef)), (.p (.val undef)), (.p (.val undef)), (.p (.val undef)), (.p (.val undef)), (.p (.val undef)), (.p (.val undef)), (.p (.val undef)), (.p (.val undef)), (.p (.val undef)), (.p (.val undef)), (.p (.val undef)), (.p (.val undef)), (.p (.val undef)), (.p (.val undef)), (.p (.val undef)), (.p (.val undef))] ir11_a0 ir11_b0, .cells 66 [.yl 4], .cells 3 [i6 x3], .cells 9 [vs x4], .cells 9 [(vs (⟨([10] : List UInt8).toArray⟩ : ByteArray))], .cells 3 [i6 0], .loop 2 (some none) [7] [.yl 4, (.ro [.val (.string a5)]), .ptr 5 0, .ptr 6 0, (.p (.val undef)), vs a5, (.fn 57 [.ptr 8 0, .ptr 7 0, .ptr 9 0]), (.p (.val undef)), (.p (.val undef)), (.p (.val undef)), (.p (.val undef)), (.p (.val undef)), (.p (.val undef)), (.p (.val undef)), (.p (.val undef)), (.p (.val undef)), (.p (.val undef)), (.p (.val undef)), (.p (.val undef)), (.p (.val undef)), (.p (.val undef)), (.p (.val undef)), (.p (.val undef))] ir28_a0 ir28_b0, .cells 32 [i6 x3, i6 x5]] | .k1 x0 x1 x2 x3 x4 => [.cells 23 [i6 a1, i6 a2], .cells 3 [i6 0], .cells 25 [i6 0], .cells 3 [i6 x0], .loop 0 none [13, 14] [vs a3, (.agg [i6 a1, i6 a2]), (.p (.val undef)), .ptr 0 0, .ptr 1 0, .ptr 2 0, .ptr 3 0, (.p (.val undef)), vs a3, i6 a4, vb false, vs a3, (.fn 28 [(.ro [.val (.string a5)])]), (.p (.val undef)), (.p (.val undef)), (.p (.val undef)), (.p (.val undef)), (.p (.val undef)), (.p (.val undef)), (.p (.val undef)), (.p (.val undef)), (.p (.val undef)), (.p (.val undef)), (.p (.val undef)), (.p (.val undef)), (.p (.val undef)), (.p (.val undef)), (.p (.val undef)), (.p (.val undef)), (.p (.val undef)), (.p (.val undef)), (.p (.val undef)), (.p (.val undef)), (.p (.val undef)), (.p (.val undef)), (.p (.val undef)), (.p (.val undef)), (.p (.val undef)), (.p (.val undef)), (.p (.val undef)), (.p (.val undef))] ir11_a0 ir11_b0, .cells 66 [.yl 4], .cells 3 [i6 x1], .cells 9 [vs x2], .cells 9 [(vs (⟨([10] : List UInt8).toArray⟩ : ByteArray))], .cells 3 [i6 0], .loop 0 none [7] [.yl 4, (.ro [.val (.string a5)]), .ptr 5 0, .ptr 6 0, (.p (.val undef)), vs a5, (.fn 57 [.ptr 8 0, .ptr 7 0, .ptr 9 0]), (.p (.val undef)), (.p (.val undef)), (.p (.val undef)), (.p (.val undef)), (.p (.val undef)), (.p (.val undef)), (.p (.val undef)), (.p (.val undef)), (.p (.val undef)), (.p (.val undef)), (.p (.val undef)), (.p (.val undef)), (.p (.val undef)), (.p (.val undef)), (.p (.val undef)), (.p (.val undef))] ir28_a0 ir28_b0, .cells 32 [i6 x3, i6 x4]]
def F57_3 (a1 a2 : Int) (a5 : ByteArray) : Option R_F57_3 :=
  ((runL (fun s => L57_0_3 a1 a2 s.1 s.2.1 s.2.2) (0, 0, a5)).bind fun r1 => match r1 with | .k0 x1_0 x1_1 x1_2 => ((Y28_0_12 x1_2 a1 a2 x1_0 x1_1).bind fun r2 => match r2 with | .k0 x2_0 x2_1 => (some (.k0 x2_0 x2_1 (IntKind.wrap .i64 (x1_0 + 1)) x1_1 x1_2 (IntKind.wrap .i64 (x1_1 + (x1_2.size : Int))))) | .k1 => (some (.k1 (IntKind.wrap .i64 (x1_0 + 1)) (IntKind.wrap .i64 (x1_1 + (IntKind.wrap .i64 ((x1_2.size : Int) + 1)))) x1_2 x1_1 (IntKind.wrap .i64 (x1_1 + (x1_2.size : Int)))))) | .k1 x1_0 x1_1 x1_2 x1_3 x1_4 x1_5 => (some (.k0 x1_0 x1_1 x1_2 x1_3 x1_4 x1_5)))
theorem F57_3_ok (a1 a2 : Int) (a3 : ByteArray) (a4 : Int) (a5 : ByteArray) {r : R_F57_3} (h : F57_3 a1 a2 a5 = some r) : CS prg 57 [.yl 10, .ptr 8 0, .ptr 7 0, .ptr 9 0] [.cells 23 [i6 a1, i6 a2], .cells 3 [i6 0], .cells 25 [i6 0], .cells 3 [i6 0], .loop 0 none [13, 14] [vs a3, (.agg [i6 a1, i6 a2]), (.p (.val undef)), .ptr 0 0, .ptr 1 0, .ptr 2 0, .ptr 3 0, (.p (.val undef)), vs a3, i6 a4, vb false, vs a3, (.fn 28 [(.ro [.val (.string a5)])]), (.p (.val undef)), (.p (.val undef)), (.p (.val undef)), (.p (.val undef)), (.p (.val undef)), (.p (.val undef)), (.p (.val undef)), (.p (.val undef)), (.p (.val undef)), (.p (.val undef)), (.p (.val undef)), (.p (.val undef)), (.p (.val undef)), (.p (.val undef)), (.p (.val undef)), (.p (.val undef)), (.p (.val undef)), (.p (.val undef)), (.p (.val undef)), (.p (.val undef)), (.p (.val undef)), (.p (.val undef)), (.p (.val undef)), (.p (.val undef)), (.p (.val undef)), (.p (.val undef)), (.p (.val undef)), (.p (.val undef))] ir11_a0 ir11_b0, .cells 66 [.yl 4], .cells 3 [i6 0], .cells 9 [vs a5], .cells 9 [(vs (⟨([10] : List UInt8).toArray⟩ : ByteArray))], .cells 3 [i6 0], .loop 0 none [7] [.yl 4, (.ro [.val (.string a5)]), .ptr 5 0, .ptr 6 0, (.p (.val undef)), vs a5, (.fn 57 [.ptr 8 0, .ptr 7 0, .ptr 9 0]), (.p (.val undef)), (.p (.val undef)), (.p (.val undef)), (.p (.val undef)), (.p (.val undef)), (.p (.val undef)), (.p (.val undef)), (.p (.val undef)), (.p (.val undef)), (.p (.val undef)), (.p (.val undef)), (.p (.val undef)), (.p (.val undef)), (.p (.val undef)), (.p (.val undef)), (.p (.val undef))] ir28_a0 ir28_b0] = some (F57_3_v a1 a2 a3 a4 a5 r, F57_3_h a1 a2 a3 a4 a5 r) := by
 unfold F57_3 at h
 apply bn h; intro r1 h1 h
 cases r1 with
 | k0 x1_0 x1_1 x1_2 =>
  obtain ⟨g1, e1⟩ := L57_0_3_run a1 a2 a3 a4 a5 (0, 0, a5) _ h1
  have q0 := (e1 : L57_0_3_e a1 a2 a3 a4 a5 0 0 a5 = some ((.brk 2), ⟨fr 52 g1 [(0, .yl 10), (1, .ptr 8 0), (2, .ptr 7 0)], [.cells 23 [i6 a1, i6 a2], .cells 3 [i6 0], .cells 25 [i6 0], .cells 3 [i6 x1_0], .loop 0 none [13, 14] [vs a3, (.agg [i6 a1, i6 a2]), (.p (.val undef)), .ptr 0 0, .ptr 1 0, .ptr 2 0, .ptr 3 0, (.p (.val undef)), vs a3, i6 a4, vb false, vs a3, (.fn 28 [(.ro [.val (.string a5)])]), (.p (.val undef)), (.p (.val undef)), (.p (.val undef)), (.p (.val undef)), (.p (.val undef)), (.p (.val undef)), (.p (.val undef)), (.p (.val undef)), (.p (.val undef)), (.p (.val undef)), (.p (.val undef)), (.p (.val undef)), (.p (.val undef)), (.p (.val undef)), (.p (.val undef)), (.p (.val undef)), (.p (.val undef)), (.p (.val undef)), (.p (.val undef)), (.p (.val undef)), (.p (.val undef)), (.p (.val undef)), (.p (.val undef)), (.p (.val undef)), (.p (.val undef)), (.p (.val undef)), (.p (.val undef)), (.p (.val undef))] ir11_a0 ir11_b0, .cells 66 [.yl 4], .cells 3 [i6 x1_1], .cells 9 [vs x1_2], .cells 9 [(vs (⟨([10] : List UInt8).toArray⟩ : ByteArray))], .cells 3 [i6 0], .loop 0 none [7] [.yl 4, (.ro [.val (.string a5)]), .ptr 5 0, .ptr 6 0, (.p (.val undef)), vs a5, (.fn 57 [.ptr 8 0, .ptr 7 0, .ptr 9 0]), (.p (.val undef)), (.p (.val undef)), (.p (.val undef)), (.p (.val undef)), (.p (.val undef)), (.p (.val undef)), (.p (.val undef)), (.p (.val undef)), (.p (.val undef)), (.p (.val undef)), (.p (.val undef)), (.p (.val undef)), (.p (.val undef)), (.p (.val undef)), (.p (.val undef)), (.p (.val undef))] ir28_a0 ir28_b0]⟩))
  have k1 := ka [(2002, .l (.brk 2) ⟨fr 52 g1 [(0, .yl 10), (1, .ptr 8 0), (2, .ptr 7 0)], [.cells 23 [i6 a1, i6 a2], .cells 3 [i6 0], .cells 25 [i6 0], .cells 3 [i6 x1_0], .loop 0 none [13, 14] [vs a3, (.agg [i6 a1, i6 a2]), (.p (.val undef)), .ptr 0 0, .ptr 1 0, .ptr 2 0, .ptr 3 0, (.p (.val undef)), vs a3, i6 a4, vb false, vs a3, (.fn 28 [(.ro [.val (.string a5)])]), (.p (.val undef)), (.p (.val undef)), (.p (.val undef)), (.p (.val undef)), (.p (.val undef)), (.p (.val undef)), (.p (.val undef)), (.p (.val undef)), (.p (.val undef)), (.p (.val undef)), (.p (.val undef)), (.p (.val undef)), (.p (.val undef)), (.p (.val undef)), (.p (.val undef)), (.p (.val undef)), (.p (.val undef)), (.p (.val undef)), (.p (.val undef)), (.p (.val undef)), (.p (.val undef)), (.p (.val undef)), (.p (.val undef)), (.p (.val undef)), (.p (.val undef)), (.p (.val undef)), (.p (.val undef)), (.p (.val undef))] ir11_a0 ir11_b0, .cells 66 [.yl 4], .cells 3 [i6 x1_1], .cells 9 [vs x1_2], .cells 9 [(vs (⟨([10] : List UInt8).toArray⟩ : ByteArray))], .cells 3 [i6 0], .loop 0 none [7] [.yl 4, (.ro [.val (.string a5)]), .ptr 5 0, .ptr 6 0, (.p (.val undef)), vs a5, (.fn 57 [.ptr 8 0, .ptr 7 0, .ptr 9 0]), (.p (.val undef)), (.p (.val undef)), (.p (.val undef)), (.p (.val undef)), (.p (.val undef)), (.p (.val undef)), (.p (.val undef)), (.p (.val undef)), (.p (.val undef)), (.p (.val undef)), (.p (.val undef)), (.p (.val undef)), (.p (.val undef)), (.p (.val undef)), (.p (.val undef)), (.p (.val undef))] ir28_a0 ir28_b0]⟩)] (apc (L57_0_3_k a1 a2 a3 a4 a5 0 0 a5) (apc q0 apn))
  apply bn h; intro r2 h2 h
  cases r2 with
  | k0 x2_0 x2_1 =>
   rw [← sj h]
   exact fc ([(51, .r (vb false) [.cells 23 [i6 a1, i6 a2], .cells 3 [i6 x2_0], .cells 25 [i6 x2_1], .cells 3 [(i6 (w6 (x1_0 + 1)))], .loop 2 (some none) [13, 14] [vs a3, (.agg [i6 a1, i6 a2]), (.p (.val undef)), .ptr 0 0, .ptr 1 0, .ptr 2 0, .ptr 3 0, (.p (.val undef)), vs a3, i6 a4, vb false, vs a3, (.fn 28 [(.ro [.val (.string a5)])]), (.p (.val undef)), (.p (.val undef)), (.p (.val undef)), (.p (.val undef)), (.p (.val undef)), (.p (.val undef)), (.p (.val undef)), (.p (.val undef)), (.p (.val undef)), (.p (.val undef)), (.p (.val undef)), (.p (.val undef)), (.p (.val undef)), (.p (.val undef)), (.p (.val undef)), (.p (.val undef)), (.p (.val undef)), (.p (.val undef)), (.p (.val undef)), (.p (.val undef)), (.p (.val undef)), (.p (.val undef)), (.p (.val undef)), (.p (.val undef)), (.p (.val undef)), (.p (.val undef)), (.p (.val undef)), (.p (.val undef))] ir11_a0 ir11_b0, .cells 66 [.yl 4], .cells 3 [i6 x1_1], .cells 9 [vs x1_2], .cells 9 [(vs (⟨([10] : List UInt8).toArray⟩ : ByteArray))], .cells 3 [i6 0], .loop 2 (some none) [7] [.yl 4, (.ro [.val (.string a5)]), .ptr 5 0, .ptr 6 0, (.p (.val undef)), vs a5, (.fn 57 [.ptr 8 0, .ptr 7 0, .ptr 9 0]), (.p (.val undef)), (.p (.val undef)), (.p (.val undef)), (.p (.val undef)), (.p (.val undef)), (.p (.val undef)), (.p (.val undef)), (.p (.val undef)), (.p (.val undef)), (.p (.val undef)), (.p (.val undef)), (.p (.val undef)), (.p (.val undef)), (.p (.val undef)), (.p (.val undef)), (.p (.val undef))] ir28_a0 ir28_b0, .cells 32 [i6 x1_1, (i6 (w6 (x1_1 + (x1_2.size : Int))))]]), (6000, .d true)] ++ kH k1) (k1.b (apc ((Y28_0_12_ok x1_2 a1 a2 x1_0 a3 a4 a5 x1_1 h2) : callY (ev prg) 10 [vs x1_2] [.cells 23 [i6 a1, i6 a2], .cells 3 [i6 0], .cells 25 [i6 0], .cells 3 [i6 x1_0], .loop 0 none [13, 14] [vs a3, (.agg [i6 a1, i6 a2]), (.p (.val undef)), .ptr 0 0, .ptr 1 0, .ptr 2 0, .ptr 3 0, (.p (.val undef)), vs a3, i6 a4, vb false, vs a3, (.fn 28 [(.ro [.val (.string a5)])]), (.p (.val undef)), (.p (.val undef)), (.p (.val undef)), (.p (.val undef)), (.p (.val undef)), (.p (.val undef)), (.p (.val undef)), (.p (.val undef)), (.p (.val undef)), (.p (.val undef)), (.p (.val undef)), (.p (.val undef)), (.p (.val undef)), (.p (.val undef)), (.p (.val undef)), (.p (.val undef)), (.p (.val undef)), (.p (.val undef)), (.p (.val undef)), (.p (.val undef)), (.p (.val undef)), (.p (.val undef)), (.p (.val undef)), (.p (.val undef)), (.p (.val undef)), (.p (.val undef)), (.p (.val undef)), (.p (.val undef))] ir11_a0 ir11_b0, .cells 66 [.yl 4], .cells 3 [i6 x1_1], .cells 9 [vs x1_2], .cells 9 [(vs (⟨([10] : List UInt8).toArray⟩ : ByteArray))], .cells 3 [i6 0], .loop 0 none [7] [.yl 4, (.ro [.val (.string a5)]), .ptr 5 0, .ptr 6 0, (.p (.val undef)), vs a5, (.fn 57 [.ptr 8 0, .ptr 7 0, .ptr 9 0]), (.p (.val undef)), (.p (.val undef)), (.p (.val undef)), (.p (.val undef)), (.p (.val undef)), (.p (.val undef)), (.p (.val undef)), (.p (.val undef)), (.p (.val undef)), (.p (.val undef)), (.p (.val undef)), (.p (.val undef)), (.p (.val undef)), (.p (.val undef)), (.p (.val undef)), (.p (.val undef))] ir28_a0 ir28_b0] = some ((vb false), [.cells 23 [i6 a1, i6 a2], .cells 3 [i6 x2_0], .cells 25 [i6 x2_1], .cells 3 [(i6 (w6 (x1_0 + 1)))], .loop 2 (some none) [13, 14] [vs a3, (.agg [i6 a1, i6 a2]), (.p (.val undef)), .ptr 0 0, .ptr 1 0, .ptr 2 0, .ptr 3 0, (.p (.val undef)), vs a3, i6 a4, vb false, vs a3, (.fn 28 [(.ro [.val (.string a5)])]), (.p (.val undef)), (.p (.val undef)), (.p (.val undef)), (.p (.val undef)), (.p (.val undef)), (.p (.val undef)), (.p (.val undef)), (.p (.val undef)), (.p (.val undef)), (.p (.val undef)), (.p (.val undef)), (.p (.val undef)), (.p (.val undef)), (.p (.val undef)), (.p (.val undef)), (.p (.val undef)), (.p (.val undef)), (.p (.val undef)), (.p (.val undef)), (.p (.val undef)), (.p (.val undef)), (.p (.val undef)), (.p (.val undef)), (.p (.val undef)), (.p (.val undef)), (.p (.val undef)), (.p (.val undef)), (.p (.val undef))] ir11_a0 ir11_b0, .cells 66 [.yl 4], .cells 3 [i6 x1_1], .cells 9 [vs x1_2], .cells 9 [(vs (⟨([10] : List UInt8).toArray⟩ : ByteArray))], .cells 3 [i6 0], .loop 2 (some none) [7] [.yl 4, (.ro [.val (.string a5)]), .ptr 5 0, .ptr 6 0, (.p (.val undef)), vs a5, (.fn 57 [.ptr 8 0, .ptr 7 0, .ptr 9 0]), (.p (.val undef)), (.p (.val undef)), (.p (.val undef)), (.p (.val undef)), (.p (.val undef)), (.p (.val undef)), (.p (.val undef)), (.p (.val undef)), (.p (.val undef)), (.p (.val undef)), (.p (.val undef)), (.p (.val undef)), (.p (.val undef)), (.p (.val undef)), (.p (.val undef)), (.p (.val undef))] ir28_a0 ir28_b0, .cells 32 [i6 x1_1, (i6 (w6 (x1_1 + (x1_2.size : Int))))]])) apn))
  | k1 =>
   rw [← sj h]
   exact fc ([(51, .r (vb true) [.cells 23 [i6 a1, i6 a2], .cells 3 [i6 0], .cells 25 [i6 0], .cells 3 [(i6 (w6 (x1_0 + 1)))], .loop 0 none [13, 14] [vs a3, (.agg [i6 a1, i6 a2]), (.p (.val undef)), .ptr 0 0, .ptr 1 0, .ptr 2 0, .ptr 3 0, (.p (.val undef)), vs a3, i6 a4, vb false, vs a3, (.fn 28 [(.ro [.val (.string a5)])]), (.p (.val undef)), (.p (.val undef)), (.p (.val undef)), (.p (.val undef)), (.p (.val undef)), (.p (.val undef)), (.p (.val undef)), (.p (.val undef)), (.p (.val undef)), (.p (.val undef)), (.p (.val undef)), (.p (.val undef)), (.p (.val undef)), (.p (.val undef)), (.p (.val undef)), (.p (.val undef)), (.p (.val undef)), (.p (.val undef)), (.p (.val undef)), (.p (.val undef)), (.p (.val undef)), (.p (.val undef)), (.p (.val undef)), (.p (.val undef)), (.p (.val undef)), (.p (.val undef)), (.p (.val undef)), (.p (.val undef))] ir11_a0 ir11_b0, .cells 66 [.yl 4], .cells 3 [(i6 (w6 (x1_1 + (w6 ((x1_2.size : Int) + 1)))))], .cells 9 [vs x1_2], .cells 9 [(vs (⟨([10] : List UInt8).toArray⟩ : ByteArray))], .cells 3 [i6 0], .loop 0 none [7] [.yl 4, (.ro [.val (.string a5)]), .ptr 5 0, .ptr 6 0, (.p (.val undef)), vs a5, (.fn 57 [.ptr 8 0, .ptr 7 0, .ptr 9 0]), (.p (.val undef)), (.p (.val undef)), (.p (.val undef)), (.p (.val undef)), (.p (.val undef)), (.p (.val undef)), (.p (.val undef)), (.p (.val undef)), (.p (.val undef)), (.p (.val undef)), (.p (.val undef)), (.p (.val undef)), (.p (.val undef)), (.p (.val undef)), (.p (.val undef)), (.p (.val undef))] ir28_a0 ir28_b0, .cells 32 [i6 x1_1, (i6 (w6 (x1_1 + (x1_2.size : Int))))]]), (6000, .d true)] ++ kH k1) (k1.b (apc ((Y28_0_12_ok x1_2 a1 a2 x1_0 a3 a4 a5 x1_1 h2) : callY (ev prg) 10 [vs x1_2] [.cells 23 [i6 a1, i6 a2], .cells 3 [i6 0], .cells 25 [i6 0], .cells 3 [i6 x1_0], .loop 0 none [13, 14] [vs a3, (.agg [i6 a1, i6 a2]), (.p (.val undef)), .ptr 0 0, .ptr 1 0, .ptr 2 0, .ptr 3 0, (.p (.val undef)), vs a3, i6 a4, vb false, vs a3, (.fn 28 [(.ro [.val (.string a5)])]), (.p (.val undef)), (.p (.val undef)), (.p (.val undef)), (.p (.val undef)), (.p (.val undef)), (.p (.val undef)), (.p (.val undef)), (.p (.val undef)), (.p (.val undef)), (.p (.val undef)), (.p (.val undef)), (.p (.val undef)), (.p (.val undef)), (.p (.val undef)), (.p (.val undef)), (.p (.val undef)), (.p (.val undef)), (.p (.val undef)), (.p (.val undef)), (.p (.val undef)), (.p (.val undef)), (.p (.val undef)), (.p (.val undef)), (.p (.val undef)), (.p (.val undef)), (.p (.val undef)), (.p (.val undef)), (.p (.val undef))] ir11_a0 ir11_b0, .cells 66 [.yl 4], .cells 3 [i6 x1_1], .cells 9 [vs x1_2], .cells 9 [(vs (⟨([10] : List UInt8).toArray⟩ : ByteArray))], .cells 3 [i6 0], .loop 0 none [7] [.yl 4, (.ro [.val (.string a5)]), .ptr 5 0, .ptr 6 0, (.p (.val undef)), vs a5, (.fn 57 [.ptr 8 0, .ptr 7 0, .ptr 9 0]), (.p (.val undef)), (.p (.val undef)), (.p (.val undef)), (.p (.val undef)), (.p (.val undef)), (.p (.val undef)), (.p (.val undef)), (.p (.val undef)), (.p (.val undef)), (.p (.val undef)), (.p (.val undef)), (.p (.val undef)), (.p (.val undef)), (.p (.val undef)), (.p (.val undef)), (.p (.val undef))] ir28_a0 ir28_b0] = some ((vb true), [.cells 23 [i6 a1, i6 a2], .cells 3 [i6 0], .cells 25 [i6 0], .cells 3 [(i6 (w6 (x1_0 + 1)))], .loop 0 none [13, 14] [vs a3, (.agg [i6 a1, i6 a2]), (.p (.val undef)), .ptr 0 0, .ptr 1 0, .ptr 2 0, .ptr 3 0, (.p (.val undef)), vs a3, i6 a4, vb false, vs a3, (.fn 28 [(.ro [.val (.string a5)])]), (.p (.val undef)), (.p (.val undef)), (.p (.val undef)), (.p (.val undef)), (.p (.val undef)), (.p (.val undef)), (.p (.val undef)), (.p (.val undef)), (.p (.val undef)), (.p (.val undef)), (.p (.val undef)), (.p (.val undef)), (.p (.val undef)), (.p (.val undef)), (.p (.val undef)), (.p (.val undef)), (.p (.val undef)), (.p (.val undef)), (.p (.val undef)), (.p (.val undef)), (.p (.val undef)), (.p (.val undef)), (.p (.val undef)), (.p (.val undef)), (.p (.val undef)), (.p (.val undef)), (.p (.val undef)), (.p (.val undef))] ir11_a0 ir11_b0, .cells 66 [.yl 4], .cells 3 [(i6 (w6 (x1_1 + (w6 ((x1_2.size : Int) + 1)))))], .cells 9 [vs x1_2], .cells 9 [(vs (⟨([10] : List UInt8).toArray⟩ : ByteArray))], .cells 3 [i6 0], .loop 0 none [7] [.yl 4, (.ro [.val (.string a5)]), .ptr 5 0, .ptr 6 0, (.p (.val undef)), vs a5, (.fn 57 [.ptr 8 0, .ptr 7 0, .ptr 9 0]), (.p (.val undef)), (.p (.val undef)), (.p (.val undef)), (.p (.val undef)), (.p (.val undef)), (.p (.val undef)), (.p (.val undef)), (.p (.val undef)), (.p (.val undef)), (.p (.val undef)), (.p (.val undef)), (.p (.val undef)), (.p (.val undef)), (.p (.val undef)), (.p (.val undef)), (.p (.val undef))] ir28_a0 ir28_b0, .cells 32 [i6 x1_1, (i6 (w6 (x1_1 + (x1_2.size : Int))))]])) apn))
 | k1 x1_0 x1_1 x1_2 x1_3 x1_4 x1_5 =>
  obtain ⟨g1, e1⟩ := L57_0_3_run a1 a2 a3 a4 a5 (0, 0, a5) _ h1
  rw [← sj h]
  exact fc [(2002, .l .ret ⟨fr 52 g1 [], [.cells 23 [i6 a1, i6 a2], .cells 3 [i6 x1_0], .cells 25 [i6 x1_1], .cells 3 [i6 x1_2], .loop 2 (some none) [13, 14] [vs a3, (.agg [i6 a1, i6 a2]), (.p (.val undef)), .ptr 0 0, .ptr 1 0, .ptr 2 0, .ptr 3 0, (.p (.val undef)), vs a3, i6 a4, vb false, vs a3, (.fn 28 [(.ro [.val (.string a5)])]), (.p (.val undef)), (.p (.val undef)), (.p (.val undef)), (.p (.val undef)), (.p (.val undef)), (.p (.val undef)), (.p (.val undef)), (.p (.val undef)), (.p (.val undef)), (.p (.val undef)), (.p (.val undef)), (.p (.val undef)), (.p (.val undef)), (.p (.val undef)), (.p (.val undef)), (.p (.val undef)), (.p (.val undef)), (.p (.val undef)), (.p (.val undef)), (.p (.val undef)), (.p (.val undef)), (.p (.val undef)), (.p (.val undef)), (.p (.val undef)), (.p (.val undef)), (.p (.val undef)), (.p (.val undef)), (.p (.val undef))] ir11_a0 ir11_b0, .cells 66 [.yl 4], .cells 3 [i6 x1_3], .cells 9 [vs x1_4], .cells 9 [(vs (⟨([10] : List UInt8).toArray⟩ : ByteArray))], .cells 3 [i6 0], .loop 2 (some none) [7] [.yl 4, (.ro [.val (.string a5)]), .ptr 5 0, .ptr 6 0, (.p (.val undef)), vs a5, (.fn 57 [.ptr 8 0, .ptr 7 0, .ptr 9 0]), (.p (.val undef)), (.p (.val undef)), (.p (.val undef)), (.p (.val undef)), (.p (.val undef)), (.p (.val undef)), (.p (.val undef)), (.p (.val undef)), (.p (.val undef)), (.p (.val undef)), (.p (.val undef)), (.p (.val undef)), (.p (.val undef)), (.p (.val undef)), (.p (.val undef)), (.p (.val undef))] ir28_a0 ir28_b0, .cells 32 [i6 x1_3, i6 x1_5]]⟩), (6000, .d true)] (apc (L57_0_3_k a1 a2 a3 a4 a5 0 0 a5) (apc (e1 : L57_0_3_e a1 a2 a3 a4 a5 0 0 a5 = some (.ret, ⟨fr 52 g1 [], [.cells 23 [i6 a1, i6 a2], .cells 3 [i6 x1_0], .cells 25 [i6 x1_1], .cells 3 [i6 x1_2], .loop 2 (some none) [13, 14] [vs a3, (.agg [i6 a1, i6 a2]), (.p (.val undef)), .ptr 0 0, .ptr 1 0, .ptr 2 0, .ptr 3 0, (.p (.val undef)), vs a3, i6 a4, vb false, vs a3, (.fn 28 [(.ro [.val (.string a5)])]), (.p (.val undef)), (.p (.val undef)), (.p (.val undef)), (.p (.val undef)), (.p (.val undef)), (.p (.val undef)), (.p (.val undef)), (.p (.val undef)), (.p (.val undef)), (.p (.val undef)), (.p (.val undef)), (.p (.val undef)), (.p (.val undef)), (.p (.val undef)), (.p (.val undef)), (.p (.val undef)), (.p (.val undef)), (.p (.val undef)), (.p (.val undef)), (.p (.val undef)), (.p (.val undef)), (.p (.val undef)), (.p (.val undef)), (.p (.val undef)), (.p (.val undef)), (.p (.val undef)), (.p (.val undef)), (.p (.val undef))] ir11_a0 ir11_b0, .cells 66 [.yl 4], .cells 3 [i6 x1_3], .cells 9 [vs x1_4], .cells 9 [(vs (⟨([10] : List UInt8).toArray⟩ : ByteArray))], .cells 3 [i6 0], .loop 2 (some none) [7] [.yl 4, (.ro [.val (.string a5)]), .ptr 5 0, .ptr 6 0, (.p (.val undef)), vs a5, (.fn 57 [.ptr 8 0, .ptr 7 0, .ptr 9 0]), (.p (.val undef)), (.p (.val undef)), (.p (.val undef)), (.p (.val undef)), (.p (.val undef)), (.p (.val undef)), (.p (.val undef)), (.p (.val undef)), (.p (.val undef)), (.p (.val undef)), (.p (.val undef)), (.p (.val undef)), (.p (.val undef)), (.p (.val undef)), (.p (.val undef)), (.p (.val undef))] ir28_a0 ir28_b0, .cells 32 [i6 x1_3, i6 x1_5]]⟩)) apn))
inductive R_F28_3 where
  | k0 (x0 x1 x2 x3 : Int) (x4 : ByteArray) (x5 : Int)
  | k1 (x0 x1 : Int) (x2 : ByteArray) (x3 x4 : Int)
def F28_3_v (a1 : ByteArray) (a2 a3 : Int) (a4 : ByteArray) (a5 : Int) (r : R_F28_3) : AV := match r with | .k0 x0 x1 x2 x3 x4 x5 => (.tup []) | .k1 x0 x1 x2 x3 x4 => (.tup [])
def F28_3_h (a1 : ByteArray) (a2 a3 : Int) (a4 : ByteArray) (a5 : Int) (r : R_F28_3) : List AB := match r with | .k0 x0 x1 x2 x3 x4 x5 => [.cells 23 [i6 a2, i6 a3], .cells 3 [i6 x0], .cells 25 [i6 x1], .cells 3 [i6 x2], .loop 2 (some none) [13, 14] [vs a4, (.agg [i6 a2, i6 a3]), (.p (.val undef)), .ptr 0 0, .ptr 1 0, .ptr 2 0, .ptr 3 0, (.p (.val undef)), vs a4, i6 a5, vb false, vs a4, (.fn 28 [(.ro [.val (.string a1)])]), (.p (.val undef)), (.p (.val undef)), (.p (.val undef)), (.p (.val undef)), (.p (.val undef)), (.p (.val undef)), (.p (.val undef)), (.p (.val undef)), (.p (.val undef)), (.p (.val undef)), (.p (.val undef)), (.p (.val undef)), (.p (.val undef)), (.p (.val undef)), (.p (.val undef)), (.p (.val undef)), (.p (.val undef)), (.p (.val undef)), (.p (.val undef)), (.p (.val undef)), (.p (.val undef)), (.p (.val undef)), (.p (.val undef)), (.p (.val undef)), (.p (.val undef)), (.p (.val undef)), (.p (.val undef)), (.p (.val undef))] ir11_a0 ir11_b0, .cells 66 [.yl 4], .cells 3 [i6 x3], .cells 9 [vs x4], .cells 9 [(vs (⟨([10] : List UInt8).toArray⟩ : ByteArray))], .cells 3 [i6 0], .dead, .cells 32 [i6 x3, i6 x5]] | .k1 x0 x1 x2 x3 x4 => [.cells 23 [i6 a2, i6 a3], .cells 3 [i6 0], .cells 25 [i6 0], .cells 3 [i6 x0], .loop 0 none [13, 14] [vs a4, (.agg [i6 a2, i6 a3]), (.p (.val undef)), .ptr 0 0, .ptr 1 0, .ptr 2 0, .ptr 3 0, (.p (.val undef)), vs a4, i6 a5, vb false, vs a4, (.fn 28 [(.ro [.val (.string a1)])]), (.p (.val undef)), (.p (.val undef)), (.p (.val undef)), (.p (.val undef)), (.p (.val undef)), (.p (.val undef)), (.p (.val undef)), (.p (.val undef)), (.p (.val undef)), (.p (.val undef)), (.p (.val undef)), (.p (.val undef)), (.p (.val undef)), (.p (.val undef)), (.p (.val undef)), (.p (.val undef)), (.p (.val undef)), (.p (.val undef)), (.p (.val undef)), (.p (.val undef)), (.p (.val undef)), (.p (.val undef)), (.p (.val undef)), (.p (.val undef)), (.p (.val undef)), (.p (.val undef)), (.p (.val undef)), (.p (.val undef))] ir11_a0 ir11_b0, .cells 66 [.yl 4], .cells 3 [i6 x1], .cells 9 [vs x2], .cells 9 [(vs (⟨([10] : List UInt8).toArray⟩ : ByteArray))], .cells 3 [i6 0], .dead, .cells 32 [i6 x3, i6 x4]]
def F28_3 (a1 : ByteArray) (a2 a3 : Int) : Option R_F28_3 :=
  ((F29_3).bind fun r1 => match r1 with | .k0 => ((F57_3 a2 a3 a1).bind fun r2 => match r2 with | .k0 x2_0 x2_1 x2_2 x2_3 x2_4 x2_5 => (some (.k0 x2_0 x2_1 x2_2 x2_3 x2_4 x2_5)) | .k1 x2_0 x2_1 x2_2 x2_3 x2_4 => (some (.k1 x2_0 x2_1 x2_2 x2_3 x2_4))))
abbrev F28_3_d0 (a2 a3 : Int) (a4 : ByteArray) (a5 : Int) (a1 : ByteArray) : List AB := [.cells 23 [i6 a2, i6 a3], .cells 3 [i6 0], .cells 25 [i6 0], .cells 3 [i6 0], .loop 0 none [13, 14] [vs a4, (.agg [i6 a2, i6 a3]), (.p (.val undef)), .ptr 0 0, .ptr 1 0, .ptr 2 0, .ptr 3 0, (.p (.val undef)), vs a4, i6 a5, vb false, vs a4, (.fn 28 [(.ro [.val (.string a1)])]), (.p (.val undef)), (.p (.val undef)), (.p (.val undef)), (.p (.val undef)), (.p (.val undef)), (.p (.val undef)), (.p (.val undef)), (.p (.val undef)), (.p (.val undef)), (.p (.val undef)), (.p (.val undef)), (.p (.val undef)), (.p (.val undef)), (.p (.val undef)), (.p (.val undef)), (.p (.val undef)), (.p (.val undef)), (.p (.val undef)), (.p (.val undef)), (.p (.val undef)), (.p (.val undef)), (.p (.val undef)), (.p (.val undef)), (.p (.val undef)), (.p (.val undef)), (.p (.val undef)), (.p (.val undef)), (.p (.val undef))] ir11_a0 ir11_b0, .cells 66 [.yl 4], .cells 3 [i6 0], .cells 9 [vs a1], .cells 9 [(vs (⟨([10] : List UInt8).toArray⟩ : ByteArray))], .cells 3 [i6 0]]
theorem F28_3_ok (a1 : ByteArray) (a2 a3 : Int) (a4 : ByteArray) (a5 : Int) {r : R_F28_3} (h : F28_3 a1 a2 a3 = some r) : CS prg 28 [.yl 4, (.ro [.val (.string a1)])] [.cells 23 [i6 a2, i6 a3], .cells 3 [i6 0], .cells 25 [i6 0], .cells 3 [i6 0], .loop 0 none [13, 14] [vs a4, (.agg [i6 a2, i6 a3]), (.p (.val undef)), .ptr 0 0, .ptr 1 0, .ptr 2 0, .ptr 3 0, (.p (.val undef)), vs a4, i6 a5, vb false, vs a4, (.fn 28 [(.ro [.val (.string a1)])]), (.p (.val undef)), (.p (.val undef)), (.p (.val undef)), (.p (.val undef)), (.p (.val undef)), (.p (.val undef)), (.p (.val undef)), (.p (.val undef)), (.p (.val undef)), (.p (.val undef)), (.p (.val undef)), (.p (.val undef)), (.p (.val undef)), (.p (.val undef)), (.p (.val undef)), (.p (.val undef)), (.p (.val undef)), (.p (.val undef)), (.p (.val undef)), (.p (.val undef)), (.p (.val undef)), (.p (.val undef)), (.p (.val undef)), (.p (.val undef)), (.p (.val undef)), (.p (.val undef)), (.p (.val undef)), (.p (.val undef))] ir11_a0 ir11_b0] = some (F28_3_v a1 a2 a3 a4 a5 r, F28_3_h a1 a2 a3 a4 a5 r) := by
 unfold F28_3 at h
 apply bn h; intro r1 h1 h
 cases r1 with
 | k0 =>
  have q0 := ((F29_3_ok a1 a2 a3 a4 a5 h1) : CS prg 29 [vs a1, (vs (⟨([10] : List UInt8).toArray⟩ : ByteArray))] [.cells 23 [i6 a2, i6 a3], .cells 3 [i6 0], .cells 25 [i6 0], .cells 3 [i6 0], .loop 0 none [13, 14] [vs a4, (.agg [i6 a2, i6 a3]), (.p (.val undef)), .ptr 0 0, .ptr 1 0, .ptr 2 0, .ptr 3 0, (.p (.val undef)), vs a4, i6 a5, vb false, vs a4, (.fn 28 [(.ro [.val (.string a1)])]), (.p (.val undef)), (.p (.val undef)), (.p (.val undef)), (.p (.val undef)), (.p (.val undef)), (.p (.val undef)), (.p (.val undef)), (.p (.val undef)), (.p (.val undef)), (.p (.val undef)), (.p (.val undef)), (.p (.val undef)), (.p (.val undef)), (.p (.val undef)), (.p (.val undef)), (.p (.val undef)), (.p (.val undef)), (.p (.val undef)), (.p (.val undef)), (.p (.val undef)), (.p (.val undef)), (.p (.val undef)), (.p (.val undef)), (.p (.val undef)), (.p (.val undef)), (.p (.val undef)), (.p (.val undef)), (.p (.val undef))] ir11_a0 ir11_b0, .cells 66 [.yl 4], .cells 3 [i6 0]] = some ((.fn 57 [.ptr 8 0, .ptr 7 0, .ptr 9 0]), F28_3_d0 a2 a3 a4 a5 a1))
  have k1 := ka [(6, .r (.fn 57 [.ptr 8 0, .ptr 7 0, .ptr 9 0]) (F28_3_d0 a2 a3 a4 a5 a1))] (apc q0 apn)
  apply bn h; intro r2 h2 h
  cases r2 with
  | k0 x2_0 x2_1 x2_2 x2_3 x2_4 x2_5 =>
   rw [← sj h]
   exact fc ([(2000, .l .ret ⟨[.yl 4, (.ro [.val (.string a1)]), .ptr 5 0, .ptr 6 0, (.p (.val undef)), vs a1, (.fn 57 [.ptr 8 0, .ptr 7 0, .ptr 9 0]), (.p (.val undef)), (.p (.val undef)), (.p (.val undef)), (.p (.val undef)), (.p (.val undef)), (.p (.val undef)), (.p (.val undef)), (.p (.val undef)), (.p (.val undef)), (.p (.val undef)), (.p (.val undef)), (.p (.val undef)), (.p (.val undef)), (.p (.val undef)), (.p (.val undef)), (.p (.val undef))], [.cells 23 [i6 a2, i6 a3], .cells 3 [i6 x2_0], .cells 25 [i6 x2_1], .cells 3 [i6 x2_2], .loop 2 (some none) [13, 14] [vs a4, (.agg [i6 a2, i6 a3]), (.p (.val undef)), .ptr 0 0, .ptr 1 0, .ptr 2 0, .ptr 3 0, (.p (.val undef)), vs a4, i6 a5, vb false, vs a4, (.fn 28 [(.ro [.val (.string a1)])]), (.p (.val undef)), (.p (.val undef)), (.p (.val undef)), (.p (.val undef)), (.p (.val undef)), (.p (.val undef)), (.p (.val undef)), (.p (.val undef)), (.p (.val undef)), (.p (.val undef)), (.p (.val undef)), (.p (.val undef)), (.p (.val undef)), (.p (.val undef)), (.p (.val undef)), (.p (.val undef)), (.p (.val undef)), (.p (.val undef)), (.p (.val undef)), (.p (.val undef)), (.p (.val undef)), (.p (.val undef)), (.p (.val undef)), (.p (.val undef)), (.p (.val undef)), (.p (.val undef)), (.p (.val undef)), (.p (.val undef))] ir11_a0 ir11_b0, .cells 66 [.yl 4], .cells 3 [i6 x2_3], .cells 9 [vs x2_4], .cells 9 [(vs (⟨([10] : List UInt8).toArray⟩ : ByteArray))], .cells 3 [i6 0], .dead, .cells 32 [i6 x2_3, i6 x2_5]]⟩)] ++ kH k1) (k1.b (apc ((ev_range rfl (F57_3_ok a2 a3 a4 a5 a1 h2) rfl) : ev prg (.rangeF (.t 6) [7] ir28_a0 ir28_b0) ⟨[.yl 4, (.ro [.val (.string a1)]), .ptr 5 0, .ptr 6 0, (.p (.val undef)), vs a1, (.fn 57 [.ptr 8 0, .ptr 7 0, .ptr 9 0]), (.p (.val undef)), (.p (.val undef)), (.p (.val undef)), (.p (.val undef)), (.p (.val undef)), (.p (.val undef)), (.p (.val undef)), (.p (.val undef)), (.p (.val undef)), (.p (.val undef)), (.p (.val undef)), (.p (.val undef)), (.p (.val undef)), (.p (.val undef)), (.p (.val undef)), (.p (.val undef))], F28_3_d0 a2 a3 a4 a5 a1⟩ = some (.ret, ⟨[.yl 4, (.ro [.val (.string a1)]), .ptr 5 0, .ptr 6 0, (.p (.val undef)), vs a1, (.fn 57 [.ptr 8 0, .ptr 7 0, .ptr 9 0]), (.p (.val undef)), (.p (.val undef)), (.p (.val undef)), (.p (.val undef)), (.p (.val undef)), (.p (.val undef)), (.p (.val undef)), (.p (.val undef)), (.p (.val undef)), (.p (.val undef)), (.p (.val undef)), (.p (.val undef)), (.p (.val undef)), (.p (.val undef)), (.p (.val undef)), (.p (.val undef))], [.cells 23 [i6 a2, i6 a3], .cells 3 [i6 x2_0], .cells 25 [i6 x2_1], .cells 3 [i6 x2_2], .loop 2 (some none) [13, 14] [vs a4, (.agg [i6 a2, i6 a3]), (.p (.val undef)), .ptr 0 0, .ptr 1 0, .ptr 2 0, .ptr 3 0, (.p (.val undef)), vs a4, i6 a5, vb false, vs a4, (.fn 28 [(.ro [.val (.string a1)])]), (.p (.val undef)), (.p (.val undef)), (.p (.val undef)), (.p (.val undef)), (.p (.val undef)), (.p (.val undef)), (.p (.val undef)), (.p (.val undef)), (.p (.val undef)), (.p (.val undef)), (.p (.val undef)), (.p (.val undef)), (.p (.val undef)), (.p (.val undef)), (.p (.val undef)), (.p (.val undef)), (.p (.val undef)), (.p (.val undef)), (.p (.val undef)), (.p (.val undef)), (.p (.val undef)), (.p (.val undef)), (.p (.val undef)), (.p (.val undef)), (.p (.val undef)), (.p (.val undef)), (.p (.val undef)), (.p (.val undef))] ir11_a0 ir11_b0, .cells 66 [.yl 4], .cells 3 [i6 x2_3], .cells 9 [vs x2_4], .cells 9 [(vs (⟨([10] : List UInt8).toArray⟩ : ByteArray))], .cells 3 [i6 0], .dead, .cells 32 [i6 x2_3, i6 x2_5]]⟩)) apn))
  | k1 x2_0 x2_1 x2_2 x2_3 x2_4 =>
   rw [← sj h]
   exact fc ([(2000, .l .norm ⟨[.yl 4, (.ro [.val (.string a1)]), .ptr 5 0, .ptr 6 0, (.p (.val undef)), vs a1, (.fn 57 [.ptr 8 0, .ptr 7 0, .ptr 9 0]), (.p (.val undef)), (.p (.val undef)), (.p (.val undef)), (.p (.val undef)), (.p (.val undef)), (.p (.val undef)), (.p (.val undef)), (.p (.val undef)), (.p (.val undef)), (.p (.val undef)), (.p (.val undef)), (.p (.val undef)), (.p (.val undef)), (.p (.val undef)), (.p (.val undef)), (.p (.val undef))], [.cells 23 [i6 a2, i6 a3], .cells 3 [i6 0], .cells 25 [i6 0], .cells 3 [i6 x2_0], .loop 0 none [13, 14] [vs a4, (.agg [i6 a2, i6 a3]), (.p (.val undef)), .ptr 0 0, .ptr 1 0, .ptr 2 0, .ptr 3 0, (.p (.val undef)), vs a4, i6 a5, vb false, vs a4, (.fn 28 [(.ro [.val (.string a1)])]), (.p (.val undef)), (.p (.val undef)), (.p (.val undef)), (.p (.val undef)), (.p (.val undef)), (.p (.val undef)), (.p (.val undef)), (.p (.val undef)), (.p (.val undef)), (.p (.val undef)), (.p (.val undef)), (.p (.val undef)), (.p (.val undef)), (.p (.val undef)), (.p (.val undef)), (.p (.val undef)), (.p (.val undef)), (.p (.val undef)), (.p (.val undef)), (.p (.val undef)), (.p (.val undef)), (.p (.val undef)), (.p (.val undef)), (.p (.val undef)), (.p (.val undef)), (.p (.val undef)), (.p (.val undef)), (.p (.val undef))] ir11_a0 ir11_b0, .cells 66 [.yl 4], .cells 3 [i6 x2_1], .cells 9 [vs x2_2], .cells 9 [(vs (⟨([10] : List UInt8).toArray⟩ : ByteArray))], .cells 3 [i6 0], .dead, .cells 32 [i6 x2_3, i6 x2_4]]⟩)] ++ kH k1) (k1.b (apc ((ev_range rfl (F57_3_ok a2 a3 a4 a5 a1 h2) rfl) : ev prg (.rangeF (.t 6) [7] ir28_a0 ir28_b0) ⟨[.yl 4, (.ro [.val (.string a1)]), .ptr 5 0, .ptr 6 0, (.p (.val undef)), vs a1, (.fn 57 [.ptr 8 0, .ptr 7 0, .ptr 9 0]), (.p (.val undef)), (.p (.val undef)), (.p (.val undef)), (.p (.val undef)), (.p (.val undef)), (.p (.val undef)), (.p (.val undef)), (.p (.val undef)), (.p (.val undef)), (.p (.val undef)), (.p (.val undef)), (.p (.val undef)), (.p (.val undef)), (.p (.val undef)), (.p (.val undef)), (.p (.val undef))], F28_3_d0 a2 a3 a4 a5 a1⟩ = some (.norm, ⟨[.yl 4, (.ro [.val (.string a1)]), .ptr 5 0, .ptr 6 0, (.p (.val undef)), vs a1, (.fn 57 [.ptr 8 0, .ptr 7 0, .ptr 9 0]), (.p (.val undef)), (.p (.val undef)), (.p (.val undef)), (.p (.val undef)), (.p (.val undef)), (.p (.val undef)), (.p (.val undef)), (.p (.val undef)), (.p (.val undef)), (.p (.val undef)), (.p (.val undef)), (.p (.val undef)), (.p (.val undef)), (.p (.val undef)), (.p (.val undef)), (.p (.val undef))], [.cells 23 [i6 a2, i6 a3], .cells 3 [i6 0], .cells 25 [i6 0], .cells 3 [i6 x2_0], .loop 0 none [13, 14] [vs a4, (.agg [i6 a2, i6 a3]), (.p (.val undef)), .ptr 0 0, .ptr 1 0, .ptr 2 0, .ptr 3 0, (.p (.val undef)), vs a4, i6 a5, vb false, vs a4, (.fn 28 [(.ro [.val (.string a1)])]), (.p (.val undef)), (.p (.val undef)), (.p (.val undef)), (.p (.val undef)), (.p (.val undef)), (.p (.val undef)), (.p (.val undef)), (.p (.val undef)), (.p (.val undef)), (.p (.val undef)), (.p (.val undef)), (.p (.val undef)), (.p (.val undef)), (.p (.val undef)), (.p (.val undef)), (.p (.val undef)), (.p (.val undef)), (.p (.val undef)), (.p (.val undef)), (.p (.val undef)), (.p (.val undef)), (.p (.val undef)), (.p (.val undef)), (.p (.val undef)), (.p (.val undef)), (.p (.val undef)), (.p (.val undef)), (.p (.val undef))] ir11_a0 ir11_b0, .cells 66 [.yl 4], .cells 3 [i6 x2_1], .cells 9 [vs x2_2], .cells 9 [(vs (⟨([10] : List UInt8).toArray⟩ : ByteArray))], .cells 3 [i6 0], .dead, .cells 32 [i6 x2_3, i6 x2_4]]⟩)) apn))
inductive R_F11 where
  | k0 (x0 x1 : Int)
def F11_v (a1 : ByteArray) (a2 a3 : Int) (r : R_F11) : AV := match r with | .k0 x0 x1 => (.tup [i6 x0, i6 x1])
def F11 (a1 : ByteArray) (a2 a3 : Int) : Option R_F11 :=
  (bif (decide ((a1.size : Int) > 1048576)) then (some (.k0 0 3)) else ((F15 a1).bind fun x2 => ((F28_3 x2 a2 a3).bind fun r3 => match r3 with | .k0 x3_0 x3_1 x3_2 x3_3 x3_4 x3_5 => (some (.k0 x3_0 x3_1)) | .k1 x3_0 x3_1 x3_2 x3_3 x3_4 => (some (.k0 0 4)))))
abbrev F11_d0 (a2 a3 : Int) : List AB := [.cells 23 [i6 a2, i6 a3], .cells 3 [i6 0], .cells 25 [i6 0], .cells 3 [i6 0]]
theorem F11_ok (a1 : ByteArray) (a2 a3 : Int) {r : R_F11} (h : F11 a1 a2 a3 = some r) : PR1 prg 11 [vs a1, (.agg [i6 a2, i6 a3])] (F11_v a1 a2 a3 r) := by
 unfold F11 at h
 apply bi h <;> intro h1 h
 ·
  rw [← sj h]
  exact fq [(10, .d true)] (av h1 apn)
 ·
  apply bn h; intro x2 h2 h
  have q0 := (((F15_ok a1 h2).cp rfl _) : CP prg 15 [vs a1] (F11_d0 a2 a3) = some (.fn 28 [(.ro [.val (.string x2)])]))
  have k1 := ka [(10, .d false), (12, .v (.fn 28 [(.ro [.val (.string x2)])]))] (av h1 (apc q0 apn))
  apply bn h; intro r3 h3 h
  cases r3 with
  | k0 x3_0 x3_1 x3_2 x3_3 x3_4 x3_5 =>
   rw [← sj h]
   exact fq ([(2000, .l .ret ⟨[vs a1, (.agg [i6 a2, i6 a3]), (.p (.val undef)), .ptr 0 0, .ptr 1 0, .ptr 2 0, .ptr 3 0, (.p (.val undef)), vs a1, (i6 (a1.size : Int)), vb false, vs a1, (.fn 28 [(.ro [.val (.string x2)])]), (.p (.val undef)), (.p (.val undef)), (.p (.val undef)), (.p (.val undef)), (.p (.val undef)), (.p (.val undef)), (.p (.val undef)), (.p (.val undef)), (.p (.val undef)), (.p (.val undef)), (.p (.val undef)), (.p (.val undef)), (.p (.val undef)), (.p (.val undef)), (.p (.val undef)), (.p (.val undef)), (.p (.val undef)), (.p (.val undef)), (.p (.val undef)), (.p (.val undef)), (.p (.val undef)), (.p (.val undef)), (.p (.val undef)), (.p (.val undef)), (.p (.val undef)), (.p (.val undef)), (.p (.val undef)), (.p (.val undef))], [.cells 23 [i6 a2, i6 a3], .cells 3 [i6 x3_0], .cells 25 [i6 x3_1], .cells 3 [i6 x3_2], .dead, .cells 66 [.yl 4], .cells 3 [i6 x3_3], .cells 9 [vs x3_4], .cells 9 [(vs (⟨([10] : List UInt8).toArray⟩ : ByteArray))], .cells 3 [i6 0], .dead, .cells 32 [i6 x3_3, i6 x3_5]]⟩)] ++ kH k1) (k1.b (apc ((ev_range rfl (F28_3_ok x2 a2 a3 a1 (a1.size : Int) h3) rfl) : ev prg (.rangeF (.t 12) [13, 14] ir11_a0 ir11_b0) ⟨[vs a1, (.agg [i6 a2, i6 a3]), (.p (.val undef)), .ptr 0 0, .ptr 1 0, .ptr 2 0, .ptr 3 0, (.p (.val undef)), vs a1, (i6 (a1.size : Int)), vb false, vs a1, (.fn 28 [(.ro [.val (.string x2)])]), (.p (.val undef)), (.p (.val undef)), (.p (.val undef)), (.p (.val undef)), (.p (.val undef)), (.p (.val undef)), (.p (.val undef)), (.p (.val undef)), (.p (.val undef)), (.p (.val undef)), (.p (.val undef)), (.p (.val undef)), (.p (.val undef)), (.p (.val undef)), (.p (.val undef)), (.p (.val undef)), (.p (.val undef)), (.p (.val undef)), (.p (.val undef)), (.p (.val undef)), (.p (.val undef)), (.p (.val undef)), (.p (.val undef)), (.p (.val undef)), (.p (.val undef)), (.p (.val undef)), (.p (.val undef)), (.p (.val undef))], F11_d0 a2 a3⟩ = some (.ret, ⟨[vs a1, (.agg [i6 a2, i6 a3]), (.p (.val undef)), .ptr 0 0, .ptr 1 0, .ptr 2 0, .ptr 3 0, (.p (.val undef)), vs a1, (i6 (a1.size : Int)), vb false, vs a1, (.fn 28 [(.ro [.val (.string x2)])]), (.p (.val undef)), (.p (.val undef)), (.p (.val undef)), (.p (.val undef)), (.p (.val undef)), (.p (.val undef)), (.p (.val undef)), (.p (.val undef)), (.p (.val undef)), (.p (.val undef)), (.p (.val undef)), (.p (.val undef)), (.p (.val undef)), (.p (.val undef)), (.p (.val undef)), (.p (.val undef)), (.p (.val undef)), (.p (.val undef)), (.p (.val undef)), (.p (.val undef)), (.p (.val undef)), (.p (.val undef)), (.p (.val undef)), (.p (.val undef)), (.p (.val undef)), (.p (.val undef)), (.p (.val undef)), (.p (.val undef))], [.cells 23 [i6 a2, i6 a3], .cells 3 [i6 x3_0], .cells 25 [i6 x3_1], .cells 3 [i6 x3_2], .dead, .cells 66 [.yl 4], .cells 3 [i6 x3_3], .cells 9 [vs x3_4], .cells 9 [(vs (⟨([10] : List UInt8).toArray⟩ : ByteArray))], .cells 3 [i6 0], .dead, .cells 32 [i6 x3_3, i6 x3_5]]⟩)) apn))
  | k1 x3_0 x3_1 x3_2 x3_3 x3_4 =>
   rw [← sj h]
   exact fq ([(2000, .l .norm ⟨[vs a1, (.agg [i6 a2, i6 a3]), (.p (.val undef)), .ptr 0 0, .ptr 1 0, .ptr 2 0, .ptr 3 0, (.p (.val undef)), vs a1, (i6 (a1.size : Int)), vb false, vs a1, (.fn 28 [(.ro [.val (.string x2)])]), (.p (.val undef)), (.p (.val undef)), (.p (.val undef)), (.p (.val undef)), (.p (.val undef)), (.p (.val undef)), (.p (.val undef)), (.p (.val undef)), (.p (.val undef)), (.p (.val undef)), (.p (.val undef)), (.p (.val undef)), (.p (.val undef)), (.p (.val undef)), (.p (.val undef)), (.p (.val undef)), (.p (.val undef)), (.p (.val undef)), (.p (.val undef)), (.p (.val undef)), (.p (.val undef)), (.p (.val undef)), (.p (.val undef)), (.p (.val undef)), (.p (.val undef)), (.p (.val undef)), (.p (.val undef)), (.p (.val undef))], [.cells 23 [i6 a2, i6 a3], .cells 3 [i6 0], .cells 25 [i6 0], .cells 3 [i6 x3_0], .dead, .cells 66 [.yl 4], .cells 3 [i6 x3_1], .cells 9 [vs x3_2], .cells 9 [(vs (⟨([10] : List UInt8).toArray⟩ : ByteArray))], .cells 3 [i6 0], .dead, .cells 32 [i6 x3_3, i6 x3_4]]⟩)] ++ kH k1) (k1.b (apc ((ev_range rfl (F28_3_ok x2 a2 a3 a1 (a1.size : Int) h3) rfl) : ev prg (.rangeF (.t 12) [13, 14] ir11_a0 ir11_b0) ⟨[vs a1, (.agg [i6 a2, i6 a3]), (.p (.val undef)), .ptr 0 0, .ptr 1 0, .ptr 2 0, .ptr 3 0, (.p (.val undef)), vs a1, (i6 (a1.size : Int)), vb false, vs a1, (.fn 28 [(.ro [.val (.string x2)])]), (.p (.val undef)), (.p (.val undef)), (.p (.val undef)), (.p (.val undef)), (.p (.val undef)), (.p (.val undef)), (.p (.val undef)), (.p (.val undef)), (.p (.val undef)), (.p (.val undef)), (.p (.val undef)), (.p (.val undef)), (.p (.val undef)), (.p (.val undef)), (.p (.val undef)), (.p (.val undef)), (.p (.val undef)), (.p (.val undef)), (.p (.val undef)), (.p (.val undef)), (.p (.val undef)), (.p (.val undef)), (.p (.val undef)), (.p (.val undef)), (.p (.val undef)), (.p (.val undef)), (.p (.val undef)), (.p (.val undef))], F11_d0 a2 a3⟩ = some (.norm, ⟨[vs a1, (.agg [i6 a2, i6 a3]), (.p (.val undef)), .ptr 0 0, .ptr 1 0, .ptr 2 0, .ptr 3 0, (.p (.val undef)), vs a1, (i6 (a1.size : Int)), vb false, vs a1, (.fn 28 [(.ro [.val (.string x2)])]), (.p (.val undef)), (.p (.val undef)), (.p (.val undef)), (.p (.val undef)), (.p (.val undef)), (.p (.val undef)), (.p (.val undef)), (.p (.val undef)), (.p (.val undef)), (.p (.val undef)), (.p (.val undef)), (.p (.val undef)), (.p (.val undef)), (.p (.val undef)), (.p (.val undef)), (.p (.val undef)), (.p (.val undef)), (.p (.val undef)), (.p (.val undef)), (.p (.val undef)), (.p (.val undef)), (.p (.val undef)), (.p (.val undef)), (.p (.val undef)), (.p (.val undef)), (.p (.val undef)), (.p (.val undef)), (.p (.val undef))], [.cells 23 [i6 a2, i6 a3], .cells 3 [i6 0], .cells 25 [i6 0], .cells 3 [i6 x3_0], .dead, .cells 66 [.yl 4], .cells 3 [i6 x3_1], .cells 9 [vs x3_2], .cells 9 [(vs (⟨([10] : List UInt8).toArray⟩ : ByteArray))], .cells 3 [i6 0], .dead, .cells 32 [i6 x3_3, i6 x3_4]]⟩)) apn))
inductive E_L3_0 where
  | k0
  | k1
section
variable (a1 : ByteArray) (a2 a3 a4 a5 : Int)
abbrev L3_0_p (l : List AB) : List AB := .cells 23 [i6 a2, i6 a3] :: .cells 23 [i6 a4, i6 a5] :: l
def L3_0 (v1 : Int) : Option (E_L3_0 ⊕ (Int)) :=
  (bif (decide (v1 ≤ (a1.size : Int))) then ((F10 a1 v1).bind fun r2 => match r2 with | .k0 x2_0 x2_1 x2_2 => (bif ((x2_0 == a2) && ((x2_1 == a3) && true)) then (some (.inl (.k0))) else (some (.inr ((IntKind.wrap .i64 (v1 + 1))))))) else (some (.inl (.k1))))
def L3_0_s (v1 : Int) : St := ⟨fr 129 ug [(0, vs a1), (5, .ptr 0 0), (16, i6 v1)], (L3_0_p a2 a3 a4 a5 [])⟩
theorem L3_0_k (v1 : Int) : okT 2 (L3_0_s a1 a2 a3 a4 a5 v1).h = true := (okT_of rfl (ac (ac rfl)))
abbrev L3_0_e (v1 : Int) := evH prg 2 [0, 5, 16] ir3_l0 (L3_0_s a1 a2 a3 a4 a5 v1)
def L3_0_x (e : E_L3_0) (r : Option (Out × St)) : Prop := match e with | .k0 => ∃ g y, r = some (.ret, ⟨fr 129 g [(6, vb false)], y⟩) | .k1 => ∃ g, r = some ((.brk 2), ⟨fr 129 g [(0, vs a1), (5, .ptr 0 0)], (L3_0_p a2 a3 a4 a5 [])⟩)
theorem L3_0_ok (v1 : Int) {r : E_L3_0 ⊕ (Int)} (h : L3_0 a1 a2 a3 v1 = some r) : OkR (fun e => L3_0_x a1 a2 a3 a4 a5 e (L3_0_e a1 a2 a3 a4 a5 v1)) (fun s => L3_0_e a1 a2 a3 a4 a5 v1 = L3_0_e a1 a2 a3 a4 a5 s) r := by
 unfold L3_0 at h
 apply bi h <;> intro h1 h
 ·
  apply bn h; intro r2 h2 h
  cases r2 with
  | k0 x2_0 x2_1 x2_2 =>
   have q0 := (((F10_ok a1 v1 h2).cp rfl _) : CP prg 10 [vs a1, i6 v1] (L3_0_p a2 a3 a4 a5 []) = some (.tup [(.agg [i6 x2_0, i6 x2_1]), i6 x2_2]))
   have k1 := ka [(100, .d true), (106, .v (.tup [(.agg [i6 x2_0, i6 x2_1]), i6 x2_2]))] (av h1 (apc q0 apn))
   apply bi h <;> intro h3 h
   ·
    rw [← sj h]
    exact xy ([(111, .d true), (6000, .d true)] ++ kH k1) (k1.b (av h3 apn))
   ·
    rw [← sj h]
    exact rn ([(111, .d false), (6000, .d true)] ++ kH k1) (k1.b (av h3 (apc (L3_0_k a1 a2 a3 a4 a5 (w6 (v1 + 1))) apn)))
 ·
  rw [← sj h]
  exact xb [(100, .d false), (6000, .d true)] (av h1 apn)
theorem L3_0_run (s0 : Int) (e : E_L3_0) (h : runL (fun s => L3_0 a1 a2 a3 s) s0 = some e) : L3_0_x a1 a2 a3 a4 a5 e (L3_0_e a1 a2 a3 a4 a5 s0) := by
  have q := @loop_sound' (Int) E_L3_0 (fun s => L3_0 a1 a2 a3 s) (fun s => L3_0_e a1 a2 a3 a4 a5 s) (L3_0_x a1 a2 a3 a4 a5) (fun s r h => L3_0_ok a1 a2 a3 a4 a5 s h) s0 e h
  exact q
end
inductive E_L3_1 where
  | k0 (x0 x1 : Int)
section
variable (a1 : ByteArray) (a2 a3 a4 a5 a6 a7 : Int)
def L3_1 (v1 v2 v3 : Int) : Option (E_L3_1 ⊕ (Int × Int × Int)) :=
  (bif (decide (v3 < a2)) then ((getI a1.data.toList v3).bind fun x2 => (bif ((x2.toNat : Int) == 10) then (some (.inr ((IntKind.wrap .i64 (v1 + 1)), 1, (IntKind.wrap .i64 (v3 + 1))))) else (some (.inr (v1, (IntKind.wrap .i64 (v2 + 1)), (IntKind.wrap .i64 (v3 + 1))))))) else (some (.inl (.k0 v1 v2))))
def L3_1_s (v1 v2 v3 : Int) : St := ⟨fr 129 ug [(0, vs a1), (1, i6 a2), (5, .ptr 0 0), (7, .ptr 1 0), (8, i6 a3), (9, i6 v1), (10, i6 v2), (11, i6 v3)], [.cells 23 [i6 a4, i6 a5], .cells 23 [i6 a6, i6 a7]]⟩
theorem L3_1_k (v1 v2 v3 : Int) : okT 2 (L3_1_s a1 a2 a3 a4 a5 a6 a7 v1 v2 v3).h = true := (okT_of rfl (ac (ac rfl)))
abbrev L3_1_e (v1 v2 v3 : Int) := evH prg 2 [0, 1, 5, 7, 8, 9, 10, 11] ir3_l1 (L3_1_s a1 a2 a3 a4 a5 a6 a7 v1 v2 v3)
def L3_1_x (e : E_L3_1) (r : Option (Out × St)) : Prop := match e with | .k0 x0 x1 => ∃ g, r = some ((.brk 0), ⟨fr 129 g [(0, vs a1), (1, i6 a2), (5, .ptr 0 0), (7, .ptr 1 0), (8, i6 a3), (9, i6 x0), (10, i6 x1)], [.cells 23 [i6 a4, i6 a5], .cells 23 [i6 a6, i6 a7]]⟩)
theorem L3_1_ok (v1 v2 v3 : Int) {r : E_L3_1 ⊕ (Int × Int × Int)} (h : L3_1 a1 a2 v1 v2 v3 = some r) : OkR (fun e => L3_1_x a1 a2 a3 a4 a5 a6 a7 e (L3_1_e a1 a2 a3 a4 a5 a6 a7 v1 v2 v3)) (fun s => L3_1_e a1 a2 a3 a4 a5 a6 a7 v1 v2 v3 = L3_1_e a1 a2 a3 a4 a5 a6 a7 s.1 s.2.1 s.2.2) r := by
 unfold L3_1 at h
 apply bi h <;> intro h1 h
 ·
  apply bn h; intro x2 h2 h
  have q0 := ((ix_str h2) : ixS (vs a1) (i6 v3) = some (vi .u8 (x2.toNat : Int)))
  have k1 := ka [(48, .d true), (55, .v (vi .u8 (x2.toNat : Int)))] (av h1 (apc q0 apn))
  apply bi h <;> intro h3 h
  ·
   rw [← sj h]
   exact rn ([(56, .d true), (6000, .d true)] ++ kH k1) (k1.b (av h3 (apc (L3_1_k a1 a2 a3 a4 a5 a6 a7 (w6 (v1 + 1)) 1 (w6 (v3 + 1))) apn)))
  ·
   rw [← sj h]
   exact rn ([(56, .d false), (6000, .d true)] ++ kH k1) (k1.b (av h3 (apc (L3_1_k a1 a2 a3 a4 a5 a6 a7 v1 (w6 (v2 + 1)) (w6 (v3 + 1))) apn)))
 ·
  rw [← sj h]
  exact xb [(48, .d false), (6000, .d true)] (av h1 apn)
theorem L3_1_run (s0 : Int × Int × Int) (e : E_L3_1) (h : runL (fun s => L3_1 a1 a2 s.1 s.2.1 s.2.2) s0 = some e) : L3_1_x a1 a2 a3 a4 a5 a6 a7 e (L3_1_e a1 a2 a3 a4 a5 a6 a7 s0.1 s0.2.1 s0.2.2) := by
  have q := @loop_sound' (Int × Int × Int) E_L3_1 (fun s => L3_1 a1 a2 s.1 s.2.1 s.2.2) (fun s => L3_1_e a1 a2 a3 a4 a5 a6 a7 s.1 s.2.1 s.2.2) (L3_1_x a1 a2 a3 a4 a5 a6 a7) (fun s r h => L3_1_ok a1 a2 a3 a4 a5 a6 a7 s.1 s.2.1 s.2.2 h) s0 e h
  exact q
end
def F3_v (a1 : ByteArray) (a2 a3 a4 : Int) (x0 : Bool) : AV := (vb x0)
def F3 (a1 : ByteArray) (a2 a3 a4 : Int) : Option Bool :=
  (bif (decide ((a1.size : Int) > 5000)) then ((F9).bind fun x2 => (some x2)) else ((F10 a1 a2).bind fun r2 => match r2 with | .k0 x2_0 x2_1 x2_2 => (bif (decide (a2 < 0)) then (bif (!((x2_0 == 0) && ((x2_1 == 0) && true))) then (some false) else (bif (x2_2 != 4) then (some false) else ((F11 a1 a3 a4).bind fun r6 => match r6 with | .k0 x6_0 x6_1 => (bif (x6_1 != 0) then (bif (x6_0 != 0) then (some false) else (bif (x6_1 != 4) then (some false) else ((runL (fun s => L3_0 a1 a3 a4 s) 0).bind fun r10 => match r10 with | .k0 => (some false) | .k1 => ((F9).bind fun x11 => (some x11))))) else ((F10 a1 x6_0).bind fun r8 => match r8 with | .k0 x8_0 x8_1 x8_2 => (bif ((x8_0 == a3) && ((x8_1 == a4) && true)) then (bif (x8_2 == 0) then ((F9).bind fun x11 => (some x11)) else (some false)) else (some false))))))) else (bif (decide (a2 > (a1.size : Int))) then (bif (!((x2_0 == 0) && ((x2_1 == 0) && true))) then (some false) else (bif (x2_2 != 4) then (some false) else ((F11 a1 a3 a4).bind fun r7 => match r7 with | .k0 x7_0 x7_1 => (bif (x7_1 != 0) then (bif (x7_0 != 0) then (some false) else (bif (x7_1 != 4) then (some false) else ((runL (fun s => L3_0 a1 a3 a4 s) 0).bind fun r11 => match r11 with | .k0 => (some false) | .k1 => ((F9).bind fun x12 => (some x12))))) else ((F10 a1 x7_0).bind fun r9 => match r9 with | .k0 x9_0 x9_1 x9_2 => (bif ((x9_0 == a3) && ((x9_1 == a4) && true)) then (bif (x9_2 == 0) then ((F9).bind fun x12 => (some x12)) else (some false)) else (some false))))))) else ((runL (fun s => L3_1 a1 a2 s.1 s.2.1 s.2.2) (1, 1, 0)).bind fun r5 => match r5 with | .k0 x5_0 x5_1 => ((F11 a1 x2_0 x2_1).bind fun r6 => match r6 with | .k0 x6_0 x6_1 => (bif (!((x2_0 == x5_0) && ((x2_1 == x5_1) && true))) then (some false) else (bif (x2_2 != 0) then (some false) else (bif (x6_0 != a2) then (some false) else (bif (x6_1 != 0) then (some false) else ((F11 a1 a3 a4).bind fun r11 => match r11 with | .k0 x11_0 x11_1 => (bif (x11_1 != 0) then (bif (x11_0 != 0) then (some false) else (bif (x11_1 != 4) then (some false) else ((runL (fun s => L3_0 a1 a3 a4 s) 0).bind fun r15 => match r15 with | .k0 => (some false) | .k1 => ((F9).bind fun x16 => (some x16))))) else ((F10 a1 x11_0).bind fun r13 => match r13 with | .k0 x13_0 x13_1 x13_2 => (bif ((x13_0 == a3) && ((x13_1 == a4) && true)) then (bif (x13_2 == 0) then ((F9).bind fun x16 => (some x16)) else (some false)) else (some false)))))))))))))))
abbrev F3_d0 (a3 a4 x2_0 x2_1 : Int) : List AB := [.cells 23 [i6 a3, i6 a4], .cells 23 [i6 x2_0, i6 x2_1]]
abbrev F3_d1 (g10 : Nat → AV) (a1 : ByteArray) (a3 a4 x2_0 x2_1 : Int) : St := ⟨fr 129 g10 [(0, vs a1), (5, .ptr 0 0)], [.cells 23 [i6 a3, i6 a4], .cells 23 [i6 x2_0, i6 x2_1]]⟩
abbrev F3_d2 (g11 : Nat → AV) (a1 : ByteArray) (a3 a4 x2_0 x2_1 : Int) : St := ⟨fr 129 g11 [(0, vs a1), (5, .ptr 0 0)], [.cells 23 [i6 a3, i6 a4], .cells 23 [i6 x2_0, i6 x2_1]]⟩
abbrev F3_d3 (g5 : Nat → AV) (a1 : ByteArray) (a2 x2_2 x5_0 x5_1 a3 a4 x2_0 x2_1 : Int) : St := ⟨fr 129 g5 [(0, vs a1), (1, i6 a2), (5, .ptr 0 0), (7, .ptr 1 0), (8, i6 x2_2), (9, i6 x5_0), (10, i6 x5_1)], [.cells 23 [i6 a3, i6 a4], .cells 23 [i6 x2_0, i6 x2_1]]⟩
abbrev F3_d4 (g15 : Nat → AV) (a1 : ByteArray) (a3 a4 x2_0 x2_1 : Int) : St := ⟨fr 129 g15 [(0, vs a1), (5, .ptr 0 0)], [.cells 23 [i6 a3, i6 a4], .cells 23 [i6 x2_0, i6 x2_1]]⟩
theorem F3_ok (a1 : ByteArray) (a2 a3 a4 : Int) {r : Bool} (h : F3 a1 a2 a3 a4 = some r) : PR1 prg 3 [vs a1, i6 a2, (.agg [i6 a3, i6 a4])] (F3_v a1 a2 a3 a4 r) := by
 unfold F3 at h
 apply bi h <;> intro h1 h
 ·
  apply bn h; intro x2 h2 h
  rw [← sj h]
  exact fq [(23, .d true), (24, .v (vb x2))] (av h1 (apc (((F9_ok  h2).cp rfl _) : CP prg 9 [] [.cells 23 [i6 a3, i6 a4]] = some (vb x2)) apn))
 ·
  apply bn h; intro r2 h2 h
  cases r2 with
  | k0 x2_0 x2_1 x2_2 =>
   have q0 := (((F10_ok a1 a2 h2).cp rfl _) : CP prg 10 [vs a1, i6 a2] [.cells 23 [i6 a3, i6 a4]] = some (.tup [(.agg [i6 x2_0, i6 x2_1]), i6 x2_2]))
   have k1 := ka [(23, .d false), (28, .v (.tup [(.agg [i6 x2_0, i6 x2_1]), i6 x2_2]))] (av h1 (apc q0 apn))
   apply bi h <;> intro h3 h
   ·
    apply bi h <;> intro h4 h
    ·
     rw [← sj h]
     exact fq ([(32, .d true), (41, .d true)] ++ kH k1) (k1.b (av h3 (av h4 apn)))
    ·
     have k2 := k1.a [(32, .d true), (41, .d false)] (av h3 (av h4 apn))
     apply bi h <;> intro h5 h
     ·
      rw [← sj h]
      exact fq ([(44, .d true)] ++ kH k2) (k2.b (av h5 apn))
     ·
      apply bn h; intro r6 h6 h
      cases r6 with
      | k0 x6_0 x6_1 =>
       have q3 := (((F11_ok a1 a3 a4 h6).cp rfl _) : CP prg 11 [vs a1, (.agg [i6 a3, i6 a4])] (F3_d0 a3 a4 x2_0 x2_1) = some (.tup [i6 x6_0, i6 x6_1]))
       have k4 := k2.a [(44, .d false), (86, .v (.tup [i6 x6_0, i6 x6_1]))] (av h5 (apc q3 apn))
       apply bi h <;> intro h7 h
       ·
        apply bi h <;> intro h8 h
        ·
         rw [← sj h]
         exact fq ([(90, .d true), (92, .d true)] ++ kH k4) (k4.b (av h7 (av h8 apn)))
        ·
         have k5 := k4.a [(90, .d true), (92, .d false)] (av h7 (av h8 apn))
         apply bi h <;> intro h9 h
         ·
          rw [← sj h]
          exact fq ([(95, .d true)] ++ kH k5) (k5.b (av h9 apn))
         ·
          apply bn h; intro r10 h10 h
          cases r10 with
          | k0 =>
           obtain ⟨g10, y10, e10⟩ := L3_0_run a1 a3 a4 x2_0 x2_1 0 _ h10
           rw [← sj h]
           exact fq ([(95, .d false), (2002, .l .ret ⟨fr 129 g10 [(6, vb false)], y10⟩), (6000, .d true)] ++ kH k5) (k5.b (av h9 (apc (L3_0_k a1 a3 a4 x2_0 x2_1 0) (apc (e10 : L3_0_e a1 a3 a4 x2_0 x2_1 0 = some (.ret, ⟨fr 129 g10 [(6, vb false)], y10⟩)) apn))))
          | k1 =>
           obtain ⟨g10, e10⟩ := L3_0_run a1 a3 a4 x2_0 x2_1 0 _ h10
           apply bn h; intro x11 h11 h
           rw [← sj h]
           exact fq ([(95, .d false), (2002, .l (.brk 2) (F3_d1 g10 a1 a3 a4 x2_0 x2_1)), (112, .v (vb x11)), (6000, .d true)] ++ kH k5) (k5.b (av h9 (apc (L3_0_k a1 a3 a4 x2_0 x2_1 0) (apc (e10 : L3_0_e a1 a3 a4 x2_0 x2_1 0 = some ((.brk 2), F3_d1 g10 a1 a3 a4 x2_0 x2_1)) (apc (((F9_ok  h11).cp rfl _) : CP prg 9 [] (F3_d0 a3 a4 x2_0 x2_1) = some (vb x11)) apn)))))
       ·
        apply bn h; intro r8 h8 h
        cases r8 with
        | k0 x8_0 x8_1 x8_2 =>
         have q6 := (((F10_ok a1 x6_0 h8).cp rfl _) : CP prg 10 [vs a1, i6 x6_0] (F3_d0 a3 a4 x2_0 x2_1) = some (.tup [(.agg [i6 x8_0, i6 x8_1]), i6 x8_2]))
         have k7 := k4.a [(90, .d false), (116, .v (.tup [(.agg [i6 x8_0, i6 x8_1]), i6 x8_2]))] (av h7 (apc q6 apn))
         apply bi h <;> intro h9 h
         ·
          apply bi h <;> intro h10 h
          ·
           apply bn h; intro x11 h11 h
           rw [← sj h]
           exact fq ([(121, .d true), (124, .d true), (127, .v (vb x11))] ++ kH k7) (k7.b (av h9 (av h10 (apc (((F9_ok  h11).cp rfl _) : CP prg 9 [] [.cells 23 [i6 a3, i6 a4], .cells 23 [i6 x2_0, i6 x2_1], .cells 23 [i6 x8_0, i6 x8_1]] = some (vb x11)) apn))))
          ·
           rw [← sj h]
           exact fq ([(121, .d true), (124, .d false)] ++ kH k7) (k7.b (av h9 (av h10 apn)))
         ·
          rw [← sj h]
          exact fq ([(121, .d false)] ++ kH k7) (k7.b (av h9 apn))
   ·
    apply bi h <;> intro h4 h
    ·
     have k8 := k1.a [(32, .d false), (37, .d true)] (av h3 (av h4 apn))
     apply bi h <;> intro h5 h
     ·
      rw [← sj h]
      exact fq ([(41, .d true)] ++ kH k8) (k8.b (av h5 apn))
     ·
      apply bi h <;> intro h6 h
      ·
       rw [← sj h]
       exact fq ([(41, .d false), (44, .d true)] ++ kH k8) (k8.b (av h5 (av h6 apn)))
      ·
       have k9 := k8.a [(41, .d false), (44, .d false)] (av h5 (av h6 apn))
       apply bn h; intro r7 h7 h
       cases r7 with
       | k0 x7_0 x7_1 =>
        have q10 := (((F11_ok a1 a3 a4 h7).cp rfl _) : CP prg 11 [vs a1, (.agg [i6 a3, i6 a4])] (F3_d0 a3 a4 x2_0 x2_1) = some (.tup [i6 x7_0, i6 x7_1]))
        have k11 := k9.a [(86, .v (.tup [i6 x7_0, i6 x7_1]))] (apc q10 apn)
        apply bi h <;> intro h8 h
        ·
         apply bi h <;> intro h9 h
         ·
          rw [← sj h]
          exact fq ([(90, .d true), (92, .d true)] ++ kH k11) (k11.b (av h8 (av h9 apn)))
         ·
          have k12 := k11.a [(90, .d true), (92, .d false)] (av h8 (av h9 apn))
          apply bi h <;> intro h10 h
          ·
           rw [← sj h]
           exact fq ([(95, .d true)] ++ kH k12) (k12.b (av h10 apn))
          ·
           apply bn h; intro r11 h11 h
           cases r11 with
           | k0 =>
            obtain ⟨g11, y11, e11⟩ := L3_0_run a1 a3 a4 x2_0 x2_1 0 _ h11
            rw [← sj h]
            exact fq ([(95, .d false), (2002, .l .ret ⟨fr 129 g11 [(6, vb false)], y11⟩), (6000, .d true)] ++ kH k12) (k12.b (av h10 (apc (L3_0_k a1 a3 a4 x2_0 x2_1 0) (apc (e11 : L3_0_e a1 a3 a4 x2_0 x2_1 0 = some (.ret, ⟨fr 129 g11 [(6, vb false)], y11⟩)) apn))))
           | k1 =>
            obtain ⟨g11, e11⟩ := L3_0_run a1 a3 a4 x2_0 x2_1 0 _ h11
            apply bn h; intro x12 h12 h
            rw [← sj h]
            exact fq ([(95, .d false), (2002, .l (.brk 2) (F3_d2 g11 a1 a3 a4 x2_0 x2_1)), (112, .v (vb x12)), (6000, .d true)] ++ kH k12) (k12.b (av h10 (apc (L3_0_k a1 a3 a4 x2_0 x2_1 0) (apc (e11 : L3_0_e a1 a3 a4 x2_0 x2_1 0 = some ((.brk 2), F3_d2 g11 a1 a3 a4 x2_0 x2_1)) (apc (((F9_ok  h12).cp rfl _) : CP prg 9 [] (F3_d0 a3 a4 x2_0 x2_1) = some (vb x12)) apn)))))
        ·
         apply bn h; intro r9 h9 h
         cases r9 with
         | k0 x9_0 x9_1 x9_2 =>
          have q13 := (((F10_ok a1 x7_0 h9).cp rfl _) : CP prg 10 [vs a1, i6 x7_0] (F3_d0 a3 a4 x2_0 x2_1) = some (.tup [(.agg [i6 x9_0, i6 x9_1]), i6 x9_2]))
          have k14 := k11.a [(90, .d false), (116, .v (.tup [(.agg [i6 x9_0, i6 x9_1]), i6 x9_2]))] (av h8 (apc q13 apn))
          apply bi h <;> intro h10 h
          ·
           apply bi h <;> intro h11 h
           ·
            apply bn h; intro x12 h12 h
            rw [← sj h]
            exact fq ([(121, .d true), (124, .d true), (127, .v (vb x12))] ++ kH k14) (k14.b (av h10 (av h11 (apc (((F9_ok  h12).cp rfl _) : CP prg 9 [] [.cells 23 [i6 a3, i6 a4], .cells 23 [i6 x2_0, i6 x2_1], .cells 23 [i6 x9_0, i6 x9_1]] = some (vb x12)) apn))))
           ·
            rw [← sj h]
            exact fq ([(121, .d true), (124, .d false)] ++ kH k14) (k14.b (av h10 (av h11 apn)))
          ·
           rw [← sj h]
           exact fq ([(121, .d false)] ++ kH k14) (k14.b (av h10 apn))
    ·
     have k15 := k1.a [(32, .d false), (37, .d false)] (av h3 (av h4 apn))
     apply bn h; intro r5 h5 h
     cases r5 with
     | k0 x5_0 x5_1 =>
      obtain ⟨g5, e5⟩ := L3_1_run a1 a2 x2_2 a3 a4 x2_0 x2_1 (1, 1, 0) _ h5
      have q16 := (e5 : L3_1_e a1 a2 x2_2 a3 a4 x2_0 x2_1 1 1 0 = some ((.brk 0), F3_d3 g5 a1 a2 x2_2 x5_0 x5_1 a3 a4 x2_0 x2_1))
      have k17 := k15.a [(2000, .l (.brk 0) (F3_d3 g5 a1 a2 x2_2 x5_0 x5_1 a3 a4 x2_0 x2_1))] (apc (L3_1_k a1 a2 x2_2 a3 a4 x2_0 x2_1 1 1 0) (apc q16 apn))
      apply bn h; intro r6 h6 h
      cases r6 with
      | k0 x6_0 x6_1 =>
       have q18 := (((F11_ok a1 x2_0 x2_1 h6).cp rfl _) : CP prg 11 [vs a1, (.agg [i6 x2_0, i6 x2_1])] (F3_d0 a3 a4 x2_0 x2_1) = some (.tup [i6 x6_0, i6 x6_1]))
       have k19 := k17.a [(62, .v (.tup [i6 x6_0, i6 x6_1]))] (apc q18 apn)
       apply bi h <;> intro h7 h
       ·
        rw [← sj h]
        exact fq ([(69, .d true), (6000, .d true)] ++ kH k19) (k19.b (av h7 apn))
       ·
        apply bi h <;> intro h8 h
        ·
         rw [← sj h]
         exact fq ([(69, .d false), (72, .d true), (6000, .d true)] ++ kH k19) (k19.b (av h7 (av h8 apn)))
        ·
         have k20 := k19.a [(69, .d false), (72, .d false)] (av h7 (av h8 apn))
         apply bi h <;> intro h9 h
         ·
          rw [← sj h]
          exact fq ([(77, .d true), (6000, .d true)] ++ kH k20) (k20.b (av h9 apn))
         ·
          apply bi h <;> intro h10 h
          ·
           rw [← sj h]
           exact fq ([(77, .d false), (81, .d true), (6000, .d true)] ++ kH k20) (k20.b (av h9 (av h10 apn)))
          ·
           have k21 := k20.a [(77, .d false), (81, .d false)] (av h9 (av h10 apn))
           apply bn h; intro r11 h11 h
           cases r11 with
           | k0 x11_0 x11_1 =>
            have q22 := (((F11_ok a1 a3 a4 h11).cp rfl _) : CP prg 11 [vs a1, (.agg [i6 a3, i6 a4])] (F3_d0 a3 a4 x2_0 x2_1) = some (.tup [i6 x11_0, i6 x11_1]))
            have k23 := k21.a [(86, .v (.tup [i6 x11_0, i6 x11_1]))] (apc q22 apn)
            apply bi h <;> intro h12 h
            ·
             apply bi h <;> intro h13 h
             ·
              rw [← sj h]
              exact fq ([(90, .d true), (92, .d true), (6000, .d true)] ++ kH k23) (k23.b (av h12 (av h13 apn)))
             ·
              have k24 := k23.a [(90, .d true), (92, .d false)] (av h12 (av h13 apn))
              apply bi h <;> intro h14 h
              ·
               rw [← sj h]
               exact fq ([(95, .d true), (6000, .d true)] ++ kH k24) (k24.b (av h14 apn))
              ·
               apply bn h; intro r15 h15 h
               cases r15 with
               | k0 =>
                obtain ⟨g15, y15, e15⟩ := L3_0_run a1 a3 a4 x2_0 x2_1 0 _ h15
                rw [← sj h]
                exact fq ([(95, .d false), (2002, .l .ret ⟨fr 129 g15 [(6, vb false)], y15⟩), (6000, .d true)] ++ kH k24) (k24.b (av h14 (apc (L3_0_k a1 a3 a4 x2_0 x2_1 0) (apc (e15 : L3_0_e a1 a3 a4 x2_0 x2_1 0 = some (.ret, ⟨fr 129 g15 [(6, vb false)], y15⟩)) apn))))
               | k1 =>
                obtain ⟨g15, e15⟩ := L3_0_run a1 a3 a4 x2_0 x2_1 0 _ h15
                apply bn h; intro x16 h16 h
                rw [← sj h]
                exact fq ([(95, .d false), (2002, .l (.brk 2) (F3_d4 g15 a1 a3 a4 x2_0 x2_1)), (112, .v (vb x16)), (6000, .d true)] ++ kH k24) (k24.b (av h14 (apc (L3_0_k a1 a3 a4 x2_0 x2_1 0) (apc (e15 : L3_0_e a1 a3 a4 x2_0 x2_1 0 = some ((.brk 2), F3_d4 g15 a1 a3 a4 x2_0 x2_1)) (apc (((F9_ok  h16).cp rfl _) : CP prg 9 [] (F3_d0 a3 a4 x2_0 x2_1) = some (vb x16)) apn)))))
            ·
             apply bn h; intro r13 h13 h
             cases r13 with
             | k0 x13_0 x13_1 x13_2 =>
              have q25 := (((F10_ok a1 x11_0 h13).cp rfl _) : CP prg 10 [vs a1, i6 x11_0] (F3_d0 a3 a4 x2_0 x2_1) = some (.tup [(.agg [i6 x13_0, i6 x13_1]), i6 x13_2]))
              have k26 := k23.a [(90, .d false), (116, .v (.tup [(.agg [i6 x13_0, i6 x13_1]), i6 x13_2]))] (av h12 (apc q25 apn))
              apply bi h <;> intro h14 h
              ·
               apply bi h <;> intro h15 h
               ·
                apply bn h; intro x16 h16 h
                rw [← sj h]
                exact fq ([(121, .d true), (124, .d true), (127, .v (vb x16)), (6000, .d true)] ++ kH k26) (k26.b (av h14 (av h15 (apc (((F9_ok  h16).cp rfl _) : CP prg 9 [] [.cells 23 [i6 a3, i6 a4], .cells 23 [i6 x2_0, i6 x2_1], .cells 23 [i6 x13_0, i6 x13_1]] = some (vb x16)) apn))))
               ·
                rw [← sj h]
                exact fq ([(121, .d true), (124, .d false), (6000, .d true)] ++ kH k26) (k26.b (av h14 (av h15 apn)))
              ·
               rw [← sj h]
               exact fq ([(121, .d false), (6000, .d true)] ++ kH k26) (k26.b (av h14 apn))
end
end Go.Proofs.Tryd
