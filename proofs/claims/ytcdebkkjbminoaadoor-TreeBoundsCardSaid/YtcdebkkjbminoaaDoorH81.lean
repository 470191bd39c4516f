/- Decompiled by a program: functions that tree.Read calls, as plain data see them. -/
import Derived.Test.YtcdebkkjbminoaaDoorT8
namespace Go.Proofs.Tryd
set_option linter.unusedSimpArgs false
set_option linter.unusedVariables false
set_option maxHeartbeats 4000000
open Go Go.Vs
noncomputable section
section
variable {E : Er}
def F66_2_v (a1 : ByteArray) (x0 : Bool) : AV := (vb x0)
def F66_2 (a1 : ByteArray) : Option Bool :=
  (bif (decide ((a1.size : Int) ≥ 1)) then (bif (sl_ok 0 1 a1.size) then (some ((a1.extract (Int.toNat 0) (Int.toNat 1)).toList == (⟨([120] : List UInt8).toArray⟩ : ByteArray).toList)) else none) else (some false))
theorem F66_2_ok (a1 : ByteArray) {r : Bool} (h : F66_2 a1 = some r) : PR1 (prgR E) 66 [vs a1, (vs (⟨([120] : List UInt8).toArray⟩ : ByteArray))] (F66_2_v a1 r) := by
 unfold F66_2 at h
 apply bi h <;> intro h1 h
 ·
  apply bi h <;> intro h2 h
  ·
   rw [← sj h]
   exact fq [(9, .d true), (14, .v (vs (a1.extract (Int.toNat 0) (Int.toNat 1))))] (av h1 (apc ((sl_str h2) : slS (vs a1) (some 0) (some 1) = some (vs (a1.extract (Int.toNat 0) (Int.toNat 1)))) apn))
  ·
   cases h
 ·
  rw [← sj h]
  exact fq [(9, .d false)] (av h1 apn)
inductive R_F60_2 where
  | k0 (x0 : ByteArray) (x1 : Bool)
def F60_2_v (a1 : ByteArray) (r : R_F60_2) : AV := match r with | .k0 x0 x1 => (.tup [vs x0, vb x1])
def F60_2 (a1 : ByteArray) : Option R_F60_2 :=
  ((F66_2 a1).bind fun x1 => (bif x1 then (bif (sl_ok 1 (a1.size : Int) a1.size) then (some (.k0 (a1.extract (Int.toNat 1) (Int.toNat (a1.size : Int))) true)) else none) else (some (.k0 a1 false))))
theorem F60_2_ok (a1 : ByteArray) {r : R_F60_2} (h : F60_2 a1 = some r) : PR1 (prgR E) 60 [vs a1, (vs (⟨([120] : List UInt8).toArray⟩ : ByteArray))] (F60_2_v a1 r) := by
 unfold F60_2 at h
 apply bn h; intro x1 h1 h
 apply bi h <;> intro h2 h
 ·
  have q0 := ((((F66_2_ok a1 h1).cp rfl _).trans (congrArg (fun z => some (vb z)) h2)) : CP (prgR E) 66 [vs a1, (vs (⟨([120] : List UInt8).toArray⟩ : ByteArray))] [] = some (vb true))
  apply bi h <;> intro h3 h
  ·
   rw [← sj h]
   exact fq [(8, .v (vb true)), (14, .v (vs (a1.extract (Int.toNat 1) (Int.toNat (a1.size : Int)))))] (apc q0 (apc ((sl_str h3) : slS (vs a1) (some 1) (some (a1.size : Int)) = some (vs (a1.extract (Int.toNat 1) (Int.toNat (a1.size : Int))))) apn))
  ·
   cases h
 ·
  rw [← sj h]
  exact fq [(8, .v (vb false))] (apc ((((F66_2_ok a1 h1).cp rfl _).trans (congrArg (fun z => some (vb z)) h2)) : CP (prgR E) 66 [vs a1, (vs (⟨([120] : List UInt8).toArray⟩ : ByteArray))] [] = some (vb false)) apn)
inductive R_F38_2 where
  | k0 (x0 : ByteArray) (x1 : Bool)
def F38_2_v (a1 : ByteArray) (r : R_F38_2) : AV := match r with | .k0 x0 x1 => (.tup [vs x0, vb x1])
def F38_2 (a1 : ByteArray) : Option R_F38_2 :=
  ((F60_2 a1).bind fun r1 => match r1 with | .k0 x1_0 x1_1 => (some (.k0 x1_0 x1_1)))
theorem F38_2_ok (a1 : ByteArray) {r : R_F38_2} (h : F38_2 a1 = some r) : PR1 (prgR E) 38 [vs a1, (vs (⟨([120] : List UInt8).toArray⟩ : ByteArray))] (F38_2_v a1 r) := by
 unfold F38_2 at h
 apply bn h; intro r1 h1 h
 cases r1 with
 | k0 x1_0 x1_1 =>
  rw [← sj h]
  exact fq [(8, .v (.tup [vs x1_0, vb x1_1]))] (apc (((F60_2_ok a1 h1).cp rfl _) : CP (prgR E) 60 [vs a1, (vs (⟨([120] : List UInt8).toArray⟩ : ByteArray))] [] = some (.tup [vs x1_0, vb x1_1])) apn)
def F61_2_v (a1 : Int) (x0 : Int) : AV := (i6 x0)
def F61_2 (a1 : Int) : Option Int :=
  (some (firstIdx (⟨([48, 49, 50, 51, 52, 53, 54, 55, 56, 57, 97, 98, 99, 100, 101, 102] : List UInt8).toArray⟩ : ByteArray) (Int.toNat a1).toUInt8))
theorem F61_2_ok (a1 : Int) {r : Int} (h : F61_2 a1 = some r) : PR1 (prgR E) 61 [(vs (⟨([48, 49, 50, 51, 52, 53, 54, 55, 56, 57, 97, 98, 99, 100, 101, 102] : List UInt8).toArray⟩ : ByteArray)), vi .u8 a1] (F61_2_v a1 r) := by
 unfold F61_2 at h
 rw [← sj h]
 exact fq [] apn
def F39_2_v (a1 : Int) (x0 : Int) : AV := (i6 x0)
def F39_2 (a1 : Int) : Option Int :=
  ((F61_2 a1).bind fun x1 => (some x1))
theorem F39_2_ok (a1 : Int) {r : Int} (h : F39_2 a1 = some r) : PR1 (prgR E) 39 [(vs (⟨([48, 49, 50, 51, 52, 53, 54, 55, 56, 57, 97, 98, 99, 100, 101, 102] : List UInt8).toArray⟩ : ByteArray)), vi .u8 a1] (F39_2_v a1 r) := by
 unfold F39_2 at h
 apply bn h; intro x1 h1 h
 rw [← sj h]
 exact fq [(7, .v (i6 x1))] (apc (((F61_2_ok a1 h1).cp rfl _) : CP (prgR E) 61 [(vs (⟨([48, 49, 50, 51, 52, 53, 54, 55, 56, 57, 97, 98, 99, 100, 101, 102] : List UInt8).toArray⟩ : ByteArray)), vi .u8 a1] [] = some (i6 x1)) apn)
def F61_v (a1 : ByteArray) (a2 : Int) (x0 : Int) : AV := (i6 x0)
def F61 (a1 : ByteArray) (a2 : Int) : Option Int :=
  (some (firstIdx a1 (Int.toNat a2).toUInt8))
theorem F61_ok (a1 : ByteArray) (a2 : Int) {r : Int} (h : F61 a1 a2 = some r) : PR1 (prgR E) 61 [vs a1, vi .u8 a2] (F61_v a1 a2 r) := by
 unfold F61 at h
 rw [← sj h]
 exact fq [] apn
def F75_2_v (a1 : ByteArray) (x0 : Int) : AV := (i6 x0)
def F75_2 (a1 : ByteArray) : Option Int :=
  (bif ((⟨([40] : List UInt8).toArray⟩ : ByteArray).toList == a1.toList) then (some 0) else ((getI (⟨([40] : List UInt8).toArray⟩ : ByteArray).data.toList 0).bind fun x2 => ((F61 a1 (x2.toNat : Int)).bind fun x3 => (some x3))))
theorem F75_2_ok (a1 : ByteArray) {r : Int} (h : F75_2 a1 = some r) : PR1 (prgR E) 75 [vs a1, (vs (⟨([40] : List UInt8).toArray⟩ : ByteArray))] (F75_2_v a1 r) := by
 unfold F75_2 at h
 apply bi h <;> intro h1 h
 ·
  rw [← sj h]
  exact fq [(22, .d true)] (av h1 apn)
 ·
  apply bn h; intro x2 h2 h
  apply bn h; intro x3 h3 h
  rw [← sj h]
  exact fq [(22, .d false), (29, .v (vi .u8 (x2.toNat : Int))), (30, .v (i6 x3))] (av h1 (apc ((ix_str h2) : ixS (vs (⟨([40] : List UInt8).toArray⟩ : ByteArray)) (i6 0) = some (vi .u8 (x2.toNat : Int))) (apc (((F61_ok a1 (x2.toNat : Int) h3).cp rfl _) : CP (prgR E) 61 [vs a1, (vi .u8 (x2.toNat : Int))] [] = some (i6 x3)) apn)))
inductive R_F62_2 where
  | k0 (x0 x1 : ByteArray) (x2 : Bool)
def F62_2_v (a1 : ByteArray) (r : R_F62_2) : AV := match r with | .k0 x0 x1 x2 => (.tup [vs x0, vs x1, vb x2])
def F62_2 (a1 : ByteArray) : Option R_F62_2 :=
  ((F75_2 a1).bind fun x1 => (bif (decide (x1 ≥ 0)) then (bif (sl_ok 0 x1 a1.size) then (bif (sl_ok (IntKind.wrap .i64 (x1 + 1)) (a1.size : Int) a1.size) then (some (.k0 (a1.extract (Int.toNat 0) (Int.toNat x1)) (a1.extract (Int.toNat (IntKind.wrap .i64 (x1 + 1))) (Int.toNat (a1.size : Int))) true)) else none) else none) else (some (.k0 a1 (⟨([] : List UInt8).toArray⟩ : ByteArray) false))))
theorem F62_2_ok (a1 : ByteArray) {r : R_F62_2} (h : F62_2 a1 = some r) : PR1 (prgR E) 62 [vs a1, (vs (⟨([40] : List UInt8).toArray⟩ : ByteArray))] (F62_2_v a1 r) := by
 unfold F62_2 at h
 apply bn h; intro x1 h1 h
 have q0 := (((F75_2_ok a1 h1).cp rfl _) : CP (prgR E) 75 [vs a1, (vs (⟨([40] : List UInt8).toArray⟩ : ByteArray))] [] = some (i6 x1))
 apply bi h <;> intro h2 h
 ·
  have k1 := ka [(10, .v (i6 x1)), (12, .d true)] (apc q0 (av h2 apn))
  apply bi h <;> intro h3 h
  ·
   have q2 := ((sl_str h3) : slS (vs a1) (some 0) (some x1) = some (vs (a1.extract (Int.toNat 0) (Int.toNat x1))))
   have k3 := k1.a [(15, .v (vs (a1.extract (Int.toNat 0) (Int.toNat x1))))] (apc q2 apn)
   apply bi h <;> intro h4 h
   ·
    rw [← sj h]
    exact fq ([(21, .v (vs (a1.extract (Int.toNat (w6 (x1 + 1))) (Int.toNat (a1.size : Int)))))] ++ kH k3) (k3.b (apc ((sl_str h4) : slS (vs a1) (some (w6 (x1 + 1))) (some (a1.size : Int)) = some (vs (a1.extract (Int.toNat (w6 (x1 + 1))) (Int.toNat (a1.size : Int))))) apn))
   ·
    cases h
  ·
   cases h
 ·
  rw [← sj h]
  exact fq [(10, .v (i6 x1)), (12, .d false)] (apc q0 (av h2 apn))
inductive R_F40_2 where
  | k0 (x0 x1 : ByteArray) (x2 : Bool)
def F40_2_v (a1 : ByteArray) (r : R_F40_2) : AV := match r with | .k0 x0 x1 x2 => (.tup [vs x0, vs x1, vb x2])
def F40_2 (a1 : ByteArray) : Option R_F40_2 :=
  ((F62_2 a1).bind fun r1 => match r1 with | .k0 x1_0 x1_1 x1_2 => (some (.k0 x1_0 x1_1 x1_2)))
theorem F40_2_ok (a1 : ByteArray) {r : R_F40_2} (h : F40_2 a1 = some r) : PR1 (prgR E) 40 [vs a1, (vs (⟨([40] : List UInt8).toArray⟩ : ByteArray))] (F40_2_v a1 r) := by
 unfold F40_2 at h
 apply bn h; intro r1 h1 h
 cases r1 with
 | k0 x1_0 x1_1 x1_2 =>
  rw [← sj h]
  exact fq [(9, .v (.tup [vs x1_0, vs x1_1, vb x1_2]))] (apc (((F62_2_ok a1 h1).cp rfl _) : CP (prgR E) 62 [vs a1, (vs (⟨([40] : List UInt8).toArray⟩ : ByteArray))] [] = some (.tup [vs x1_0, vs x1_1, vb x1_2])) apn)
def F66_3_v (a1 : ByteArray) (x0 : Bool) : AV := (vb x0)
def F66_3 (a1 : ByteArray) : Option Bool :=
  (bif (decide ((a1.size : Int) ≥ 1)) then (bif (sl_ok 0 1 a1.size) then (some ((a1.extract (Int.toNat 0) (Int.toNat 1)).toList == (⟨([41] : List UInt8).toArray⟩ : ByteArray).toList)) else none) else (some false))
theorem F66_3_ok (a1 : ByteArray) {r : Bool} (h : F66_3 a1 = some r) : PR1 (prgR E) 66 [vs a1, (vs (⟨([41] : List UInt8).toArray⟩ : ByteArray))] (F66_3_v a1 r) := by
 unfold F66_3 at h
 apply bi h <;> intro h1 h
 ·
  apply bi h <;> intro h2 h
  ·
   rw [← sj h]
   exact fq [(9, .d true), (14, .v (vs (a1.extract (Int.toNat 0) (Int.toNat 1))))] (av h1 (apc ((sl_str h2) : slS (vs a1) (some 0) (some 1) = some (vs (a1.extract (Int.toNat 0) (Int.toNat 1)))) apn))
  ·
   cases h
 ·
  rw [← sj h]
  exact fq [(9, .d false)] (av h1 apn)
def F43_2_v (a1 : ByteArray) (x0 : Bool) : AV := (vb x0)
def F43_2 (a1 : ByteArray) : Option Bool :=
  ((F66_3 a1).bind fun x1 => (some x1))
theorem F43_2_ok (a1 : ByteArray) {r : Bool} (h : F43_2 a1 = some r) : PR1 (prgR E) 43 [vs a1, (vs (⟨([41] : List UInt8).toArray⟩ : ByteArray))] (F43_2_v a1 r) := by
 unfold F43_2 at h
 apply bn h; intro x1 h1 h
 rw [← sj h]
 exact fq [(7, .v (vb x1))] (apc (((F66_3_ok a1 h1).cp rfl _) : CP (prgR E) 66 [vs a1, (vs (⟨([41] : List UInt8).toArray⟩ : ByteArray))] [] = some (vb x1)) apn)
def F66_4_v (a1 : ByteArray) (x0 : Bool) : AV := (vb x0)
def F66_4 (a1 : ByteArray) : Option Bool :=
  (bif (decide ((a1.size : Int) ≥ 1)) then (bif (sl_ok 0 1 a1.size) then (some ((a1.extract (Int.toNat 0) (Int.toNat 1)).toList == (⟨([32] : List UInt8).toArray⟩ : ByteArray).toList)) else none) else (some false))
theorem F66_4_ok (a1 : ByteArray) {r : Bool} (h : F66_4 a1 = some r) : PR1 (prgR E) 66 [vs a1, (vs (⟨([32] : List UInt8).toArray⟩ : ByteArray))] (F66_4_v a1 r) := by
 unfold F66_4 at h
 apply bi h <;> intro h1 h
 ·
  apply bi h <;> intro h2 h
  ·
   rw [← sj h]
   exact fq [(9, .d true), (14, .v (vs (a1.extract (Int.toNat 0) (Int.toNat 1))))] (av h1 (apc ((sl_str h2) : slS (vs a1) (some 0) (some 1) = some (vs (a1.extract (Int.toNat 0) (Int.toNat 1)))) apn))
  ·
   cases h
 ·
  rw [← sj h]
  exact fq [(9, .d false)] (av h1 apn)
def F43_3_v (a1 : ByteArray) (x0 : Bool) : AV := (vb x0)
def F43_3 (a1 : ByteArray) : Option Bool :=
  ((F66_4 a1).bind fun x1 => (some x1))
theorem F43_3_ok (a1 : ByteArray) {r : Bool} (h : F43_3 a1 = some r) : PR1 (prgR E) 43 [vs a1, (vs (⟨([32] : List UInt8).toArray⟩ : ByteArray))] (F43_3_v a1 r) := by
 unfold F43_3 at h
 apply bn h; intro x1 h1 h
 rw [← sj h]
 exact fq [(7, .v (vb x1))] (apc (((F66_4_ok a1 h1).cp rfl _) : CP (prgR E) 66 [vs a1, (vs (⟨([32] : List UInt8).toArray⟩ : ByteArray))] [] = some (vb x1)) apn)
end
set_option maxHeartbeats 4000000
def scB : Code := match f12.body with | some (.seq _ (.scope b)) => b | _ => .skip
def r0B : Code := match f12.body with | some (.seq a _) => a | _ => .skip
def c1B : Code := match scB with | .seq a _ => a | _ => .skip
def r3B : Code := match scB with | .seq _ (.seq a _) => a | _ => .skip
def r4B : Code := match scB with | .seq _ (.seq _ (.seq a _)) => a | _ => .skip
def r5B : Code := match scB with | .seq _ (.seq _ (.seq _ (.seq a _))) => a | _ => .skip
def r6B : Code := match scB with | .seq _ (.seq _ (.seq _ (.seq _ (.seq a _)))) => a | _ => .skip
def x2B : Code := match findLabel scB 2 with | some (.seq _ x) => x | _ => .skip
def a2B : Code := match x2B with | .seq a _ => a | _ => .skip
def b2B : Code := match x2B with | .seq _ (.seq a _) => a | _ => .skip
def x3B : Code := match findLabel scB 3 with | some (.seq _ x) => x | _ => .skip
def r20B : Code := match x3B with | .seq a _ => a | _ => .skip
def x1B : Code := match findLabel scB 1 with | some (.seq _ x) => x | _ => .skip
def r21B : Code := match x1B with | .seq (.seq a _) _ => a | _ => .skip
def d1B : Code := match x1B with | .seq (.seq _ (.cond _ a _)) _ => a | _ => .skip
def r22B : Code := match d1B with | .seq a _ => a | _ => .skip
def r23B : Code := match d1B with | .seq _ (.seq a _) => a | _ => .skip
def e1B : Code := match d1B with | .seq _ (.seq _ (.seq a _)) => a | _ => .skip
def b1B : Code := match x1B with | .seq _ (.seq a _) => a | _ => .skip
def r30B : Code := match x1B with | .seq _ (.seq _ (.seq a _)) => a | _ => .skip
def x0B : Code := match findLabel scB 0 with | some (.seq _ x) => x | _ => .skip
abbrev Hp (gen : Nat) (xs : List En) (t : TreeD) : List AB := [.cells 25 [i6 0, vi .u8 0, n0], .row 25 3 gen (ra eEn xs), .cells 25 ((cT t).map .p)]
abbrev eN0 (x : Int) : En := enOf x 0 (.val (.slice .none 0 0))
abbrev Hq (gen : Nat) (xs : List En) (t : TreeD) (x : Int) : List AB := [.cells 25 [i6 0, vi .u8 0, n0], .row 25 3 gen (ra eEn xs), .cells 25 ((cT t).map .p), .row 25 3 0 [[i6 x, vi .u8 0, n0]]]
abbrev Hs (gen n : Nat) (xs : List En) (t : TreeD) (x : Int) : List AB := Hq gen (splice xs n [eN0 x]) t x
abbrev Ha (gen n : Nat) (xs : List En) (t : TreeD) (x : Int) : List AB := Hq (gen + 1) (xs.take n ++ [eN0 x]) t x
abbrev Lp (v : AV) (b : Bool) (s : AV) : List (Nat × AV) := [(2, .ptr 0 0), (3, i6 0), (4, v), (5, .ptr 2 0), (6, vb b), (7, s)]
abbrev hexB16 : ByteArray := ⟨([48, 49, 50, 51, 52, 53, 54, 55, 56, 57, 97, 98, 99, 100, 101, 102] : List UInt8).toArray⟩
abbrev rnR (E : Er) : IC → St → Option (Out × St) := run (envOf (prgR E) (ev (prgR E))) (ev (prgR E))
theorem exP {p : Prg} {n N : Nat} {L : List (Nat × AV)} {c : IC} {s : St} {o : Out} {h : List AB} {ps : List Prop} (H : List (Nat × Hint)) (hp : AllP ps) (e : exitL L (runD p n H c s) = some (ps, o, L, N, h)) : ∃ g, run (envOf p (ev p)) (ev p) c s = some (o, ⟨fr N g L, h⟩) := by
  obtain ⟨g, hr⟩ := exitL_of e
  exact ⟨g, runD_ok hr hp⟩
theorem exR {E : Er} {L : List (Nat × AV)} {c : IC} {s : St} {o : Out} {h : List AB} {ps : List Prop} (H : List (Nat × Hint)) (hp : AllP ps) (e : exitL L (runD (prgR E) 30 H c s) = some (ps, o, L, 147, h)) : ∃ g, rnR E c s = some (o, ⟨fr 147 g L, h⟩) := exP H hp e
section
variable {E : Er} (u : Nat → AV) (gen n : Nat) (xs : List En) (t : TreeD) (b : Bool) (s : ByteArray)
def a2B_i : IC :=
  (.seq (.ops [oI 24 (.mv (tI 7)), oI 25 (.call .false (.c (.fn 38 [])) [tI 24, (.c (.p (.val (.string ⟨([120] : List UInt8).toArray⟩))))]), oI 23 (.mv (tI 25)), oI 26 (.extract (tI 23) 0), oI 27 (.extract (tI 23) 1), oI 8 (.mv (tI 26)), oI 9 (.mv (tI 27))]) (.seq (.ops [oI 28 (.mv (tI 9)), oI 29 (.mv (tI 28)), ⟨(.some 30), (.mv (tI 8)), (.some (29, .true))⟩, ⟨(.some 31), (.lenS (tI 30)), (.some (29, .true))⟩, ⟨(.some 32), (.bin .geq (tI 31) (cI 2)), (.some (29, .true))⟩, oI 33 (.pick (tI 29) (tI 32) (cB false))]) (.cond (tI 33) (.seq (.ops [oI 34 (.mv (tI 8)), oI 35 (.indexS (tI 34) (cI 0)), oI 36 (.call .false (.c (.fn 39 [])) [(.c (.p (.val (.string hexB16)))), tI 35]), oI 37 (.mv (tI 8)), oI 38 (.indexS (tI 37) (cI 1)), oI 39 (.call .false (.c (.fn 39 [])) [(.c (.p (.val (.string hexB16)))), tI 38]), oI 10 (.mv (tI 36)), oI 11 (.mv (tI 39))]) (.seq (.seq (.ops [oI 40 (.mv (tI 10)), oI 41 (.bin .lss (tI 40) (cI 0)), oI 42 (.mv (tI 41)), ⟨(.some 43), (.mv (tI 11)), (.some (42, .false))⟩, ⟨(.some 44), (.bin .lss (tI 43) (cI 0)), (.some (42, .false))⟩, oI 45 (.pick (tI 42) (cB true) (tI 44))]) (.cond (tI 45) (.exit 1000000) .skip)) (.seq (.ops [oI 46 (.mv (tI 10)), oI 47 (.bin .shl (tI 46) (.c (.p (.val (.int .u64 4))))), oI 48 (.mv (tI 11)), oI 49 (.bin .or (tI 47) (tI 48)), oI 50 (.convI .u8 (tI 49)), oI 51 (.build [(.val (.int .i64 0)), (.val (.int .u8 0)), (.val (.slice .none 0 0))] [(0, (1, (cI (-1)))), (1, (1, tI 50))]), oI 52 (.mv (tI 8)), oI 53 (.sliceS (tI 52) (.some (cI 2)) .none), ⟨.none, (.store 3 (tI 5) (tI 51)), .none⟩, oI 7 (.mv (tI 53))]) (.seq (.ops [oI 54 (.mv (tI 6)), oI 55 (.mv (tI 54)), ⟨(.some 56), (.mv (tI 4)), (.some (55, .false))⟩, ⟨(.some 57), (.len (tI 56)), (.some (55, .false))⟩, ⟨(.some 58), (.bin .geq (tI 57) (cI 16384)), (.some (55, .false))⟩, oI 59 (.pick (tI 55) (cB true) (tI 58)), oI 6 (.mv (tI 59))]) (.exit 1000001))))) .skip)))
theorem a2B_c : (compC prog (shOf sh []) a2B []).1 = a2B_i := by kernel_rfl
theorem a2B_n : noR a2B = true := by kernel_rfl
theorem a2_0 {x1_0 : ByteArray} {x1_1 : Bool} (h1 : F38_2 s = some (.k0 x1_0 x1_1)) (h2 : x1_1 = true) (h3 : (decide ((x1_0.size : Int) ≥ 2)) = true) {x4 : UInt8} (h4 : getI x1_0.data.toList 0 = some x4) {x5 : Int} (h5 : F39_2 (x4.toNat : Int) = some x5) {x6 : UInt8} (h6 : getI x1_0.data.toList 1 = some x6) {x7 : Int} (h7 : F39_2 (x6.toNat : Int) = some x7) (h8 : (decide (x5 < 0)) = true) : ∃ g, rnR E a2B_i ⟨fr 147 u (Lp (.sl 1 gen 3 0 n) b (vs s)), (Hp gen xs t)⟩ = some ((.brk 1000000), ⟨fr 147 g (Lp (.sl 1 gen 3 0 n) b (vs s)), (Hp gen xs t)⟩) :=
  exR [(25, .v (.tup [vs x1_0, vb x1_1])), (27, .d true), (32, .d true), (35, .v (vi .u8 (x4.toNat : Int))), (36, .v (i6 x5)), (38, .v (vi .u8 (x6.toNat : Int))), (39, .v (i6 x7)), (41, .d true)] (apc ((F38_2_ok (E := E) s h1).cp rfl (Hp gen xs t)) (av h2 (av h3 (apc ((ix_str h4) : ixS (vs x1_0) (i6 0) = some (vi .u8 (x4.toNat : Int))) (apc (((F39_2_ok (x4.toNat : Int) h5).cp rfl _) : CP (prgR E) 39 [(vs hexB16), (vi .u8 (x4.toNat : Int))] (Hp gen xs t) = some (i6 x5)) (apc ((ix_str h6) : ixS (vs x1_0) (i6 1) = some (vi .u8 (x6.toNat : Int))) (apc (((F39_2_ok (x6.toNat : Int) h7).cp rfl _) : CP (prgR E) 39 [(vs hexB16), (vi .u8 (x6.toNat : Int))] (Hp gen xs t) = some (i6 x7)) (av h8 apn)))))))) (by kernel_rfl)
theorem a2_1 {x1_0 : ByteArray} {x1_1 : Bool} (h1 : F38_2 s = some (.k0 x1_0 x1_1)) (h2 : x1_1 = true) (h3 : (decide ((x1_0.size : Int) ≥ 2)) = true) {x4 : UInt8} (h4 : getI x1_0.data.toList 0 = some x4) {x5 : Int} (h5 : F39_2 (x4.toNat : Int) = some x5) {x6 : UInt8} (h6 : getI x1_0.data.toList 1 = some x6) {x7 : Int} (h7 : F39_2 (x6.toNat : Int) = some x7) (h8 : (decide (x5 < 0)) = false) (h9 : (decide (x7 < 0)) = true) : ∃ g, rnR E a2B_i ⟨fr 147 u (Lp (.sl 1 gen 3 0 n) b (vs s)), (Hp gen xs t)⟩ = some ((.brk 1000000), ⟨fr 147 g (Lp (.sl 1 gen 3 0 n) b (vs s)), (Hp gen xs t)⟩) :=
  exR [(25, .v (.tup [vs x1_0, vb x1_1])), (27, .d true), (32, .d true), (35, .v (vi .u8 (x4.toNat : Int))), (36, .v (i6 x5)), (38, .v (vi .u8 (x6.toNat : Int))), (39, .v (i6 x7)), (41, .d false), (44, .d true)] (apc ((F38_2_ok (E := E) s h1).cp rfl (Hp gen xs t)) (av h2 (av h3 (apc ((ix_str h4) : ixS (vs x1_0) (i6 0) = some (vi .u8 (x4.toNat : Int))) (apc (((F39_2_ok (x4.toNat : Int) h5).cp rfl _) : CP (prgR E) 39 [(vs hexB16), (vi .u8 (x4.toNat : Int))] (Hp gen xs t) = some (i6 x5)) (apc ((ix_str h6) : ixS (vs x1_0) (i6 1) = some (vi .u8 (x6.toNat : Int))) (apc (((F39_2_ok (x6.toNat : Int) h7).cp rfl _) : CP (prgR E) 39 [(vs hexB16), (vi .u8 (x6.toNat : Int))] (Hp gen xs t) = some (i6 x7)) (av h8 (av h9 apn))))))))) (by kernel_rfl)
theorem a2_2 {x1_0 : ByteArray} {x1_1 : Bool} (h1 : F38_2 s = some (.k0 x1_0 x1_1)) (h2 : x1_1 = true) (h3 : (decide ((x1_0.size : Int) ≥ 2)) = true) {x4 : UInt8} (h4 : getI x1_0.data.toList 0 = some x4) {x5 : Int} (h5 : F39_2 (x4.toNat : Int) = some x5) {x6 : UInt8} (h6 : getI x1_0.data.toList 1 = some x6) {x7 : Int} (h7 : F39_2 (x6.toNat : Int) = some x7) (h8 : (decide (x5 < 0)) = false) (h9 : (decide (x7 < 0)) = false) (h10 : (sl_ok 2 (x1_0.size : Int) x1_0.size) = true) (h11 : b = true) : ∃ g, rnR E a2B_i ⟨fr 147 u (Lp (.sl 1 gen 3 0 n) b (vs s)), (Hp gen xs t)⟩ = some ((.brk 1000001), ⟨fr 147 g [(2, .ptr 0 0), (3, i6 0), (4, .sl 1 gen 3 0 n), (5, .ptr 2 0), (6, vb true), (7, (vs (x1_0.extract (Int.toNat 2) (Int.toNat (x1_0.size : Int)))))], [.cells 25 [i6 0, vi .u8 0, n0], .row 25 3 gen (ra eEn xs), .cells 25 [(i6 (-1)), (vi .u8 (IntKind.wrap .u8 (w6 ((BitVec.ofInt (IntKind.bits .i64) (w6 (x5 * 2 ^ (min (Int.toNat 4) (IntKind.bits .i64)))) ||| BitVec.ofInt (IntKind.bits .i64) x7).toNat : Int)))), n0]]⟩) :=
  exR [(25, .v (.tup [vs x1_0, vb x1_1])), (27, .d true), (32, .d true), (35, .v (vi .u8 (x4.toNat : Int))), (36, .v (i6 x5)), (38, .v (vi .u8 (x6.toNat : Int))), (39, .v (i6 x7)), (41, .d false), (44, .d false), (47, .v (i6 (w6 (x5 * 2 ^ (min (Int.toNat 4) (IntKind.bits .i64)))))), (53, .v (vs (x1_0.extract (Int.toNat 2) (Int.toNat (x1_0.size : Int))))), (54, .d true)] (apc ((F38_2_ok (E := E) s h1).cp rfl (Hp gen xs t)) (av h2 (av h3 (apc ((ix_str h4) : ixS (vs x1_0) (i6 0) = some (vi .u8 (x4.toNat : Int))) (apc (((F39_2_ok (x4.toNat : Int) h5).cp rfl _) : CP (prgR E) 39 [(vs hexB16), (vi .u8 (x4.toNat : Int))] (Hp gen xs t) = some (i6 x5)) (apc ((ix_str h6) : ixS (vs x1_0) (i6 1) = some (vi .u8 (x6.toNat : Int))) (apc (((F39_2_ok (x6.toNat : Int) h7).cp rfl _) : CP (prgR E) 39 [(vs hexB16), (vi .u8 (x6.toNat : Int))] (Hp gen xs t) = some (i6 x7)) (av h8 (av h9 (apc ((sh_shl (by decide)) : binA .shl (i6 x5) (vi .u64 4) = some (i6 (w6 (x5 * 2 ^ (min (Int.toNat 4) (IntKind.bits .i64)))))) (apc ((sl_str h10) : slS (vs x1_0) (some 2) (some (x1_0.size : Int)) = some (vs (x1_0.extract (Int.toNat 2) (Int.toNat (x1_0.size : Int))))) (av h11 apn)))))))))))) (by kernel_rfl)
theorem a2_3 {x1_0 : ByteArray} {x1_1 : Bool} (h1 : F38_2 s = some (.k0 x1_0 x1_1)) (h2 : x1_1 = true) (h3 : (decide ((x1_0.size : Int) ≥ 2)) = true) {x4 : UInt8} (h4 : getI x1_0.data.toList 0 = some x4) {x5 : Int} (h5 : F39_2 (x4.toNat : Int) = some x5) {x6 : UInt8} (h6 : getI x1_0.data.toList 1 = some x6) {x7 : Int} (h7 : F39_2 (x6.toNat : Int) = some x7) (h8 : (decide (x5 < 0)) = false) (h9 : (decide (x7 < 0)) = false) (h10 : (sl_ok 2 (x1_0.size : Int) x1_0.size) = true) (h11 : b = false) (h12 : (decide (((n : Nat) : Int) ≥ 16384)) = true) : ∃ g, rnR E a2B_i ⟨fr 147 u (Lp (.sl 1 gen 3 0 n) b (vs s)), (Hp gen xs t)⟩ = some ((.brk 1000001), ⟨fr 147 g [(2, .ptr 0 0), (3, i6 0), (4, .sl 1 gen 3 0 n), (5, .ptr 2 0), (6, vb true), (7, (vs (x1_0.extract (Int.toNat 2) (Int.toNat (x1_0.size : Int)))))], [.cells 25 [i6 0, vi .u8 0, n0], .row 25 3 gen (ra eEn xs), .cells 25 [(i6 (-1)), (vi .u8 (IntKind.wrap .u8 (w6 ((BitVec.ofInt (IntKind.bits .i64) (w6 (x5 * 2 ^ (min (Int.toNat 4) (IntKind.bits .i64)))) ||| BitVec.ofInt (IntKind.bits .i64) x7).toNat : Int)))), n0]]⟩) :=
  exR [(25, .v (.tup [vs x1_0, vb x1_1])), (27, .d true), (32, .d true), (35, .v (vi .u8 (x4.toNat : Int))), (36, .v (i6 x5)), (38, .v (vi .u8 (x6.toNat : Int))), (39, .v (i6 x7)), (41, .d false), (44, .d false), (47, .v (i6 (w6 (x5 * 2 ^ (min (Int.toNat 4) (IntKind.bits .i64)))))), (53, .v (vs (x1_0.extract (Int.toNat 2) (Int.toNat (x1_0.size : Int))))), (54, .d false), (58, .d true)] (apc ((F38_2_ok (E := E) s h1).cp rfl (Hp gen xs t)) (av h2 (av h3 (apc ((ix_str h4) : ixS (vs x1_0) (i6 0) = some (vi .u8 (x4.toNat : Int))) (apc (((F39_2_ok (x4.toNat : Int) h5).cp rfl _) : CP (prgR E) 39 [(vs hexB16), (vi .u8 (x4.toNat : Int))] (Hp gen xs t) = some (i6 x5)) (apc ((ix_str h6) : ixS (vs x1_0) (i6 1) = some (vi .u8 (x6.toNat : Int))) (apc (((F39_2_ok (x6.toNat : Int) h7).cp rfl _) : CP (prgR E) 39 [(vs hexB16), (vi .u8 (x6.toNat : Int))] (Hp gen xs t) = some (i6 x7)) (av h8 (av h9 (apc ((sh_shl (by decide)) : binA .shl (i6 x5) (vi .u64 4) = some (i6 (w6 (x5 * 2 ^ (min (Int.toNat 4) (IntKind.bits .i64)))))) (apc ((sl_str h10) : slS (vs x1_0) (some 2) (some (x1_0.size : Int)) = some (vs (x1_0.extract (Int.toNat 2) (Int.toNat (x1_0.size : Int))))) (av h11 (av h12 apn))))))))))))) (by kernel_rfl)
theorem a2_4 {x1_0 : ByteArray} {x1_1 : Bool} (h1 : F38_2 s = some (.k0 x1_0 x1_1)) (h2 : x1_1 = true) (h3 : (decide ((x1_0.size : Int) ≥ 2)) = true) {x4 : UInt8} (h4 : getI x1_0.data.toList 0 = some x4) {x5 : Int} (h5 : F39_2 (x4.toNat : Int) = some x5) {x6 : UInt8} (h6 : getI x1_0.data.toList 1 = some x6) {x7 : Int} (h7 : F39_2 (x6.toNat : Int) = some x7) (h8 : (decide (x5 < 0)) = false) (h9 : (decide (x7 < 0)) = false) (h10 : (sl_ok 2 (x1_0.size : Int) x1_0.size) = true) (h11 : b = false) (h12 : (decide (((n : Nat) : Int) ≥ 16384)) = false) : ∃ g, rnR E a2B_i ⟨fr 147 u (Lp (.sl 1 gen 3 0 n) b (vs s)), (Hp gen xs t)⟩ = some ((.brk 1000001), ⟨fr 147 g [(2, .ptr 0 0), (3, i6 0), (4, .sl 1 gen 3 0 n), (5, .ptr 2 0), (6, vb false), (7, (vs (x1_0.extract (Int.toNat 2) (Int.toNat (x1_0.size : Int)))))], [.cells 25 [i6 0, vi .u8 0, n0], .row 25 3 gen (ra eEn xs), .cells 25 [(i6 (-1)), (vi .u8 (IntKind.wrap .u8 (w6 ((BitVec.ofInt (IntKind.bits .i64) (w6 (x5 * 2 ^ (min (Int.toNat 4) (IntKind.bits .i64)))) ||| BitVec.ofInt (IntKind.bits .i64) x7).toNat : Int)))), n0]]⟩) :=
  exR [(25, .v (.tup [vs x1_0, vb x1_1])), (27, .d true), (32, .d true), (35, .v (vi .u8 (x4.toNat : Int))), (36, .v (i6 x5)), (38, .v (vi .u8 (x6.toNat : Int))), (39, .v (i6 x7)), (41, .d false), (44, .d false), (47, .v (i6 (w6 (x5 * 2 ^ (min (Int.toNat 4) (IntKind.bits .i64)))))), (53, .v (vs (x1_0.extract (Int.toNat 2) (Int.toNat (x1_0.size : Int))))), (54, .d false), (58, .d false)] (apc ((F38_2_ok (E := E) s h1).cp rfl (Hp gen xs t)) (av h2 (av h3 (apc ((ix_str h4) : ixS (vs x1_0) (i6 0) = some (vi .u8 (x4.toNat : Int))) (apc (((F39_2_ok (x4.toNat : Int) h5).cp rfl _) : CP (prgR E) 39 [(vs hexB16), (vi .u8 (x4.toNat : Int))] (Hp gen xs t) = some (i6 x5)) (apc ((ix_str h6) : ixS (vs x1_0) (i6 1) = some (vi .u8 (x6.toNat : Int))) (apc (((F39_2_ok (x6.toNat : Int) h7).cp rfl _) : CP (prgR E) 39 [(vs hexB16), (vi .u8 (x6.toNat : Int))] (Hp gen xs t) = some (i6 x7)) (av h8 (av h9 (apc ((sh_shl (by decide)) : binA .shl (i6 x5) (vi .u64 4) = some (i6 (w6 (x5 * 2 ^ (min (Int.toNat 4) (IntKind.bits .i64)))))) (apc ((sl_str h10) : slS (vs x1_0) (some 2) (some (x1_0.size : Int)) = some (vs (x1_0.extract (Int.toNat 2) (Int.toNat (x1_0.size : Int))))) (av h11 (av h12 apn))))))))))))) (by kernel_rfl)
theorem a2_6 {x1_0 : ByteArray} {x1_1 : Bool} (h1 : F38_2 s = some (.k0 x1_0 x1_1)) (h2 : x1_1 = true) (h3 : (decide ((x1_0.size : Int) ≥ 2)) = false) : ∃ g, rnR E a2B_i ⟨fr 147 u (Lp (.sl 1 gen 3 0 n) b (vs s)), (Hp gen xs t)⟩ = some (.norm, ⟨fr 147 g (Lp (.sl 1 gen 3 0 n) b (vs s)), (Hp gen xs t)⟩) :=
  exR [(25, .v (.tup [vs x1_0, vb x1_1])), (27, .d true), (32, .d false)] (apc ((F38_2_ok (E := E) s h1).cp rfl (Hp gen xs t)) (av h2 (av h3 apn))) (by kernel_rfl)
theorem a2_7 {x1_0 : ByteArray} {x1_1 : Bool} (h1 : F38_2 s = some (.k0 x1_0 x1_1)) (h2 : x1_1 = false) : ∃ g, rnR E a2B_i ⟨fr 147 u (Lp (.sl 1 gen 3 0 n) b (vs s)), (Hp gen xs t)⟩ = some (.norm, ⟨fr 147 g (Lp (.sl 1 gen 3 0 n) b (vs s)), (Hp gen xs t)⟩) :=
  exR [(25, .v (.tup [vs x1_0, vb x1_1])), (27, .d false)] (apc ((F38_2_ok (E := E) s h1).cp rfl (Hp gen xs t)) (av h2 apn)) (by kernel_rfl)
def b2B_i : IC :=
  (.seq (.ops [oI 61 (.mv (tI 7)), oI 62 (.call .false (.c (.fn 40 [])) [tI 61, (.c (.p (.val (.string ⟨([40] : List UInt8).toArray⟩))))]), oI 60 (.mv (tI 62)), oI 63 (.extract (tI 60) 0), oI 64 (.extract (tI 60) 1), oI 65 (.extract (tI 60) 2), oI 12 (.mv (tI 63)), oI 13 (.mv (tI 64)), oI 14 (.mv (tI 65))]) (.seq (.ops [oI 66 (.mv (tI 14))]) (.cond (tI 66) (.seq (.ops [oI 68 (.mv (tI 12)), oI 69 (.call .false (.c (.fn 41 [])) [tI 68, (cI 10), (cI 32)]), oI 67 (.mv (tI 69)), oI 70 (.extract (tI 67) 0), oI 71 (.extract (tI 67) 1), oI 15 (.mv (tI 70)), oI 16 (.mv (tI 71))]) (.seq (.seq (.ops [oI 72 (.mv (tI 16)), oI 73 (.eqI .true (tI 72)), oI 74 (.mv (tI 73)), ⟨(.some 75), (.mv (tI 15)), (.some (74, .false))⟩, ⟨(.some 76), (.call .false (.c (.fn 42 [])) [tI 75]), (.some (74, .false))⟩, ⟨(.some 77), (.mv (tI 12)), (.some (74, .false))⟩, ⟨(.some 78), (.bin .neq (tI 76) (tI 77)), (.some (74, .false))⟩, oI 79 (.pick (tI 74) (cB true) (tI 78)), oI 80 (.mv (tI 79)), ⟨(.some 81), (.mv (tI 15)), (.some (80, .false))⟩, ⟨(.some 82), (.bin .lss (tI 81) (cI 0)), (.some (80, .false))⟩, oI 83 (.pick (tI 80) (cB true) (tI 82))]) (.cond (tI 83) (.exit 1000000) .skip)) (.seq (.ops [oI 84 (.mv (tI 4)), oI 85 (.mv (tI 15)), oI 86 (.build [(.val (.int .i64 0)), (.val (.int .u8 0)), (.val (.slice .none 0 0))] [(0, (1, tI 85))]), oI 87 (.buildS 25 3 [(.val (.int .i64 0)), (.val (.int .u8 0)), (.val (.slice .none 0 0))] 1 [(0, tI 86)]), oI 88 (.append 25 3 40 [(.val (.int .i64 0)), (.val (.int .u8 0)), (.val (.slice .none 0 0))] (tI 84) (tI 87)), oI 89 (.mv (tI 13)), oI 4 (.mv (tI 88)), oI 7 (.mv (tI 89))]) (.seq (.ops [oI 90 (.mv (tI 6)), oI 91 (.mv (tI 90)), ⟨(.some 92), (.mv (tI 4)), (.some (91, .false))⟩, ⟨(.some 93), (.len (tI 92)), (.some (91, .false))⟩, ⟨(.some 94), (.bin .gtr (tI 93) (cI 16384)), (.some (91, .false))⟩, oI 95 (.pick (tI 91) (cB true) (tI 94)), oI 6 (.mv (tI 95))]) (.seq (.seq (.ops [oI 96 (.mv (tI 7)), oI 97 (.call .false (.c (.fn 43 [])) [tI 96, (.c (.p (.val (.string ⟨([41] : List UInt8).toArray⟩))))]), oI 98 (.un .not (tI 97))]) (.cond (tI 98) (.exit 1000002) .skip)) (.exit 1000003)))))) .skip)))
theorem b2B_c : (compC prog (shOf sh []) b2B []).1 = b2B_i := by kernel_rfl
theorem b2B_n : noR b2B = true := by kernel_rfl
theorem b2_0 {x1_0 : ByteArray} {x1_1 : ByteArray} {x1_2 : Bool} (h1 : F40_2 s = some (.k0 x1_0 x1_1 x1_2)) (h2 : x1_2 = true) {x3_0 : Int} (h3 : F41 E x1_0 = some (.k0 x3_0)) {x4 : ByteArray} (h4 : F42 x3_0 = some x4) (h5 : (!(x4.toList == x1_0.toList)) = true) : ∃ g, rnR E b2B_i ⟨fr 147 u (Lp (.sl 1 gen 3 0 n) b (vs s)), (Hp gen xs t)⟩ = some ((.brk 1000000), ⟨fr 147 g (Lp (.sl 1 gen 3 0 n) b (vs s)), (Hp gen xs t)⟩) :=
  exR [(62, .v (.tup [vs x1_0, vs x1_1, vb x1_2])), (65, .d true), (69, .v (.tup [i6 x3_0, (.p (.val .nilIface))])), (76, .v (vs x4)), (78, .d true)] (apc ((F40_2_ok (E := E) s h1).cp rfl (Hp gen xs t)) (av h2 (apc ((F41_ok (E := E) x1_0 h3).cp rfl (Hp gen xs t)) (apc ((F42_ok (E := E) x3_0 h4).cp rfl (Hp gen xs t)) (av h5 apn))))) (by kernel_rfl)
theorem b2_1 {x1_0 : ByteArray} {x1_1 : ByteArray} {x1_2 : Bool} (h1 : F40_2 s = some (.k0 x1_0 x1_1 x1_2)) (h2 : x1_2 = true) {x3_0 : Int} (h3 : F41 E x1_0 = some (.k0 x3_0)) {x4 : ByteArray} (h4 : F42 x3_0 = some x4) (h5 : (!(x4.toList == x1_0.toList)) = false) (h6 : (decide (x3_0 < 0)) = true) : ∃ g, rnR E b2B_i ⟨fr 147 u (Lp (.sl 1 gen 3 0 n) b (vs s)), (Hp gen xs t)⟩ = some ((.brk 1000000), ⟨fr 147 g (Lp (.sl 1 gen 3 0 n) b (vs s)), (Hp gen xs t)⟩) :=
  exR [(62, .v (.tup [vs x1_0, vs x1_1, vb x1_2])), (65, .d true), (69, .v (.tup [i6 x3_0, (.p (.val .nilIface))])), (76, .v (vs x4)), (78, .d false), (82, .d true)] (apc ((F40_2_ok (E := E) s h1).cp rfl (Hp gen xs t)) (av h2 (apc ((F41_ok (E := E) x1_0 h3).cp rfl (Hp gen xs t)) (apc ((F42_ok (E := E) x3_0 h4).cp rfl (Hp gen xs t)) (av h5 (av h6 apn)))))) (by kernel_rfl)
theorem b2_2 {x1_0 : ByteArray} {x1_1 : ByteArray} {x1_2 : Bool} (h1 : F40_2 s = some (.k0 x1_0 x1_1 x1_2)) (h2 : x1_2 = true) {x3_0 : Int} (h3 : F41 E x1_0 = some (.k0 x3_0)) {x4 : ByteArray} (h4 : F42 x3_0 = some x4) (h5 : (!(x4.toList == x1_0.toList)) = false) (h6 : (decide (x3_0 < 0)) = false) (h7 : (apOk n 1 xs.length 40) = true) (h8 : (decide (n + 1 ≤ xs.length)) = true) (h9 : b = true) {x10 : Bool} (h10 : F43_2 x1_1 = some x10) (h11 : x10 = true) : ∃ g, rnR E b2B_i ⟨fr 147 u (Lp (.sl 1 gen 3 0 n) b (vs s)), (Hp gen xs t)⟩ = some ((.brk 1000003), ⟨fr 147 g (Lp (.sl 1 gen 3 0 (n + 1)) true (vs x1_1)), (Hs gen n xs t x3_0)⟩) :=
  exR [(62, .v (.tup [vs x1_0, vs x1_1, vb x1_2])), (65, .d true), (69, .v (.tup [i6 x3_0, (.p (.val .nilIface))])), (76, .v (vs x4)), (78, .d false), (82, .d false), (88, .r (.sl 1 gen 3 0 (n + 1)) (Hs gen n xs t x3_0)), (90, .d true), (97, .v (vb true))] (apc ((F40_2_ok (E := E) s h1).cp rfl (Hp gen xs t)) (av h2 (apc ((F41_ok (E := E) x1_0 h3).cp rfl (Hp gen xs t)) (apc ((F42_ok (E := E) x3_0 h4).cp rfl (Hp gen xs t)) (av h5 (av h6 (apc ((ap_in (e := eEn) (xs := xs) (news := [eN0 x3_0]) rfl (rows_x (e := eEn) (xs := [eN0 x3_0]) rfl) rfl h7 h8) : appA (Hq gen xs t x3_0) 25 3 40 (.sl 1 gen 3 0 n) (.sl 3 0 3 0 1) = some ((.sl 1 gen 3 0 (n + 1)), (Hs gen n xs t x3_0))) (av h9 (apc ((((F43_2_ok x1_1 h10).cp rfl _).trans (congrArg (fun z => some (vb z)) h11)) : CP (prgR E) 43 [vs x1_1, (vs (⟨([41] : List UInt8).toArray⟩ : ByteArray))] (Hs gen n xs t x3_0) = some (vb true)) apn))))))))) (by kernel_rfl)
theorem b2_3 {x1_0 : ByteArray} {x1_1 : ByteArray} {x1_2 : Bool} (h1 : F40_2 s = some (.k0 x1_0 x1_1 x1_2)) (h2 : x1_2 = true) {x3_0 : Int} (h3 : F41 E x1_0 = some (.k0 x3_0)) {x4 : ByteArray} (h4 : F42 x3_0 = some x4) (h5 : (!(x4.toList == x1_0.toList)) = false) (h6 : (decide (x3_0 < 0)) = false) (h7 : (apOk n 1 xs.length 40) = true) (h8 : (decide (n + 1 ≤ xs.length)) = true) (h9 : b = true) {x10 : Bool} (h10 : F43_2 x1_1 = some x10) (h11 : x10 = false) : ∃ g, rnR E b2B_i ⟨fr 147 u (Lp (.sl 1 gen 3 0 n) b (vs s)), (Hp gen xs t)⟩ = some ((.brk 1000002), ⟨fr 147 g (Lp (.sl 1 gen 3 0 (n + 1)) true (vs x1_1)), (Hs gen n xs t x3_0)⟩) :=
  exR [(62, .v (.tup [vs x1_0, vs x1_1, vb x1_2])), (65, .d true), (69, .v (.tup [i6 x3_0, (.p (.val .nilIface))])), (76, .v (vs x4)), (78, .d false), (82, .d false), (88, .r (.sl 1 gen 3 0 (n + 1)) (Hs gen n xs t x3_0)), (90, .d true), (97, .v (vb false))] (apc ((F40_2_ok (E := E) s h1).cp rfl (Hp gen xs t)) (av h2 (apc ((F41_ok (E := E) x1_0 h3).cp rfl (Hp gen xs t)) (apc ((F42_ok (E := E) x3_0 h4).cp rfl (Hp gen xs t)) (av h5 (av h6 (apc ((ap_in (e := eEn) (xs := xs) (news := [eN0 x3_0]) rfl (rows_x (e := eEn) (xs := [eN0 x3_0]) rfl) rfl h7 h8) : appA (Hq gen xs t x3_0) 25 3 40 (.sl 1 gen 3 0 n) (.sl 3 0 3 0 1) = some ((.sl 1 gen 3 0 (n + 1)), (Hs gen n xs t x3_0))) (av h9 (apc ((((F43_2_ok x1_1 h10).cp rfl _).trans (congrArg (fun z => some (vb z)) h11)) : CP (prgR E) 43 [vs x1_1, (vs (⟨([41] : List UInt8).toArray⟩ : ByteArray))] (Hs gen n xs t x3_0) = some (vb false)) apn))))))))) (by kernel_rfl)
theorem b2_4 {x1_0 : ByteArray} {x1_1 : ByteArray} {x1_2 : Bool} (h1 : F40_2 s = some (.k0 x1_0 x1_1 x1_2)) (h2 : x1_2 = true) {x3_0 : Int} (h3 : F41 E x1_0 = some (.k0 x3_0)) {x4 : ByteArray} (h4 : F42 x3_0 = some x4) (h5 : (!(x4.toList == x1_0.toList)) = false) (h6 : (decide (x3_0 < 0)) = false) (h7 : (apOk n 1 xs.length 40) = true) (h8 : (decide (n + 1 ≤ xs.length)) = true) (h9 : b = false) (h10 : (decide ((((n + 1) : Nat) : Int) > 16384)) = true) {x11 : Bool} (h11 : F43_2 x1_1 = some x11) (h12 : x11 = true) : ∃ g, rnR E b2B_i ⟨fr 147 u (Lp (.sl 1 gen 3 0 n) b (vs s)), (Hp gen xs t)⟩ = some ((.brk 1000003), ⟨fr 147 g (Lp (.sl 1 gen 3 0 (n + 1)) true (vs x1_1)), (Hs gen n xs t x3_0)⟩) :=
  exR [(62, .v (.tup [vs x1_0, vs x1_1, vb x1_2])), (65, .d true), (69, .v (.tup [i6 x3_0, (.p (.val .nilIface))])), (76, .v (vs x4)), (78, .d false), (82, .d false), (88, .r (.sl 1 gen 3 0 (n + 1)) (Hs gen n xs t x3_0)), (90, .d false), (94, .d true), (97, .v (vb true))] (apc ((F40_2_ok (E := E) s h1).cp rfl (Hp gen xs t)) (av h2 (apc ((F41_ok (E := E) x1_0 h3).cp rfl (Hp gen xs t)) (apc ((F42_ok (E := E) x3_0 h4).cp rfl (Hp gen xs t)) (av h5 (av h6 (apc ((ap_in (e := eEn) (xs := xs) (news := [eN0 x3_0]) rfl (rows_x (e := eEn) (xs := [eN0 x3_0]) rfl) rfl h7 h8) : appA (Hq gen xs t x3_0) 25 3 40 (.sl 1 gen 3 0 n) (.sl 3 0 3 0 1) = some ((.sl 1 gen 3 0 (n + 1)), (Hs gen n xs t x3_0))) (av h9 (av h10 (apc ((((F43_2_ok x1_1 h11).cp rfl _).trans (congrArg (fun z => some (vb z)) h12)) : CP (prgR E) 43 [vs x1_1, (vs (⟨([41] : List UInt8).toArray⟩ : ByteArray))] (Hs gen n xs t x3_0) = some (vb true)) apn)))))))))) (by kernel_rfl)
theorem b2_5 {x1_0 : ByteArray} {x1_1 : ByteArray} {x1_2 : Bool} (h1 : F40_2 s = some (.k0 x1_0 x1_1 x1_2)) (h2 : x1_2 = true) {x3_0 : Int} (h3 : F41 E x1_0 = some (.k0 x3_0)) {x4 : ByteArray} (h4 : F42 x3_0 = some x4) (h5 : (!(x4.toList == x1_0.toList)) = false) (h6 : (decide (x3_0 < 0)) = false) (h7 : (apOk n 1 xs.length 40) = true) (h8 : (decide (n + 1 ≤ xs.length)) = true) (h9 : b = false) (h10 : (decide ((((n + 1) : Nat) : Int) > 16384)) = true) {x11 : Bool} (h11 : F43_2 x1_1 = some x11) (h12 : x11 = false) : ∃ g, rnR E b2B_i ⟨fr 147 u (Lp (.sl 1 gen 3 0 n) b (vs s)), (Hp gen xs t)⟩ = some ((.brk 1000002), ⟨fr 147 g (Lp (.sl 1 gen 3 0 (n + 1)) true (vs x1_1)), (Hs gen n xs t x3_0)⟩) :=
  exR [(62, .v (.tup [vs x1_0, vs x1_1, vb x1_2])), (65, .d true), (69, .v (.tup [i6 x3_0, (.p (.val .nilIface))])), (76, .v (vs x4)), (78, .d false), (82, .d false), (88, .r (.sl 1 gen 3 0 (n + 1)) (Hs gen n xs t x3_0)), (90, .d false), (94, .d true), (97, .v (vb false))] (apc ((F40_2_ok (E := E) s h1).cp rfl (Hp gen xs t)) (av h2 (apc ((F41_ok (E := E) x1_0 h3).cp rfl (Hp gen xs t)) (apc ((F42_ok (E := E) x3_0 h4).cp rfl (Hp gen xs t)) (av h5 (av h6 (apc ((ap_in (e := eEn) (xs := xs) (news := [eN0 x3_0]) rfl (rows_x (e := eEn) (xs := [eN0 x3_0]) rfl) rfl h7 h8) : appA (Hq gen xs t x3_0) 25 3 40 (.sl 1 gen 3 0 n) (.sl 3 0 3 0 1) = some ((.sl 1 gen 3 0 (n + 1)), (Hs gen n xs t x3_0))) (av h9 (av h10 (apc ((((F43_2_ok x1_1 h11).cp rfl _).trans (congrArg (fun z => some (vb z)) h12)) : CP (prgR E) 43 [vs x1_1, (vs (⟨([41] : List UInt8).toArray⟩ : ByteArray))] (Hs gen n xs t x3_0) = some (vb false)) apn)))))))))) (by kernel_rfl)
theorem b2_6 {x1_0 : ByteArray} {x1_1 : ByteArray} {x1_2 : Bool} (h1 : F40_2 s = some (.k0 x1_0 x1_1 x1_2)) (h2 : x1_2 = true) {x3_0 : Int} (h3 : F41 E x1_0 = some (.k0 x3_0)) {x4 : ByteArray} (h4 : F42 x3_0 = some x4) (h5 : (!(x4.toList == x1_0.toList)) = false) (h6 : (decide (x3_0 < 0)) = false) (h7 : (apOk n 1 xs.length 40) = true) (h8 : (decide (n + 1 ≤ xs.length)) = true) (h9 : b = false) (h10 : (decide ((((n + 1) : Nat) : Int) > 16384)) = false) {x11 : Bool} (h11 : F43_2 x1_1 = some x11) (h12 : x11 = true) : ∃ g, rnR E b2B_i ⟨fr 147 u (Lp (.sl 1 gen 3 0 n) b (vs s)), (Hp gen xs t)⟩ = some ((.brk 1000003), ⟨fr 147 g (Lp (.sl 1 gen 3 0 (n + 1)) false (vs x1_1)), (Hs gen n xs t x3_0)⟩) :=
  exR [(62, .v (.tup [vs x1_0, vs x1_1, vb x1_2])), (65, .d true), (69, .v (.tup [i6 x3_0, (.p (.val .nilIface))])), (76, .v (vs x4)), (78, .d false), (82, .d false), (88, .r (.sl 1 gen 3 0 (n + 1)) (Hs gen n xs t x3_0)), (90, .d false), (94, .d false), (97, .v (vb true))] (apc ((F40_2_ok (E := E) s h1).cp rfl (Hp gen xs t)) (av h2 (apc ((F41_ok (E := E) x1_0 h3).cp rfl (Hp gen xs t)) (apc ((F42_ok (E := E) x3_0 h4).cp rfl (Hp gen xs t)) (av h5 (av h6 (apc ((ap_in (e := eEn) (xs := xs) (news := [eN0 x3_0]) rfl (rows_x (e := eEn) (xs := [eN0 x3_0]) rfl) rfl h7 h8) : appA (Hq gen xs t x3_0) 25 3 40 (.sl 1 gen 3 0 n) (.sl 3 0 3 0 1) = some ((.sl 1 gen 3 0 (n + 1)), (Hs gen n xs t x3_0))) (av h9 (av h10 (apc ((((F43_2_ok x1_1 h11).cp rfl _).trans (congrArg (fun z => some (vb z)) h12)) : CP (prgR E) 43 [vs x1_1, (vs (⟨([41] : List UInt8).toArray⟩ : ByteArray))] (Hs gen n xs t x3_0) = some (vb true)) apn)))))))))) (by kernel_rfl)
theorem b2_7 {x1_0 : ByteArray} {x1_1 : ByteArray} {x1_2 : Bool} (h1 : F40_2 s = some (.k0 x1_0 x1_1 x1_2)) (h2 : x1_2 = true) {x3_0 : Int} (h3 : F41 E x1_0 = some (.k0 x3_0)) {x4 : ByteArray} (h4 : F42 x3_0 = some x4) (h5 : (!(x4.toList == x1_0.toList)) = false) (h6 : (decide (x3_0 < 0)) = false) (h7 : (apOk n 1 xs.length 40) = true) (h8 : (decide (n + 1 ≤ xs.length)) = true) (h9 : b = false) (h10 : (decide ((((n + 1) : Nat) : Int) > 16384)) = false) {x11 : Bool} (h11 : F43_2 x1_1 = some x11) (h12 : x11 = false) : ∃ g, rnR E b2B_i ⟨fr 147 u (Lp (.sl 1 gen 3 0 n) b (vs s)), (Hp gen xs t)⟩ = some ((.brk 1000002), ⟨fr 147 g (Lp (.sl 1 gen 3 0 (n + 1)) false (vs x1_1)), (Hs gen n xs t x3_0)⟩) :=
  exR [(62, .v (.tup [vs x1_0, vs x1_1, vb x1_2])), (65, .d true), (69, .v (.tup [i6 x3_0, (.p (.val .nilIface))])), (76, .v (vs x4)), (78, .d false), (82, .d false), (88, .r (.sl 1 gen 3 0 (n + 1)) (Hs gen n xs t x3_0)), (90, .d false), (94, .d false), (97, .v (vb false))] (apc ((F40_2_ok (E := E) s h1).cp rfl (Hp gen xs t)) (av h2 (apc ((F41_ok (E := E) x1_0 h3).cp rfl (Hp gen xs t)) (apc ((F42_ok (E := E) x3_0 h4).cp rfl (Hp gen xs t)) (av h5 (av h6 (apc ((ap_in (e := eEn) (xs := xs) (news := [eN0 x3_0]) rfl (rows_x (e := eEn) (xs := [eN0 x3_0]) rfl) rfl h7 h8) : appA (Hq gen xs t x3_0) 25 3 40 (.sl 1 gen 3 0 n) (.sl 3 0 3 0 1) = some ((.sl 1 gen 3 0 (n + 1)), (Hs gen n xs t x3_0))) (av h9 (av h10 (apc ((((F43_2_ok x1_1 h11).cp rfl _).trans (congrArg (fun z => some (vb z)) h12)) : CP (prgR E) 43 [vs x1_1, (vs (⟨([41] : List UInt8).toArray⟩ : ByteArray))] (Hs gen n xs t x3_0) = some (vb false)) apn)))))))))) (by kernel_rfl)
theorem b2_8 {x1_0 : ByteArray} {x1_1 : ByteArray} {x1_2 : Bool} (h1 : F40_2 s = some (.k0 x1_0 x1_1 x1_2)) (h2 : x1_2 = true) {x3_0 : Int} (h3 : F41 E x1_0 = some (.k0 x3_0)) {x4 : ByteArray} (h4 : F42 x3_0 = some x4) (h5 : (!(x4.toList == x1_0.toList)) = false) (h6 : (decide (x3_0 < 0)) = false) (h7 : (apOk n 1 xs.length 40) = true) (h8 : (decide (n + 1 ≤ xs.length)) = false) (h9 : b = true) {x10 : Bool} (h10 : F43_2 x1_1 = some x10) (h11 : x10 = true) : ∃ g, rnR E b2B_i ⟨fr 147 u (Lp (.sl 1 gen 3 0 n) b (vs s)), (Hp gen xs t)⟩ = some ((.brk 1000003), ⟨fr 147 g [(2, .ptr 0 0), (3, i6 0), (4, (.sl 1 (gen + 1) 3 0 (n + 1))), (5, .ptr 2 0), (6, vb true), (7, vs x1_1)], (Ha gen n xs t x3_0)⟩) :=
  exR [(62, .v (.tup [vs x1_0, vs x1_1, vb x1_2])), (65, .d true), (69, .v (.tup [i6 x3_0, (.p (.val .nilIface))])), (76, .v (vs x4)), (78, .d false), (82, .d false), (88, .r (.sl 1 (gen + 1) 3 0 (n + 1)) (Ha gen n xs t x3_0)), (90, .d true), (97, .v (vb true))] (apc ((F40_2_ok (E := E) s h1).cp rfl (Hp gen xs t)) (av h2 (apc ((F41_ok (E := E) x1_0 h3).cp rfl (Hp gen xs t)) (apc ((F42_ok (E := E) x3_0 h4).cp rfl (Hp gen xs t)) (av h5 (av h6 (apc ((ap_out (e := eEn) (xs := xs) (news := [eN0 x3_0]) rfl (rows_x (e := eEn) (xs := [eN0 x3_0]) rfl) rfl h7 h8) : appA (Hq gen xs t x3_0) 25 3 40 (.sl 1 gen 3 0 n) (.sl 3 0 3 0 1) = some ((.sl 1 (gen + 1) 3 0 (n + 1)), (Ha gen n xs t x3_0))) (av h9 (apc ((((F43_2_ok x1_1 h10).cp rfl _).trans (congrArg (fun z => some (vb z)) h11)) : CP (prgR E) 43 [vs x1_1, (vs (⟨([41] : List UInt8).toArray⟩ : ByteArray))] (Ha gen n xs t x3_0) = some (vb true)) apn))))))))) (by kernel_rfl)
theorem b2_9 {x1_0 : ByteArray} {x1_1 : ByteArray} {x1_2 : Bool} (h1 : F40_2 s = some (.k0 x1_0 x1_1 x1_2)) (h2 : x1_2 = true) {x3_0 : Int} (h3 : F41 E x1_0 = some (.k0 x3_0)) {x4 : ByteArray} (h4 : F42 x3_0 = some x4) (h5 : (!(x4.toList == x1_0.toList)) = false) (h6 : (decide (x3_0 < 0)) = false) (h7 : (apOk n 1 xs.length 40) = true) (h8 : (decide (n + 1 ≤ xs.length)) = false) (h9 : b = true) {x10 : Bool} (h10 : F43_2 x1_1 = some x10) (h11 : x10 = false) : ∃ g, rnR E b2B_i ⟨fr 147 u (Lp (.sl 1 gen 3 0 n) b (vs s)), (Hp gen xs t)⟩ = some ((.brk 1000002), ⟨fr 147 g [(2, .ptr 0 0), (3, i6 0), (4, (.sl 1 (gen + 1) 3 0 (n + 1))), (5, .ptr 2 0), (6, vb true), (7, vs x1_1)], (Ha gen n xs t x3_0)⟩) :=
  exR [(62, .v (.tup [vs x1_0, vs x1_1, vb x1_2])), (65, .d true), (69, .v (.tup [i6 x3_0, (.p (.val .nilIface))])), (76, .v (vs x4)), (78, .d false), (82, .d false), (88, .r (.sl 1 (gen + 1) 3 0 (n + 1)) (Ha gen n xs t x3_0)), (90, .d true), (97, .v (vb false))] (apc ((F40_2_ok (E := E) s h1).cp rfl (Hp gen xs t)) (av h2 (apc ((F41_ok (E := E) x1_0 h3).cp rfl (Hp gen xs t)) (apc ((F42_ok (E := E) x3_0 h4).cp rfl (Hp gen xs t)) (av h5 (av h6 (apc ((ap_out (e := eEn) (xs := xs) (news := [eN0 x3_0]) rfl (rows_x (e := eEn) (xs := [eN0 x3_0]) rfl) rfl h7 h8) : appA (Hq gen xs t x3_0) 25 3 40 (.sl 1 gen 3 0 n) (.sl 3 0 3 0 1) = some ((.sl 1 (gen + 1) 3 0 (n + 1)), (Ha gen n xs t x3_0))) (av h9 (apc ((((F43_2_ok x1_1 h10).cp rfl _).trans (congrArg (fun z => some (vb z)) h11)) : CP (prgR E) 43 [vs x1_1, (vs (⟨([41] : List UInt8).toArray⟩ : ByteArray))] (Ha gen n xs t x3_0) = some (vb false)) apn))))))))) (by kernel_rfl)
theorem b2_10 {x1_0 : ByteArray} {x1_1 : ByteArray} {x1_2 : Bool} (h1 : F40_2 s = some (.k0 x1_0 x1_1 x1_2)) (h2 : x1_2 = true) {x3_0 : Int} (h3 : F41 E x1_0 = some (.k0 x3_0)) {x4 : ByteArray} (h4 : F42 x3_0 = some x4) (h5 : (!(x4.toList == x1_0.toList)) = false) (h6 : (decide (x3_0 < 0)) = false) (h7 : (apOk n 1 xs.length 40) = true) (h8 : (decide (n + 1 ≤ xs.length)) = false) (h9 : b = false) (h10 : (decide ((((n + 1) : Nat) : Int) > 16384)) = true) {x11 : Bool} (h11 : F43_2 x1_1 = some x11) (h12 : x11 = true) : ∃ g, rnR E b2B_i ⟨fr 147 u (Lp (.sl 1 gen 3 0 n) b (vs s)), (Hp gen xs t)⟩ = some ((.brk 1000003), ⟨fr 147 g [(2, .ptr 0 0), (3, i6 0), (4, (.sl 1 (gen + 1) 3 0 (n + 1))), (5, .ptr 2 0), (6, vb true), (7, vs x1_1)], (Ha gen n xs t x3_0)⟩) :=
  exR [(62, .v (.tup [vs x1_0, vs x1_1, vb x1_2])), (65, .d true), (69, .v (.tup [i6 x3_0, (.p (.val .nilIface))])), (76, .v (vs x4)), (78, .d false), (82, .d false), (88, .r (.sl 1 (gen + 1) 3 0 (n + 1)) (Ha gen n xs t x3_0)), (90, .d false), (94, .d true), (97, .v (vb true))] (apc ((F40_2_ok (E := E) s h1).cp rfl (Hp gen xs t)) (av h2 (apc ((F41_ok (E := E) x1_0 h3).cp rfl (Hp gen xs t)) (apc ((F42_ok (E := E) x3_0 h4).cp rfl (Hp gen xs t)) (av h5 (av h6 (apc ((ap_out (e := eEn) (xs := xs) (news := [eN0 x3_0]) rfl (rows_x (e := eEn) (xs := [eN0 x3_0]) rfl) rfl h7 h8) : appA (Hq gen xs t x3_0) 25 3 40 (.sl 1 gen 3 0 n) (.sl 3 0 3 0 1) = some ((.sl 1 (gen + 1) 3 0 (n + 1)), (Ha gen n xs t x3_0))) (av h9 (av h10 (apc ((((F43_2_ok x1_1 h11).cp rfl _).trans (congrArg (fun z => some (vb z)) h12)) : CP (prgR E) 43 [vs x1_1, (vs (⟨([41] : List UInt8).toArray⟩ : ByteArray))] (Ha gen n xs t x3_0) = some (vb true)) apn)))))))))) (by kernel_rfl)
theorem b2_11 {x1_0 : ByteArray} {x1_1 : ByteArray} {x1_2 : Bool} (h1 : F40_2 s = some (.k0 x1_0 x1_1 x1_2)) (h2 : x1_2 = true) {x3_0 : Int} (h3 : F41 E x1_0 = some (.k0 x3_0)) {x4 : ByteArray} (h4 : F42 x3_0 = some x4) (h5 : (!(x4.toList == x1_0.toList)) = false) (h6 : (decide (x3_0 < 0)) = false) (h7 : (apOk n 1 xs.length 40) = true) (h8 : (decide (n + 1 ≤ xs.length)) = false) (h9 : b = false) (h10 : (decide ((((n + 1) : Nat) : Int) > 16384)) = true) {x11 : Bool} (h11 : F43_2 x1_1 = some x11) (h12 : x11 = false) : ∃ g, rnR E b2B_i ⟨fr 147 u (Lp (.sl 1 gen 3 0 n) b (vs s)), (Hp gen xs t)⟩ = some ((.brk 1000002), ⟨fr 147 g [(2, .ptr 0 0), (3, i6 0), (4, (.sl 1 (gen + 1) 3 0 (n + 1))), (5, .ptr 2 0), (6, vb true), (7, vs x1_1)], (Ha gen n xs t x3_0)⟩) :=
  exR [(62, .v (.tup [vs x1_0, vs x1_1, vb x1_2])), (65, .d true), (69, .v (.tup [i6 x3_0, (.p (.val .nilIface))])), (76, .v (vs x4)), (78, .d false), (82, .d false), (88, .r (.sl 1 (gen + 1) 3 0 (n + 1)) (Ha gen n xs t x3_0)), (90, .d false), (94, .d true), (97, .v (vb false))] (apc ((F40_2_ok (E := E) s h1).cp rfl (Hp gen xs t)) (av h2 (apc ((F41_ok (E := E) x1_0 h3).cp rfl (Hp gen xs t)) (apc ((F42_ok (E := E) x3_0 h4).cp rfl (Hp gen xs t)) (av h5 (av h6 (apc ((ap_out (e := eEn) (xs := xs) (news := [eN0 x3_0]) rfl (rows_x (e := eEn) (xs := [eN0 x3_0]) rfl) rfl h7 h8) : appA (Hq gen xs t x3_0) 25 3 40 (.sl 1 gen 3 0 n) (.sl 3 0 3 0 1) = some ((.sl 1 (gen + 1) 3 0 (n + 1)), (Ha gen n xs t x3_0))) (av h9 (av h10 (apc ((((F43_2_ok x1_1 h11).cp rfl _).trans (congrArg (fun z => some (vb z)) h12)) : CP (prgR E) 43 [vs x1_1, (vs (⟨([41] : List UInt8).toArray⟩ : ByteArray))] (Ha gen n xs t x3_0) = some (vb false)) apn)))))))))) (by kernel_rfl)
theorem b2_12 {x1_0 : ByteArray} {x1_1 : ByteArray} {x1_2 : Bool} (h1 : F40_2 s = some (.k0 x1_0 x1_1 x1_2)) (h2 : x1_2 = true) {x3_0 : Int} (h3 : F41 E x1_0 = some (.k0 x3_0)) {x4 : ByteArray} (h4 : F42 x3_0 = some x4) (h5 : (!(x4.toList == x1_0.toList)) = false) (h6 : (decide (x3_0 < 0)) = false) (h7 : (apOk n 1 xs.length 40) = true) (h8 : (decide (n + 1 ≤ xs.length)) = false) (h9 : b = false) (h10 : (decide ((((n + 1) : Nat) : Int) > 16384)) = false) {x11 : Bool} (h11 : F43_2 x1_1 = some x11) (h12 : x11 = true) : ∃ g, rnR E b2B_i ⟨fr 147 u (Lp (.sl 1 gen 3 0 n) b (vs s)), (Hp gen xs t)⟩ = some ((.brk 1000003), ⟨fr 147 g [(2, .ptr 0 0), (3, i6 0), (4, (.sl 1 (gen + 1) 3 0 (n + 1))), (5, .ptr 2 0), (6, vb false), (7, vs x1_1)], (Ha gen n xs t x3_0)⟩) :=
  exR [(62, .v (.tup [vs x1_0, vs x1_1, vb x1_2])), (65, .d true), (69, .v (.tup [i6 x3_0, (.p (.val .nilIface))])), (76, .v (vs x4)), (78, .d false), (82, .d false), (88, .r (.sl 1 (gen + 1) 3 0 (n + 1)) (Ha gen n xs t x3_0)), (90, .d false), (94, .d false), (97, .v (vb true))] (apc ((F40_2_ok (E := E) s h1).cp rfl (Hp gen xs t)) (av h2 (apc ((F41_ok (E := E) x1_0 h3).cp rfl (Hp gen xs t)) (apc ((F42_ok (E := E) x3_0 h4).cp rfl (Hp gen xs t)) (av h5 (av h6 (apc ((ap_out (e := eEn) (xs := xs) (news := [eN0 x3_0]) rfl (rows_x (e := eEn) (xs := [eN0 x3_0]) rfl) rfl h7 h8) : appA (Hq gen xs t x3_0) 25 3 40 (.sl 1 gen 3 0 n) (.sl 3 0 3 0 1) = some ((.sl 1 (gen + 1) 3 0 (n + 1)), (Ha gen n xs t x3_0))) (av h9 (av h10 (apc ((((F43_2_ok x1_1 h11).cp rfl _).trans (congrArg (fun z => some (vb z)) h12)) : CP (prgR E) 43 [vs x1_1, (vs (⟨([41] : List UInt8).toArray⟩ : ByteArray))] (Ha gen n xs t x3_0) = some (vb true)) apn)))))))))) (by kernel_rfl)
theorem b2_13 {x1_0 : ByteArray} {x1_1 : ByteArray} {x1_2 : Bool} (h1 : F40_2 s = some (.k0 x1_0 x1_1 x1_2)) (h2 : x1_2 = true) {x3_0 : Int} (h3 : F41 E x1_0 = some (.k0 x3_0)) {x4 : ByteArray} (h4 : F42 x3_0 = some x4) (h5 : (!(x4.toList == x1_0.toList)) = false) (h6 : (decide (x3_0 < 0)) = false) (h7 : (apOk n 1 xs.length 40) = true) (h8 : (decide (n + 1 ≤ xs.length)) = false) (h9 : b = false) (h10 : (decide ((((n + 1) : Nat) : Int) > 16384)) = false) {x11 : Bool} (h11 : F43_2 x1_1 = some x11) (h12 : x11 = false) : ∃ g, rnR E b2B_i ⟨fr 147 u (Lp (.sl 1 gen 3 0 n) b (vs s)), (Hp gen xs t)⟩ = some ((.brk 1000002), ⟨fr 147 g [(2, .ptr 0 0), (3, i6 0), (4, (.sl 1 (gen + 1) 3 0 (n + 1))), (5, .ptr 2 0), (6, vb false), (7, vs x1_1)], (Ha gen n xs t x3_0)⟩) :=
  exR [(62, .v (.tup [vs x1_0, vs x1_1, vb x1_2])), (65, .d true), (69, .v (.tup [i6 x3_0, (.p (.val .nilIface))])), (76, .v (vs x4)), (78, .d false), (82, .d false), (88, .r (.sl 1 (gen + 1) 3 0 (n + 1)) (Ha gen n xs t x3_0)), (90, .d false), (94, .d false), (97, .v (vb false))] (apc ((F40_2_ok (E := E) s h1).cp rfl (Hp gen xs t)) (av h2 (apc ((F41_ok (E := E) x1_0 h3).cp rfl (Hp gen xs t)) (apc ((F42_ok (E := E) x3_0 h4).cp rfl (Hp gen xs t)) (av h5 (av h6 (apc ((ap_out (e := eEn) (xs := xs) (news := [eN0 x3_0]) rfl (rows_x (e := eEn) (xs := [eN0 x3_0]) rfl) rfl h7 h8) : appA (Hq gen xs t x3_0) 25 3 40 (.sl 1 gen 3 0 n) (.sl 3 0 3 0 1) = some ((.sl 1 (gen + 1) 3 0 (n + 1)), (Ha gen n xs t x3_0))) (av h9 (av h10 (apc ((((F43_2_ok x1_1 h11).cp rfl _).trans (congrArg (fun z => some (vb z)) h12)) : CP (prgR E) 43 [vs x1_1, (vs (⟨([41] : List UInt8).toArray⟩ : ByteArray))] (Ha gen n xs t x3_0) = some (vb false)) apn)))))))))) (by kernel_rfl)
theorem b2_15 {x1_0 : ByteArray} {x1_1 : ByteArray} {x1_2 : Bool} (h1 : F40_2 s = some (.k0 x1_0 x1_1 x1_2)) (h2 : x1_2 = true) {x3_0 : Int} (h3 : F41 E x1_0 = some (.k1 x3_0)) : ∃ g, rnR E b2B_i ⟨fr 147 u (Lp (.sl 1 gen 3 0 n) b (vs s)), (Hp gen xs t)⟩ = some ((.brk 1000000), ⟨fr 147 g (Lp (.sl 1 gen 3 0 n) b (vs s)), (Hp gen xs t)⟩) :=
  exR [(62, .v (.tup [vs x1_0, vs x1_1, vb x1_2])), (65, .d true), (69, .v (.tup [i6 x3_0, .anye]))] (apc ((F40_2_ok (E := E) s h1).cp rfl (Hp gen xs t)) (av h2 (apc ((F41_ok (E := E) x1_0 h3).cp rfl (Hp gen xs t)) apn))) (by kernel_rfl)
theorem b2_16 {x1_0 : ByteArray} {x1_1 : ByteArray} {x1_2 : Bool} (h1 : F40_2 s = some (.k0 x1_0 x1_1 x1_2)) (h2 : x1_2 = false) : ∃ g, rnR E b2B_i ⟨fr 147 u (Lp (.sl 1 gen 3 0 n) b (vs s)), (Hp gen xs t)⟩ = some (.norm, ⟨fr 147 g (Lp (.sl 1 gen 3 0 n) b (vs s)), (Hp gen xs t)⟩) :=
  exR [(62, .v (.tup [vs x1_0, vs x1_1, vb x1_2])), (65, .d false)] (apc ((F40_2_ok (E := E) s h1).cp rfl (Hp gen xs t)) (av h2 apn)) (by kernel_rfl)
def r20B_i : IC :=
  (.opsR 0 [(.mk (oI 99 (.mv (tI 4))) 0 0 [] 0), (.mk (oI 100 (.mv (tI 4))) 0 0 [] 0), (.mk (oI 101 (.len (tI 100))) 0 0 [] 0), (.mk (oI 102 (.bin .sub (tI 101) (cI 1))) 0 0 [] 0), (.mk (oI 103 (.indexA .none 3 (tI 99) (tI 102))) 0 0 [] 0), (.mk (oI 104 (.load .true 3 (tI 103))) 0 0 [] 0), (.mk (oI 105 (.mv (tI 4))) 0 0 [] 0), (.mk (oI 106 (.mv (tI 4))) 0 0 [] 0), (.mk (oI 107 (.len (tI 106))) 0 0 [] 0), (.mk (oI 108 (.bin .sub (tI 107) (cI 1))) 0 0 [] 0), (.mk (oI 109 (.slice 3 (tI 105) .none (.some (tI 108)))) 0 0 [5] 0), (.mk (oI 110 (.mv (tI 7))) 0 0 [] 0), (.mk (oI 111 (.sliceS (tI 110) (.some (cI 1)) .none)) 0 0 [] 0), (.mk ⟨.none, (.store 3 (tI 5) (tI 104)), .none⟩ 0 0 [10] 0), (.mk (oI 4 (.mv (tI 109))) 0 0 [] 0), (.mk (oI 7 (.mv (tI 111))) 0 0 [] 0)])
theorem r20B_c : (compC prog (shOf sh []) r20B []).1 = r20B_i := by kernel_rfl
theorem r20B_n : noR r20B = true := by kernel_rfl
theorem p3_0 {x1 : Nat} (h1 : ixN n (w6 (((n : Nat) : Int) - 1)) = some x1) {x2 : En} (h2 : xs[x1]? = some x2) (h3 : (slOk (w6 (((n : Nat) : Int) - 1)) n xs.length) = true) (h4 : (sl_ok 1 (s.size : Int) s.size) = true) : ∃ g, rnR E r20B_i ⟨fr 147 u (Lp (.sl 1 gen 3 0 n) b (vs s)), (Hp gen xs t)⟩ = some (.norm, ⟨fr 147 g [(2, .ptr 0 0), (3, i6 0), (4, (.sl 1 gen 3 0 (Int.toNat (w6 (((n : Nat) : Int) - 1))))), (5, .ptr 2 0), (6, vb b), (7, (vs (s.extract (Int.toNat 1) (Int.toNat (s.size : Int)))))], [.cells 25 [i6 0, vi .u8 0, n0], .row 25 3 gen (ra eEn xs), .cells 25 ((eEn x2).map .p)]⟩) :=
  exR [(103, .v (.rp 1 gen 3 x1 0)), (104, .v (.agg ((eEn x2).map .p))), (109, .v (.sl 1 gen 3 0 (Int.toNat (w6 (((n : Nat) : Int) - 1))))), (111, .v (vs (s.extract (Int.toNat 1) (Int.toNat (s.size : Int)))))] (apc ((idx_sl h1) : idxA 3 (.sl 1 gen 3 0 n) (i6 (w6 (((n : Nat) : Int) - 1))) = some (.rp 1 gen 3 x1 0)) (apc ((ld_row rfl h2 rfl) : ldA (Hp gen xs t) .true 3 (.rp 1 gen 3 x1 0) = some (.agg ((eEn x2).map .p))) (apc ((sl_own (e := eEn) (xs := xs) rfl h3) : slA (Hp gen xs t) 3 (.sl 1 gen 3 0 n) (some 0) (some (w6 (((n : Nat) : Int) - 1))) = some (.sl 1 gen 3 0 (Int.toNat (w6 (((n : Nat) : Int) - 1))))) (apc ((sl_str h4) : slS (vs s) (some 1) (some (s.size : Int)) = some (vs (s.extract (Int.toNat 1) (Int.toNat (s.size : Int))))) apn)))) (by kernel_rfl)
def r21B_i : IC :=
  (.ops [oI 112 (.mv (tI 4)), oI 113 (.len (tI 112)), oI 114 (.bin .gtr (tI 113) (cI 0))])
theorem r21B_c : (compC prog (shOf sh []) r21B []).1 = r21B_i := by kernel_rfl
theorem r21B_n : noR r21B = true := by kernel_rfl
theorem p21_0 : ∃ g, rnR E r21B_i ⟨fr 147 u (Lp (.sl 1 gen 3 0 n) b (vs s)), (Hp gen xs t)⟩ = some (.norm, ⟨fr 147 g [(2, .ptr 0 0), (3, i6 0), (4, .sl 1 gen 3 0 n), (5, .ptr 2 0), (6, vb b), (7, vs s), (114, (vb (decide (((n : Nat) : Int) > 0))))], (Hp gen xs t)⟩) :=
  exR [] apn (by kernel_rfl)
def r22B_i : IC :=
  (.ops [oI 115 (.mv (tI 4)), oI 116 (.mv (tI 4)), oI 117 (.len (tI 116)), oI 118 (.bin .sub (tI 117) (cI 1)), oI 119 (.indexA .none 3 (tI 115) (tI 118)), oI 17 (.mv (tI 119))])
theorem r22B_c : (compC prog (shOf sh []) r22B []).1 = r22B_i := by kernel_rfl
theorem r22B_n : noR r22B = true := by kernel_rfl
theorem p22_0 {x1 : Nat} (h1 : ixN n (w6 (((n : Nat) : Int) - 1)) = some x1) : ∃ g, rnR E r22B_i ⟨fr 147 u (Lp (.sl 1 gen 3 0 n) b (vs s)), (Hp gen xs t)⟩ = some (.norm, ⟨fr 147 g [(2, .ptr 0 0), (3, i6 0), (4, .sl 1 gen 3 0 n), (5, .ptr 2 0), (6, vb b), (7, vs s), (17, .rp 1 gen 3 x1 0)], (Hp gen xs t)⟩) :=
  exR [(119, .v (.rp 1 gen 3 x1 0))] (apc ((idx_sl h1) : idxA 3 (.sl 1 gen 3 0 n) (i6 (w6 (((n : Nat) : Int) - 1))) = some (.rp 1 gen 3 x1 0)) apn) (by kernel_rfl)
def e1B_i : IC :=
  (.block 0 (.seq (.ops [⟨(.some 132), (.mv (.t 7)), .none⟩, ⟨(.some 133), (.call .false (.c (.fn 43 [])) [.t 132, (.c (.p (.val (.string ⟨([32] : List UInt8).toArray⟩))))]), .none⟩, ⟨(.some 131), (.mv (.t 133)), .none⟩]) (.cond (.t 131) (.seq (.ops [⟨(.some 134), (.mv (.t 7)), .none⟩, ⟨(.some 135), (.sliceS (.t 134) (.some (.c (.p (.val (.int .i64 1))))) .none), .none⟩, ⟨(.some 7), (.mv (.t 135)), .none⟩]) (.exit 1000002)) (.seq (.ops [⟨(.some 137), (.mv (.t 7)), .none⟩, ⟨(.some 138), (.call .false (.c (.fn 43 [])) [.t 137, (.c (.p (.val (.string ⟨([41] : List UInt8).toArray⟩))))]), .none⟩, ⟨(.some 136), (.mv (.t 138)), .none⟩]) (.cond (.t 136) (.exit 1000003) .skip)))))
theorem e1B_c : (compC prog (shOf sh []) e1B []).1 = e1B_i := by kernel_rfl
theorem e1B_n : noR e1B = true := by kernel_rfl
theorem e1_0 {x1 : Bool} (h1 : F43_3 s = some x1) (h2 : x1 = true) (h3 : (sl_ok 1 (s.size : Int) s.size) = true) : ∃ g, rnR E e1B_i ⟨fr 147 u (Lp (.sl 1 gen 3 0 n) b (vs s)), (Hp gen xs t)⟩ = some ((.brk 1000002), ⟨fr 147 g [(2, .ptr 0 0), (3, i6 0), (4, .sl 1 gen 3 0 n), (5, .ptr 2 0), (6, vb b), (7, (vs (s.extract (Int.toNat 1) (Int.toNat (s.size : Int)))))], (Hp gen xs t)⟩) :=
  exR [(133, .v (vb true)), (135, .v (vs (s.extract (Int.toNat 1) (Int.toNat (s.size : Int)))))] (apc ((((F43_3_ok s h1).cp rfl _).trans (congrArg (fun z => some (vb z)) h2)) : CP (prgR E) 43 [vs s, (vs (⟨([32] : List UInt8).toArray⟩ : ByteArray))] (Hp gen xs t) = some (vb true)) (apc ((sl_str h3) : slS (vs s) (some 1) (some (s.size : Int)) = some (vs (s.extract (Int.toNat 1) (Int.toNat (s.size : Int))))) apn)) (by kernel_rfl)
theorem e1_2 {x1 : Bool} (h1 : F43_3 s = some x1) (h2 : x1 = false) {x3 : Bool} (h3 : F43_2 s = some x3) (h4 : x3 = true) : ∃ g, rnR E e1B_i ⟨fr 147 u (Lp (.sl 1 gen 3 0 n) b (vs s)), (Hp gen xs t)⟩ = some ((.brk 1000003), ⟨fr 147 g (Lp (.sl 1 gen 3 0 n) b (vs s)), (Hp gen xs t)⟩) :=
  exR [(133, .v (vb false)), (138, .v (vb true))] (apc ((((F43_3_ok s h1).cp rfl _).trans (congrArg (fun z => some (vb z)) h2)) : CP (prgR E) 43 [vs s, (vs (⟨([32] : List UInt8).toArray⟩ : ByteArray))] (Hp gen xs t) = some (vb false)) (apc ((((F43_2_ok s h3).cp rfl _).trans (congrArg (fun z => some (vb z)) h4)) : CP (prgR E) 43 [vs s, (vs (⟨([41] : List UInt8).toArray⟩ : ByteArray))] (Hp gen xs t) = some (vb true)) apn)) (by kernel_rfl)
theorem e1_3 {x1 : Bool} (h1 : F43_3 s = some x1) (h2 : x1 = false) {x3 : Bool} (h3 : F43_2 s = some x3) (h4 : x3 = false) : ∃ g, rnR E e1B_i ⟨fr 147 u (Lp (.sl 1 gen 3 0 n) b (vs s)), (Hp gen xs t)⟩ = some (.norm, ⟨fr 147 g (Lp (.sl 1 gen 3 0 n) b (vs s)), (Hp gen xs t)⟩) :=
  exR [(133, .v (vb false)), (138, .v (vb false))] (apc ((((F43_3_ok s h1).cp rfl _).trans (congrArg (fun z => some (vb z)) h2)) : CP (prgR E) 43 [vs s, (vs (⟨([32] : List UInt8).toArray⟩ : ByteArray))] (Hp gen xs t) = some (vb false)) (apc ((((F43_2_ok s h3).cp rfl _).trans (congrArg (fun z => some (vb z)) h4)) : CP (prgR E) 43 [vs s, (vs (⟨([41] : List UInt8).toArray⟩ : ByteArray))] (Hp gen xs t) = some (vb false)) apn)) (by kernel_rfl)
def b1B_i : IC :=
  (.block 1 (.seq (.ops [⟨(.some 140), (.mv (.t 7)), .none⟩, ⟨(.some 141), (.bin .neq (.t 140) (.c (.p (.val (.string ⟨([] : List UInt8).toArray⟩))))), .none⟩, ⟨(.some 139), (.mv (.t 141)), .none⟩]) (.cond (.t 139) (.exit 1000000) (.seq (.ops [⟨(.some 143), (.mv (.t 6)), .none⟩, ⟨(.some 142), (.mv (.t 143)), .none⟩]) (.cond (.t 142) (.seq (.ops [⟨(.some 144), (.build [(.val (.int .i64 0)), (.val (.int .u8 0)), (.val (.slice .none 0 0))] []), .none⟩, ⟨.none, (.store 3 (.t 2) (.t 144)), .none⟩, ⟨(.some 3), (.mv (.c (.p (.val (.int .i64 3))))), .none⟩]) .ret) .skip)))))
theorem b1B_c : (compC prog (shOf sh []) b1B []).1 = b1B_i := by kernel_rfl
theorem b1B_n : noR b1B = true := by kernel_rfl
theorem b1_0 (h1 : (!(s.toList == b0.toList)) = true) : ∃ g, rnR E b1B_i ⟨fr 147 u (Lp (.sl 1 gen 3 0 n) b (vs s)), (Hp gen xs t)⟩ = some ((.brk 1000000), ⟨fr 147 g (Lp (.sl 1 gen 3 0 n) b (vs s)), (Hp gen xs t)⟩) :=
  exR [(141, .d true)] (av h1 apn) (by kernel_rfl)
theorem b1_1 (h1 : (!(s.toList == b0.toList)) = false) (h2 : b = true) : ∃ g, rnR E b1B_i ⟨fr 147 u (Lp (.sl 1 gen 3 0 n) b (vs s)), (Hp gen xs t)⟩ = some (.ret, ⟨fr 147 g [(2, .ptr 0 0), (3, i6 3), (4, .sl 1 gen 3 0 n), (5, .ptr 2 0), (6, vb b), (7, vs s)], (Hp gen xs t)⟩) :=
  exR [(141, .d false), (143, .d true)] (av h1 (av h2 apn)) (by kernel_rfl)
theorem b1_2 (h1 : (!(s.toList == b0.toList)) = false) (h2 : b = false) : ∃ g, rnR E b1B_i ⟨fr 147 u (Lp (.sl 1 gen 3 0 n) b (vs s)), (Hp gen xs t)⟩ = some (.norm, ⟨fr 147 g (Lp (.sl 1 gen 3 0 n) b (vs s)), (Hp gen xs t)⟩) :=
  exR [(141, .d false), (143, .d false)] (av h1 (av h2 apn)) (by kernel_rfl)
def r30B_i : IC :=
  (.seq (.ops [oI 145 (.load .true 3 (tI 5)), ⟨.none, (.store 3 (tI 2) (tI 145)), .none⟩, oI 3 (.mv (cI 0))]) .ret)
theorem r30B_c : (compC prog (shOf sh []) r30B []).1 = r30B_i := by kernel_rfl
theorem r30B_n : noR r30B = true := by kernel_rfl
theorem p30_0 : ∃ g, rnR E r30B_i ⟨fr 147 u (Lp (.sl 1 gen 3 0 n) b (vs s)), (Hp gen xs t)⟩ = some (.ret, ⟨fr 147 g [(2, .ptr 0 0), (3, i6 0)], [.cells 25 ((cT t).map .p), .row 25 3 gen (ra eEn xs), .cells 25 ((cT t).map .p)]⟩) :=
  exR [] apn (by kernel_rfl)
def x0B_i : IC :=
  (.seq (.ops [oI 146 (.build [(.val (.int .i64 0)), (.val (.int .u8 0)), (.val (.slice .none 0 0))] []), ⟨.none, (.store 3 (tI 2) (tI 146)), .none⟩, oI 3 (.mv (cI 240))]) .ret)
theorem x0B_c : (compC prog (shOf sh []) x0B []).1 = x0B_i := by kernel_rfl
theorem x0B_n : noR x0B = true := by kernel_rfl
theorem x0_0 : ∃ g, rnR E x0B_i ⟨fr 147 u (Lp (.sl 1 gen 3 0 n) b (vs s)), (Hp gen xs t)⟩ = some (.ret, ⟨fr 147 g [(2, .ptr 0 0), (3, i6 240)], (Hp gen xs t)⟩) :=
  exR [] apn (by kernel_rfl)
end
end
end Go.Proofs.Tryd
