/- Decompiled by a program: functions as plain data see them, part 3. -/
import Derived.Test.YtefbhnhekkncpaaDoorH52
namespace Go.Proofs.Tryd
set_option linter.unusedSimpArgs false
set_option linter.unusedVariables false
set_option maxHeartbeats 4000000
open Go Go.Vs
noncomputable section
inductive R_F37_15 where
  | k0 (x0 x1 : Nat) (x2 : Tqq)
def Fo (a1 a2 : Nat) (a3 : ThingD) (a4 a5 : Int) (a6 : BoxD) (a7 : Tqq) (a8 : Bool) (a9 a10 a11 : Nat) (a12 : Oqq) (a13 : Iqq) (a14 a15 : Int) (a16 : Bool) (a17 : Iqq) (a18 : Nat) (a19 : Bqq) (a20 a21 a22 : ThingD) (a23 : Nat) (a24 : Tqq) (a25 : Nat) (a26 : Tqq) (a27 : Nat) (a28 : Tqq) (a29 : Nat) (a30 : Int) (a31 : Nat) (a32 : Bqq) (a33 : Int) (a34 : ByteArray) (a35 a36 a37 a38 : Int) (a39 : Nat) (a40 : Bqq) (a41 : Int) (a42 : ByteArray) (a43 a44 a45 a46 : Int) (r : R_F37_15) : AV := match r with | .k0 x0 x1 x2 => (.sl 1 x0 7 0 x1)
def Fp (a1 a2 : Nat) (a3 : ThingD) (a4 a5 : Int) (a6 : BoxD) (a7 : Tqq) (a8 : Bool) (a9 a10 a11 : Nat) (a12 : Oqq) (a13 : Iqq) (a14 a15 : Int) (a16 : Bool) (a17 : Iqq) (a18 : Nat) (a19 : Bqq) (a20 a21 a22 : ThingD) (a23 : Nat) (a24 : Tqq) (a25 : Nat) (a26 : Tqq) (a27 : Nat) (a28 : Tqq) (a29 : Nat) (a30 : Int) (a31 : Nat) (a32 : Bqq) (a33 : Int) (a34 : ByteArray) (a35 a36 a37 a38 : Int) (a39 : Nat) (a40 : Bqq) (a41 : Int) (a42 : ByteArray) (a43 a44 a45 a46 : Int) (r : R_F37_15) : List AB := match r with | .k0 x0 x1 x2 => [.cells 28 ((cBx a6).map .p), yT x0 x2, .cells 83 [sp a8 2 0, .sl 3 a9 1 0 a10, .sl 1 a1 7 0 a11, ls 1 Zc a12, ls 1 eI64 a13, i6 a14, i6 a15, vb a16], yU a9 a17, .row 28 4 a18 (ra cBx a19), .cells 77 ((Za a20).map .p), .cells 73 [.ptr 2 0], .cells 77 ((Za a21).map .p), .cells 77 ((Za a22).map .p), yT a23 a24, yT a25 a26, yT a27 a28, .cells 78 [.sl 10 a25 7 0 a29], .cells 3 [i6 a30], .row 28 4 a31 (ra cBx a32), .cells 77 [i6 a33, vs a34, i6 a35, n0, i6 a36, i6 a37, i6 a38], .row 28 4 a39 (ra cBx a40), .cells 77 [i6 a41, vs a42, i6 a43, n0, i6 a44, i6 a45, i6 a46], .cells 77 ((Za a3).map .p), yT0]
def QT (a1 a2 : Nat) (a3 : ThingD) (a4 a5 : Int) (a7 : Tqq) (a13 : Iqq) : Option R_F37_15 :=
  ((runL (fun s => W4 a4 a5 a3 (a3.kids.length : Int) a13 s.1 s.2.1 s.2.2.1 s.2.2.2.1 s.2.2.2.2) (a1, a2, (IntKind.wrap .i64 (a3.at_ + 1)), 0, a7)).bind fun r1 => match r1 with | .k0 x1_0 x1_1 x1_2 => ((runL (fun s => W5 x1_1 s.1 s.2.1 s.2.2) (((a2 : Nat) : Int), (IntKind.wrap .i64 (((x1_1 : Nat) : Int) - 1)), x1_2)).bind fun r2 => match r2 with | .k0 x2_0 => (some (.k0 x1_0 x1_1 x2_0))))
abbrev NC (g1 : Nat → AV) (x1_0 x1_1 a2 : Nat) (a3 : ThingD) (a6 : BoxD) (x1_2 : Tqq) (a8 : Bool) (a9 a10 a1 a11 : Nat) (a12 : Oqq) (a13 : Iqq) (a14 a15 : Int) (a16 : Bool) (a17 : Iqq) (a18 : Nat) (a19 : Bqq) (a20 a21 a22 : ThingD) (a23 : Nat) (a24 : Tqq) (a25 : Nat) (a26 : Tqq) (a27 : Nat) (a28 : Tqq) (a29 : Nat) (a30 : Int) (a31 : Nat) (a32 : Bqq) (a33 : Int) (a34 : ByteArray) (a35 a36 a37 a38 : Int) (a39 : Nat) (a40 : Bqq) (a41 : Int) (a42 : ByteArray) (a43 a44 a45 a46 : Int) : St := ⟨fr 74 g1 [(1, .sl 1 x1_0 7 0 x1_1), (12, (i6 ((a2 : Nat) : Int))), (24, (.p (.lst 4 (Zb a3.kids))))], [.cells 28 ((cBx a6).map .p), yT x1_0 x1_2, .cells 83 [sp a8 2 0, .sl 3 a9 1 0 a10, .sl 1 a1 7 0 a11, ls 1 Zc a12, ls 1 eI64 a13, i6 a14, i6 a15, vb a16], yU a9 a17, .row 28 4 a18 (ra cBx a19), .cells 77 ((Za a20).map .p), .cells 73 [.ptr 2 0], .cells 77 ((Za a21).map .p), .cells 77 ((Za a22).map .p), yT a23 a24, yT a25 a26, yT a27 a28, .cells 78 [.sl 10 a25 7 0 a29], .cells 3 [i6 a30], .row 28 4 a31 (ra cBx a32), .cells 77 [i6 a33, vs a34, i6 a35, n0, i6 a36, i6 a37, i6 a38], .row 28 4 a39 (ra cBx a40), .cells 77 [i6 a41, vs a42, i6 a43, n0, i6 a44, i6 a45, i6 a46], .cells 77 ((Za a3).map .p), yT0]⟩
abbrev ND (g2 : Nat → AV) (x1_0 x1_1 : Nat) (a6 : BoxD) (x2_0 : Tqq) (a8 : Bool) (a9 a10 a1 a11 : Nat) (a12 : Oqq) (a13 : Iqq) (a14 a15 : Int) (a16 : Bool) (a17 : Iqq) (a18 : Nat) (a19 : Bqq) (a20 a21 a22 : ThingD) (a23 : Nat) (a24 : Tqq) (a25 : Nat) (a26 : Tqq) (a27 : Nat) (a28 : Tqq) (a29 : Nat) (a30 : Int) (a31 : Nat) (a32 : Bqq) (a33 : Int) (a34 : ByteArray) (a35 a36 a37 a38 : Int) (a39 : Nat) (a40 : Bqq) (a41 : Int) (a42 : ByteArray) (a43 a44 a45 a46 : Int) (a3 : ThingD) : St := ⟨fr 74 g2 [(1, .sl 1 x1_0 7 0 x1_1)], [.cells 28 ((cBx a6).map .p), yT x1_0 x2_0, .cells 83 [sp a8 2 0, .sl 3 a9 1 0 a10, .sl 1 a1 7 0 a11, ls 1 Zc a12, ls 1 eI64 a13, i6 a14, i6 a15, vb a16], yU a9 a17, .row 28 4 a18 (ra cBx a19), .cells 77 ((Za a20).map .p), .cells 73 [.ptr 2 0], .cells 77 ((Za a21).map .p), .cells 77 ((Za a22).map .p), yT a23 a24, yT a25 a26, yT a27 a28, .cells 78 [.sl 10 a25 7 0 a29], .cells 3 [i6 a30], .row 28 4 a31 (ra cBx a32), .cells 77 [i6 a33, vs a34, i6 a35, n0, i6 a36, i6 a37, i6 a38], .row 28 4 a39 (ra cBx a40), .cells 77 [i6 a41, vs a42, i6 a43, n0, i6 a44, i6 a45, i6 a46], .cells 77 ((Za a3).map .p), yT0]⟩
theorem NE (a1 a2 : Nat) (a3 : ThingD) (a4 a5 : Int) (a6 : BoxD) (a7 : Tqq) (a8 : Bool) (a9 a10 a11 : Nat) (a12 : Oqq) (a13 : Iqq) (a14 a15 : Int) (a16 : Bool) (a17 : Iqq) (a18 : Nat) (a19 : Bqq) (a20 a21 a22 : ThingD) (a23 : Nat) (a24 : Tqq) (a25 : Nat) (a26 : Tqq) (a27 : Nat) (a28 : Tqq) (a29 : Nat) (a30 : Int) (a31 : Nat) (a32 : Bqq) (a33 : Int) (a34 : ByteArray) (a35 a36 a37 a38 : Int) (a39 : Nat) (a40 : Bqq) (a41 : Int) (a42 : ByteArray) (a43 a44 a45 a46 : Int) {r : R_F37_15} (h : QT a1 a2 a3 a4 a5 a7 a13 = some r) : CS prg 55 [.ptr 2 0, .sl 1 a1 7 0 a2, (.agg ((Za a3).map .p)), i6 a4, i6 a5] [.cells 28 ((cBx a6).map .p), yT a1 a7, .cells 83 [sp a8 2 0, .sl 3 a9 1 0 a10, .sl 1 a1 7 0 a11, ls 1 Zc a12, ls 1 eI64 a13, i6 a14, i6 a15, vb a16], yU a9 a17, .row 28 4 a18 (ra cBx a19), .cells 77 ((Za a20).map .p), .cells 73 [.ptr 2 0], .cells 77 ((Za a21).map .p), .cells 77 ((Za a22).map .p), yT a23 a24, yT a25 a26, yT a27 a28, .cells 78 [.sl 10 a25 7 0 a29], .cells 3 [i6 a30], .row 28 4 a31 (ra cBx a32), .cells 77 [i6 a33, vs a34, i6 a35, n0, i6 a36, i6 a37, i6 a38], .row 28 4 a39 (ra cBx a40), .cells 77 [i6 a41, vs a42, i6 a43, n0, i6 a44, i6 a45, i6 a46]] = some (Fo a1 a2 a3 a4 a5 a6 a7 a8 a9 a10 a11 a12 a13 a14 a15 a16 a17 a18 a19 a20 a21 a22 a23 a24 a25 a26 a27 a28 a29 a30 a31 a32 a33 a34 a35 a36 a37 a38 a39 a40 a41 a42 a43 a44 a45 a46 r, Fp a1 a2 a3 a4 a5 a6 a7 a8 a9 a10 a11 a12 a13 a14 a15 a16 a17 a18 a19 a20 a21 a22 a23 a24 a25 a26 a27 a28 a29 a30 a31 a32 a33 a34 a35 a36 a37 a38 a39 a40 a41 a42 a43 a44 a45 a46 r) := by
 unfold QT at h
 apply bn h; intro r1 h1 h
 cases r1 with
 | k0 x1_0 x1_1 x1_2 =>
  obtain ⟨g1, e1⟩ := NA a1 a4 a5 ((a2 : Nat) : Int) a3 (a3.kids.length : Int) a6 a8 a9 a10 a11 a12 a13 a14 a15 a16 a17 a18 a19 a20 a21 a22 a23 a24 a25 a26 a27 a28 a29 a30 a31 a32 a33 a34 a35 a36 a37 a38 a39 a40 a41 a42 a43 a44 a45 a46 (a1, a2, (w6 (a3.at_ + 1)), 0, a7) _ h1
  apply bn h; intro r2 h2 h
  cases r2 with
  | k0 x2_0 =>
   obtain ⟨g2, e2⟩ := NB x1_0 x1_1 a6 a8 a9 a10 a1 a11 a12 a13 a14 a15 a16 a17 a18 a19 a20 a21 a22 a23 a24 a25 a26 a27 a28 a29 a30 a31 a32 a33 a34 a35 a36 a37 a38 a39 a40 a41 a42 a43 a44 a45 a46 a3 (((a2 : Nat) : Int), (w6 (((x1_1 : Nat) : Int) - 1)), x1_2) _ h2
   rw [← sj h]
   exact fc [(25, .v (i6 (a3.kids.length : Int))), (2000, .l (.brk 0) (NC g1 x1_0 x1_1 a2 a3 a6 x1_2 a8 a9 a10 a1 a11 a12 a13 a14 a15 a16 a17 a18 a19 a20 a21 a22 a23 a24 a25 a26 a27 a28 a29 a30 a31 a32 a33 a34 a35 a36 a37 a38 a39 a40 a41 a42 a43 a44 a45 a46)), (2002, .l (.brk 2) (ND g2 x1_0 x1_1 a6 x2_0 a8 a9 a10 a1 a11 a12 a13 a14 a15 a16 a17 a18 a19 a20 a21 a22 a23 a24 a25 a26 a27 a28 a29 a30 a31 a32 a33 a34 a35 a36 a37 a38 a39 a40 a41 a42 a43 a44 a45 a46 a3)), (6000, .d true)] (apc ((lgr Zv) : lnA (.p (.lst 4 (Zb a3.kids))) = some (i6 (a3.kids.length : Int))) (apc (UZ a1 a4 a5 ((a2 : Nat) : Int) a3 (a3.kids.length : Int) a6 a8 a9 a10 a11 a12 a13 a14 a15 a16 a17 a18 a19 a20 a21 a22 a23 a24 a25 a26 a27 a28 a29 a30 a31 a32 a33 a34 a35 a36 a37 a38 a39 a40 a41 a42 a43 a44 a45 a46 a1 a2 (w6 (a3.at_ + 1)) 0 a7) (apc (e1 : Y0 a1 a4 a5 ((a2 : Nat) : Int) a3 (a3.kids.length : Int) a6 a8 a9 a10 a11 a12 a13 a14 a15 a16 a17 a18 a19 a20 a21 a22 a23 a24 a25 a26 a27 a28 a29 a30 a31 a32 a33 a34 a35 a36 a37 a38 a39 a40 a41 a42 a43 a44 a45 a46 a1 a2 (w6 (a3.at_ + 1)) 0 a7 = some ((.brk 0), NC g1 x1_0 x1_1 a2 a3 a6 x1_2 a8 a9 a10 a1 a11 a12 a13 a14 a15 a16 a17 a18 a19 a20 a21 a22 a23 a24 a25 a26 a27 a28 a29 a30 a31 a32 a33 a34 a35 a36 a37 a38 a39 a40 a41 a42 a43 a44 a45 a46)) (apc (QS x1_0 x1_1 a6 a8 a9 a10 a1 a11 a12 a13 a14 a15 a16 a17 a18 a19 a20 a21 a22 a23 a24 a25 a26 a27 a28 a29 a30 a31 a32 a33 a34 a35 a36 a37 a38 a39 a40 a41 a42 a43 a44 a45 a46 a3 ((a2 : Nat) : Int) (w6 (((x1_1 : Nat) : Int) - 1)) x1_2) (apc (e2 : Y1 x1_0 x1_1 a6 a8 a9 a10 a1 a11 a12 a13 a14 a15 a16 a17 a18 a19 a20 a21 a22 a23 a24 a25 a26 a27 a28 a29 a30 a31 a32 a33 a34 a35 a36 a37 a38 a39 a40 a41 a42 a43 a44 a45 a46 a3 ((a2 : Nat) : Int) (w6 (((x1_1 : Nat) : Int) - 1)) x1_2 = some ((.brk 2), ND g2 x1_0 x1_1 a6 x2_0 a8 a9 a10 a1 a11 a12 a13 a14 a15 a16 a17 a18 a19 a20 a21 a22 a23 a24 a25 a26 a27 a28 a29 a30 a31 a32 a33 a34 a35 a36 a37 a38 a39 a40 a41 a42 a43 a44 a45 a46 a3)) apn)))))
inductive E_L37_1_16 where
  | k0 (x0 x1 : Nat) (x2 : Tqq)
section
variable (a1 : Nat) (a3 a4 a6 : Int) (a7 : ThingD) (a8 : Int) (a9 : BoxD) (a11 : Bool) (a12 a13 a14 : Nat) (a15 : Oqq) (a16 : Iqq) (a17 a18 : Int) (a19 : Bool) (a20 : Iqq) (a21 : Nat) (a22 : Bqq) (a23 a24 a25 : ThingD) (a26 : Nat) (a27 : Tqq) (a28 : Nat) (a29 : Tqq) (a30 : Nat) (a31 : Tqq) (a32 : Nat) (a33 : Int) (a34 : Nat) (a35 : Bqq) (a36 : ThingD) (a37 : Nat) (a38 : Bqq) (a39 : ThingD)
def W6 (v1 v2 : Nat) (v3 v4 : Int) (v5 : Tqq) : Option (E_L37_1_16 ⊕ (Nat × Nat × Int × Int × Tqq)) :=
  (bif (decide (v4 < a8)) then ((getI a7.kids v4).bind fun x2 => (bif (apOk v2 1 v5.length 80) then (bif (decide (v2 + 1 ≤ v5.length)) then ((getI a16 v3).bind fun x5 => (some (.inr (v1, v2 + 1, (IntKind.wrap .i64 (v3 + x5)), (IntKind.wrap .i64 (v4 + 1)), (splice v5 v2 [(⟨x2.kind, x2.text, x2.n, x2.kids, a3, a4, v3⟩ : ThingD)]))))) else ((getI a16 v3).bind fun x5 => (some (.inr ((v1 + 1), v2 + 1, (IntKind.wrap .i64 (v3 + x5)), (IntKind.wrap .i64 (v4 + 1)), (v5.take v2 ++ [(⟨x2.kind, x2.text, x2.n, x2.kids, a3, a4, v3⟩ : ThingD)])))))) else none)) else (some (.inl (.k0 v1 v2 v5))))
def QU (v1 v2 : Nat) (v3 v4 : Int) (v5 : Tqq) : St := ⟨fr 74 ug [(0, .ptr 2 0), (1, .sl 1 v1 7 0 v2), (3, i6 a3), (4, i6 a4), (11, i6 v3), (12, i6 a6), (24, (.p (.lst 4 (Zb a7.kids)))), (25, i6 a8), (26, i6 v4)], [.cells 28 ((cBx a9).map .p), yT v1 v5, .cells 83 [sp a11 2 0, .sl 3 a12 1 0 a13, .sl 1 a1 7 0 a14, ls 1 Zc a15, ls 1 eI64 a16, i6 a17, i6 a18, vb a19], yU a12 a20, .row 28 4 a21 (ra cBx a22), .cells 77 ((Za a23).map .p), .cells 73 [.ptr 2 0], .cells 77 ((Za a24).map .p), .cells 77 ((Za a25).map .p), yT a26 a27, yT a28 a29, yT a30 a31, .cells 78 [.sl 10 a28 7 0 a32], .cells 3 [i6 a33], .row 28 4 a34 (ra cBx a35), .cells 77 ((Za a36).map .p), .row 28 4 a37 (ra cBx a38), .cells 77 ((Za a39).map .p), .cells 77 ((Za a7).map .p), yT0]⟩
theorem U2 (v1 v2 : Nat) (v3 v4 : Int) (v5 : Tqq) : okT 20 (QU a1 a3 a4 a6 a7 a8 a9 a11 a12 a13 a14 a15 a16 a17 a18 a19 a20 a21 a22 a23 a24 a25 a26 a27 a28 a29 a30 a31 a32 a33 a34 a35 a36 a37 a38 a39 v1 v2 v3 v4 v5).h = true := (ZB rfl (ac (ar (Zt (Z5 rfl (Ze rfl (Ze rfl (Ze rfl (Ze rfl (Ze rfl (Ze rfl (Ze rfl rfl)))))))) (ar (ar (ac (ac (ac (ac (ar (ar (ar (ac (ac (ar (ac (ar (ac (ac (ar rfl)))))))))))))))))))))
abbrev Y2 (v1 v2 : Nat) (v3 v4 : Int) (v5 : Tqq) := evH prg 20 [0, 1, 3, 4, 11, 12, 24, 25, 26, 1000199007707] XD (QU a1 a3 a4 a6 a7 a8 a9 a11 a12 a13 a14 a15 a16 a17 a18 a19 a20 a21 a22 a23 a24 a25 a26 a27 a28 a29 a30 a31 a32 a33 a34 a35 a36 a37 a38 a39 v1 v2 v3 v4 v5)
def U3 (e : E_L37_1_16) (r : Option (Out × St)) : Prop := match e with | .k0 x0 x1 x2 => ∃ g, r = some ((.brk 0), ⟨fr 74 g [(1, .sl 1 x0 7 0 x1), (12, i6 a6), (24, (.p (.lst 4 (Zb a7.kids))))], [.cells 28 ((cBx a9).map .p), yT x0 x2, .cells 83 [sp a11 2 0, .sl 3 a12 1 0 a13, .sl 1 a1 7 0 a14, ls 1 Zc a15, ls 1 eI64 a16, i6 a17, i6 a18, vb a19], yU a12 a20, .row 28 4 a21 (ra cBx a22), .cells 77 ((Za a23).map .p), .cells 73 [.ptr 2 0], .cells 77 ((Za a24).map .p), .cells 77 ((Za a25).map .p), yT a26 a27, yT a28 a29, yT a30 a31, .cells 78 [.sl 10 a28 7 0 a32], .cells 3 [i6 a33], .row 28 4 a34 (ra cBx a35), .cells 77 ((Za a36).map .p), .row 28 4 a37 (ra cBx a38), .cells 77 ((Za a39).map .p), .cells 77 ((Za a7).map .p), yT0]⟩)
abbrev Ru (v1 : Nat) (v5 : Tqq) (v2 : Nat) (x2 : BoxD) (v3 : Int) : List AB := [.cells 28 ((cBx a9).map .p), yT v1 (splice v5 v2 [(⟨x2.kind, x2.text, x2.n, x2.kids, a3, a4, v3⟩ : ThingD)]), .cells 83 [sp a11 2 0, .sl 3 a12 1 0 a13, .sl 1 a1 7 0 a14, ls 1 Zc a15, ls 1 eI64 a16, i6 a17, i6 a18, vb a19], yU a12 a20, .row 28 4 a21 (ra cBx a22), .cells 77 ((Za a23).map .p), .cells 73 [.ptr 2 0], .cells 77 ((Za a24).map .p), .cells 77 ((Za a25).map .p), yT a26 a27, yT a28 a29, yT a30 a31, .cells 78 [.sl 10 a28 7 0 a32], .cells 3 [i6 a33], .row 28 4 a34 (ra cBx a35), .cells 77 ((Za a36).map .p), .row 28 4 a37 (ra cBx a38), .cells 77 ((Za a39).map .p), .cells 77 ((Za a7).map .p), yT0, .row 28 4 0 (ra cBx []), .cells 28 ((cBx x2).map .p), .row 77 7 0 [[i6 x2.kind, vs x2.text, i6 x2.n, (.p (.lst 4 (Zb x2.kids))), i6 a3, i6 a4, i6 v3]]]
abbrev Rv (v1 : Nat) (v5 : Tqq) (x2 : BoxD) (v3 : Int) : List AB := [.cells 28 ((cBx a9).map .p), yT v1 v5, .cells 83 [sp a11 2 0, .sl 3 a12 1 0 a13, .sl 1 a1 7 0 a14, ls 1 Zc a15, ls 1 eI64 a16, i6 a17, i6 a18, vb a19], yU a12 a20, .row 28 4 a21 (ra cBx a22), .cells 77 ((Za a23).map .p), .cells 73 [.ptr 2 0], .cells 77 ((Za a24).map .p), .cells 77 ((Za a25).map .p), yT a26 a27, yT a28 a29, yT a30 a31, .cells 78 [.sl 10 a28 7 0 a32], .cells 3 [i6 a33], .row 28 4 a34 (ra cBx a35), .cells 77 ((Za a36).map .p), .row 28 4 a37 (ra cBx a38), .cells 77 ((Za a39).map .p), .cells 77 ((Za a7).map .p), yT0, .row 28 4 0 (ra cBx []), .cells 28 ((cBx x2).map .p), .row 77 7 0 [[i6 x2.kind, vs x2.text, i6 x2.n, (.p (.lst 4 (Zb x2.kids))), i6 a3, i6 a4, i6 v3]]]
abbrev Rw (v1 : Nat) (v5 : Tqq) (v2 : Nat) (x2 : BoxD) (v3 : Int) : List AB := [.cells 28 ((cBx a9).map .p), yT (v1 + 1) (v5.take v2 ++ [(⟨x2.kind, x2.text, x2.n, x2.kids, a3, a4, v3⟩ : ThingD)]), .cells 83 [sp a11 2 0, .sl 3 a12 1 0 a13, .sl 1 a1 7 0 a14, ls 1 Zc a15, ls 1 eI64 a16, i6 a17, i6 a18, vb a19], yU a12 a20, .row 28 4 a21 (ra cBx a22), .cells 77 ((Za a23).map .p), .cells 73 [.ptr 2 0], .cells 77 ((Za a24).map .p), .cells 77 ((Za a25).map .p), yT a26 a27, yT a28 a29, yT a30 a31, .cells 78 [.sl 10 a28 7 0 a32], .cells 3 [i6 a33], .row 28 4 a34 (ra cBx a35), .cells 77 ((Za a36).map .p), .row 28 4 a37 (ra cBx a38), .cells 77 ((Za a39).map .p), .cells 77 ((Za a7).map .p), yT0, .row 28 4 0 (ra cBx []), .cells 28 ((cBx x2).map .p), .row 77 7 0 [[i6 x2.kind, vs x2.text, i6 x2.n, (.p (.lst 4 (Zb x2.kids))), i6 a3, i6 a4, i6 v3]]]
theorem MZ (v1 v2 : Nat) (v3 v4 : Int) (v5 : Tqq) {r : E_L37_1_16 ⊕ (Nat × Nat × Int × Int × Tqq)} (h : W6 a3 a4 a7 a8 a16 v1 v2 v3 v4 v5 = some r) : OkR (fun e => U3 a1 a6 a7 a9 a11 a12 a13 a14 a15 a16 a17 a18 a19 a20 a21 a22 a23 a24 a25 a26 a27 a28 a29 a30 a31 a32 a33 a34 a35 a36 a37 a38 a39 e (Y2 a1 a3 a4 a6 a7 a8 a9 a11 a12 a13 a14 a15 a16 a17 a18 a19 a20 a21 a22 a23 a24 a25 a26 a27 a28 a29 a30 a31 a32 a33 a34 a35 a36 a37 a38 a39 v1 v2 v3 v4 v5)) (fun s => Y2 a1 a3 a4 a6 a7 a8 a9 a11 a12 a13 a14 a15 a16 a17 a18 a19 a20 a21 a22 a23 a24 a25 a26 a27 a28 a29 a30 a31 a32 a33 a34 a35 a36 a37 a38 a39 v1 v2 v3 v4 v5 = Y2 a1 a3 a4 a6 a7 a8 a9 a11 a12 a13 a14 a15 a16 a17 a18 a19 a20 a21 a22 a23 a24 a25 a26 a27 a28 a29 a30 a31 a32 a33 a34 a35 a36 a37 a38 a39 s.1 s.2.1 s.2.2.1 s.2.2.2.1 s.2.2.2.2) r := by
 unfold W6 at h
 apply bi h <;> intro h1 h
 ·
  apply bn h; intro x2 h2 h
  have q0 := ((igr Zv h2) : idxA 4 (.p (.lst 4 (Zb a7.kids))) (i6 v4) = some (.ro (cBx x2)))
  have k1 := ka [(27, .d true), (28, .v (.ro (cBx x2)))] (av h1 (apc q0 apn))
  apply bi h <;> intro h3 h
  ·
   apply bi h <;> intro h4 h
   ·
    apply bn h; intro x5 h5 h
    rw [← sj h]
    exact rn ([(37, .r (.sl 1 v1 7 0 (v2 + 1)) (Ru a1 a3 a4 a7 a9 a11 a12 a13 a14 a15 a16 a17 a18 a19 a20 a21 a22 a23 a24 a25 a26 a27 a28 a29 a30 a31 a32 a33 a34 a35 a36 a37 a38 a39 v1 v5 v2 x2 v3)), (44, .v (.ro [.val (.int .i64 x5)])), (6000, .d true)] ++ kH k1) (k1.b (apc ((Vy (e := Za) (xs := v5) (news := [(⟨x2.kind, x2.text, x2.n, x2.kids, a3, a4, v3⟩ : ThingD)]) rfl (ZQ (e := Za) (xs := [(⟨x2.kind, x2.text, x2.n, x2.kids, a3, a4, v3⟩ : ThingD)]) rfl) rfl h3 h4) : appA (Rv a1 a3 a4 a7 a9 a11 a12 a13 a14 a15 a16 a17 a18 a19 a20 a21 a22 a23 a24 a25 a26 a27 a28 a29 a30 a31 a32 a33 a34 a35 a36 a37 a38 a39 v1 v5 x2 v3) 77 7 80 (.sl 1 v1 7 0 v2) (.sl 22 0 7 0 1) = some ((.sl 1 v1 7 0 (v2 + 1)), Ru a1 a3 a4 a7 a9 a11 a12 a13 a14 a15 a16 a17 a18 a19 a20 a21 a22 a23 a24 a25 a26 a27 a28 a29 a30 a31 a32 a33 a34 a35 a36 a37 a38 a39 v1 v5 v2 x2 v3)) (apc (ig eI64 1 .i64 h5) (apc (U2 a1 a3 a4 a6 a7 a8 a9 a11 a12 a13 a14 a15 a16 a17 a18 a19 a20 a21 a22 a23 a24 a25 a26 a27 a28 a29 a30 a31 a32 a33 a34 a35 a36 a37 a38 a39 v1 (v2 + 1) (w6 (v3 + x5)) (w6 (v4 + 1)) (splice v5 v2 [(⟨x2.kind, x2.text, x2.n, x2.kids, a3, a4, v3⟩ : ThingD)])) apn))))
   ·
    apply bn h; intro x5 h5 h
    rw [← sj h]
    exact rn ([(37, .r (.sl 1 (v1 + 1) 7 0 (v2 + 1)) (Rw a1 a3 a4 a7 a9 a11 a12 a13 a14 a15 a16 a17 a18 a19 a20 a21 a22 a23 a24 a25 a26 a27 a28 a29 a30 a31 a32 a33 a34 a35 a36 a37 a38 a39 v1 v5 v2 x2 v3)), (44, .v (.ro [.val (.int .i64 x5)])), (6000, .d true)] ++ kH k1) (k1.b (apc ((Xe (e := Za) (xs := v5) (news := [(⟨x2.kind, x2.text, x2.n, x2.kids, a3, a4, v3⟩ : ThingD)]) rfl (ZQ (e := Za) (xs := [(⟨x2.kind, x2.text, x2.n, x2.kids, a3, a4, v3⟩ : ThingD)]) rfl) rfl h3 h4) : appA (Rv a1 a3 a4 a7 a9 a11 a12 a13 a14 a15 a16 a17 a18 a19 a20 a21 a22 a23 a24 a25 a26 a27 a28 a29 a30 a31 a32 a33 a34 a35 a36 a37 a38 a39 v1 v5 x2 v3) 77 7 80 (.sl 1 v1 7 0 v2) (.sl 22 0 7 0 1) = some ((.sl 1 (v1 + 1) 7 0 (v2 + 1)), Rw a1 a3 a4 a7 a9 a11 a12 a13 a14 a15 a16 a17 a18 a19 a20 a21 a22 a23 a24 a25 a26 a27 a28 a29 a30 a31 a32 a33 a34 a35 a36 a37 a38 a39 v1 v5 v2 x2 v3)) (apc (ig eI64 1 .i64 h5) (apc (U2 a1 a3 a4 a6 a7 a8 a9 a11 a12 a13 a14 a15 a16 a17 a18 a19 a20 a21 a22 a23 a24 a25 a26 a27 a28 a29 a30 a31 a32 a33 a34 a35 a36 a37 a38 a39 (v1 + 1) (v2 + 1) (w6 (v3 + x5)) (w6 (v4 + 1)) (v5.take v2 ++ [(⟨x2.kind, x2.text, x2.n, x2.kids, a3, a4, v3⟩ : ThingD)])) apn))))
  ·
   cases h
 ·
  rw [← sj h]
  exact xb [(27, .d false), (6000, .d true)] (av h1 apn)
theorem NF (s0 : Nat × Nat × Int × Int × Tqq) (e : E_L37_1_16) (h : runL (fun s => W6 a3 a4 a7 a8 a16 s.1 s.2.1 s.2.2.1 s.2.2.2.1 s.2.2.2.2) s0 = some e) : U3 a1 a6 a7 a9 a11 a12 a13 a14 a15 a16 a17 a18 a19 a20 a21 a22 a23 a24 a25 a26 a27 a28 a29 a30 a31 a32 a33 a34 a35 a36 a37 a38 a39 e (Y2 a1 a3 a4 a6 a7 a8 a9 a11 a12 a13 a14 a15 a16 a17 a18 a19 a20 a21 a22 a23 a24 a25 a26 a27 a28 a29 a30 a31 a32 a33 a34 a35 a36 a37 a38 a39 s0.1 s0.2.1 s0.2.2.1 s0.2.2.2.1 s0.2.2.2.2) := by
  have q := @Zg (Nat × Nat × Int × Int × Tqq) E_L37_1_16 (fun s => W6 a3 a4 a7 a8 a16 s.1 s.2.1 s.2.2.1 s.2.2.2.1 s.2.2.2.2) (fun s => Y2 a1 a3 a4 a6 a7 a8 a9 a11 a12 a13 a14 a15 a16 a17 a18 a19 a20 a21 a22 a23 a24 a25 a26 a27 a28 a29 a30 a31 a32 a33 a34 a35 a36 a37 a38 a39 s.1 s.2.1 s.2.2.1 s.2.2.2.1 s.2.2.2.2) (U3 a1 a6 a7 a9 a11 a12 a13 a14 a15 a16 a17 a18 a19 a20 a21 a22 a23 a24 a25 a26 a27 a28 a29 a30 a31 a32 a33 a34 a35 a36 a37 a38 a39) (fun s r h => MZ a1 a3 a4 a6 a7 a8 a9 a11 a12 a13 a14 a15 a16 a17 a18 a19 a20 a21 a22 a23 a24 a25 a26 a27 a28 a29 a30 a31 a32 a33 a34 a35 a36 a37 a38 a39 s.1 s.2.1 s.2.2.1 s.2.2.2.1 s.2.2.2.2 h) s0 e h
  exact q
end
inductive E_L37_0_16 where
  | k0 (x0 : Tqq)
section
variable (a1 a2 : Nat) (a5 : BoxD) (a7 : Bool) (a8 a9 a10 a11 : Nat) (a12 : Oqq) (a13 : Iqq) (a14 a15 : Int) (a16 : Bool) (a17 : Iqq) (a18 : Nat) (a19 : Bqq) (a20 a21 a22 : ThingD) (a23 : Nat) (a24 : Tqq) (a25 : Nat) (a26 : Tqq) (a27 : Nat) (a28 : Tqq) (a29 : Nat) (a30 : Int) (a31 : Nat) (a32 : Bqq) (a33 : ThingD) (a34 : Nat) (a35 : Bqq) (a36 a37 : ThingD)
def W7 (v1 v2 : Int) (v3 : Tqq) : Option (E_L37_0_16 ⊕ (Int × Int × Tqq)) :=
  (bif (decide (v1 < v2)) then ((ixN a2 v2).bind fun x2 => ((v3[x2]?).bind fun x3 => ((ixN a2 v1).bind fun x4 => ((v3[x4]?).bind fun x5 => (((v3.set x4 (⟨x3.kind, x3.text, x3.n, x3.kids, x3.depth, x3.way, x3.at_⟩ : ThingD))[x2]?).bind fun x6 => (some (.inr ((IntKind.wrap .i64 (v1 + 1)), (IntKind.wrap .i64 (v2 - 1)), ((v3.set x4 (⟨x3.kind, x3.text, x3.n, x3.kids, x3.depth, x3.way, x3.at_⟩ : ThingD)).set x2 (⟨x5.kind, x5.text, x5.n, x5.kids, x5.depth, x5.way, x5.at_⟩ : ThingD)))))))))) else (some (.inl (.k0 v3))))
def QV (v1 v2 : Int) (v3 : Tqq) : St := ⟨fr 74 ug [(1, .sl 1 a1 7 0 a2), (15, i6 v1), (16, i6 v2)], [.cells 28 ((cBx a5).map .p), yT a1 v3, .cells 83 [sp a7 2 0, .sl 3 a8 1 0 a9, .sl 1 a10 7 0 a11, ls 1 Zc a12, ls 1 eI64 a13, i6 a14, i6 a15, vb a16], yU a8 a17, .row 28 4 a18 (ra cBx a19), .cells 77 ((Za a20).map .p), .cells 73 [.ptr 2 0], .cells 77 ((Za a21).map .p), .cells 77 ((Za a22).map .p), yT a23 a24, yT a25 a26, yT a27 a28, .cells 78 [.sl 10 a25 7 0 a29], .cells 3 [i6 a30], .row 28 4 a31 (ra cBx a32), .cells 77 ((Za a33).map .p), .row 28 4 a34 (ra cBx a35), .cells 77 ((Za a36).map .p), .cells 77 ((Za a37).map .p), yT0]⟩
theorem QW (v1 v2 : Int) (v3 : Tqq) : okT 20 (QV a1 a2 a5 a7 a8 a9 a10 a11 a12 a13 a14 a15 a16 a17 a18 a19 a20 a21 a22 a23 a24 a25 a26 a27 a28 a29 a30 a31 a32 a33 a34 a35 a36 a37 v1 v2 v3).h = true := (ZB rfl (ac (ar (Zt (Z5 rfl (Ze rfl (Ze rfl (Ze rfl (Ze rfl (Ze rfl (Ze rfl (Ze rfl rfl)))))))) (ar (ar (ac (ac (ac (ac (ar (ar (ar (ac (ac (ar (ac (ar (ac (ac (ar rfl)))))))))))))))))))))
abbrev Y3 (v1 v2 : Int) (v3 : Tqq) := evH prg 20 [1, 15, 16] XC (QV a1 a2 a5 a7 a8 a9 a10 a11 a12 a13 a14 a15 a16 a17 a18 a19 a20 a21 a22 a23 a24 a25 a26 a27 a28 a29 a30 a31 a32 a33 a34 a35 a36 a37 v1 v2 v3)
def U4 (e : E_L37_0_16) (r : Option (Out × St)) : Prop := match e with | .k0 x0 => ∃ g, r = some ((.brk 2), ⟨fr 74 g [(1, .sl 1 a1 7 0 a2)], [.cells 28 ((cBx a5).map .p), yT a1 x0, .cells 83 [sp a7 2 0, .sl 3 a8 1 0 a9, .sl 1 a10 7 0 a11, ls 1 Zc a12, ls 1 eI64 a13, i6 a14, i6 a15, vb a16], yU a8 a17, .row 28 4 a18 (ra cBx a19), .cells 77 ((Za a20).map .p), .cells 73 [.ptr 2 0], .cells 77 ((Za a21).map .p), .cells 77 ((Za a22).map .p), yT a23 a24, yT a25 a26, yT a27 a28, .cells 78 [.sl 10 a25 7 0 a29], .cells 3 [i6 a30], .row 28 4 a31 (ra cBx a32), .cells 77 ((Za a33).map .p), .row 28 4 a34 (ra cBx a35), .cells 77 ((Za a36).map .p), .cells 77 ((Za a37).map .p), yT0]⟩)
abbrev VQ (v3 : Tqq) (x4 : Nat) (x3 : ThingD) : List AB := [.cells 28 ((cBx a5).map .p), yT a1 (v3.set x4 (⟨x3.kind, x3.text, x3.n, x3.kids, x3.depth, x3.way, x3.at_⟩ : ThingD)), .cells 83 [sp a7 2 0, .sl 3 a8 1 0 a9, .sl 1 a10 7 0 a11, ls 1 Zc a12, ls 1 eI64 a13, i6 a14, i6 a15, vb a16], yU a8 a17, .row 28 4 a18 (ra cBx a19), .cells 77 ((Za a20).map .p), .cells 73 [.ptr 2 0], .cells 77 ((Za a21).map .p), .cells 77 ((Za a22).map .p), yT a23 a24, yT a25 a26, yT a27 a28, .cells 78 [.sl 10 a25 7 0 a29], .cells 3 [i6 a30], .row 28 4 a31 (ra cBx a32), .cells 77 ((Za a33).map .p), .row 28 4 a34 (ra cBx a35), .cells 77 ((Za a36).map .p), .cells 77 ((Za a37).map .p), yT0]
abbrev Rx (v3 : Tqq) (x4 : Nat) (x3 : ThingD) (x2 : Nat) (x5 : ThingD) : List AB := [.cells 28 ((cBx a5).map .p), yT a1 ((v3.set x4 (⟨x3.kind, x3.text, x3.n, x3.kids, x3.depth, x3.way, x3.at_⟩ : ThingD)).set x2 (⟨x5.kind, x5.text, x5.n, x5.kids, x5.depth, x5.way, x5.at_⟩ : ThingD)), .cells 83 [sp a7 2 0, .sl 3 a8 1 0 a9, .sl 1 a10 7 0 a11, ls 1 Zc a12, ls 1 eI64 a13, i6 a14, i6 a15, vb a16], yU a8 a17, .row 28 4 a18 (ra cBx a19), .cells 77 ((Za a20).map .p), .cells 73 [.ptr 2 0], .cells 77 ((Za a21).map .p), .cells 77 ((Za a22).map .p), yT a23 a24, yT a25 a26, yT a27 a28, .cells 78 [.sl 10 a25 7 0 a29], .cells 3 [i6 a30], .row 28 4 a31 (ra cBx a32), .cells 77 ((Za a33).map .p), .row 28 4 a34 (ra cBx a35), .cells 77 ((Za a36).map .p), .cells 77 ((Za a37).map .p), yT0]
abbrev VS (v3 : Tqq) : List AB := [.cells 28 ((cBx a5).map .p), yT a1 v3, .cells 83 [sp a7 2 0, .sl 3 a8 1 0 a9, .sl 1 a10 7 0 a11, ls 1 Zc a12, ls 1 eI64 a13, i6 a14, i6 a15, vb a16], yU a8 a17, .row 28 4 a18 (ra cBx a19), .cells 77 ((Za a20).map .p), .cells 73 [.ptr 2 0], .cells 77 ((Za a21).map .p), .cells 77 ((Za a22).map .p), yT a23 a24, yT a25 a26, yT a27 a28, .cells 78 [.sl 10 a25 7 0 a29], .cells 3 [i6 a30], .row 28 4 a31 (ra cBx a32), .cells 77 ((Za a33).map .p), .row 28 4 a34 (ra cBx a35), .cells 77 ((Za a36).map .p), .cells 77 ((Za a37).map .p), yT0]
theorem M0 (v1 v2 : Int) (v3 : Tqq) {r : E_L37_0_16 ⊕ (Int × Int × Tqq)} (h : W7 a2 v1 v2 v3 = some r) : OkR (fun e => U4 a1 a2 a5 a7 a8 a9 a10 a11 a12 a13 a14 a15 a16 a17 a18 a19 a20 a21 a22 a23 a24 a25 a26 a27 a28 a29 a30 a31 a32 a33 a34 a35 a36 a37 e (Y3 a1 a2 a5 a7 a8 a9 a10 a11 a12 a13 a14 a15 a16 a17 a18 a19 a20 a21 a22 a23 a24 a25 a26 a27 a28 a29 a30 a31 a32 a33 a34 a35 a36 a37 v1 v2 v3)) (fun s => Y3 a1 a2 a5 a7 a8 a9 a10 a11 a12 a13 a14 a15 a16 a17 a18 a19 a20 a21 a22 a23 a24 a25 a26 a27 a28 a29 a30 a31 a32 a33 a34 a35 a36 a37 v1 v2 v3 = Y3 a1 a2 a5 a7 a8 a9 a10 a11 a12 a13 a14 a15 a16 a17 a18 a19 a20 a21 a22 a23 a24 a25 a26 a27 a28 a29 a30 a31 a32 a33 a34 a35 a36 a37 s.1 s.2.1 s.2.2) r := by
 unfold W7 at h
 apply bi h <;> intro h1 h
 ·
  apply bn h; intro x2 h2 h
  have q0 := ((ZO h2) : idxA 7 (.sl 1 a1 7 0 a2) (i6 v2) = some (.rp 1 a1 7 x2 0))
  apply bn h; intro x3 h3 h
  apply bn h; intro x4 h4 h
  have q1 := ((ZO h4) : idxA 7 (.sl 1 a1 7 0 a2) (i6 v1) = some (.rp 1 a1 7 x4 0))
  apply bn h; intro x5 h5 h
  apply bn h; intro x6 h6 h
  rw [← sj h]
  exact rn [(54, .d true), (65, .v (.rp 1 a1 7 x2 0)), (66, .v (.agg ((Za x3).map .p))), (69, .v (.rp 1 a1 7 x4 0)), (70, .v (.agg ((Za x5).map .p))), (71, .v (.rp 1 a1 7 x4 0)), (1071, .r ud (VQ a1 a5 a7 a8 a9 a10 a11 a12 a13 a14 a15 a16 a17 a18 a19 a20 a21 a22 a23 a24 a25 a26 a27 a28 a29 a30 a31 a32 a33 a34 a35 a36 a37 v3 x4 x3)), (72, .v (.rp 1 a1 7 x2 0)), (1072, .r ud (Rx a1 a5 a7 a8 a9 a10 a11 a12 a13 a14 a15 a16 a17 a18 a19 a20 a21 a22 a23 a24 a25 a26 a27 a28 a29 a30 a31 a32 a33 a34 a35 a36 a37 v3 x4 x3 x2 x5)), (6000, .d true)] (av h1 (apc q0 (apc ((Z4 rfl h3 rfl) : ldA (VS a1 a5 a7 a8 a9 a10 a11 a12 a13 a14 a15 a16 a17 a18 a19 a20 a21 a22 a23 a24 a25 a26 a27 a28 a29 a30 a31 a32 a33 a34 a35 a36 a37 v3) .true 7 (.rp 1 a1 7 x2 0) = some (.agg ((Za x3).map .p))) (apc q1 (apc ((Z4 rfl h5 rfl) : ldA (VS a1 a5 a7 a8 a9 a10 a11 a12 a13 a14 a15 a16 a17 a18 a19 a20 a21 a22 a23 a24 a25 a26 a27 a28 a29 a30 a31 a32 a33 a34 a35 a36 a37 v3) .true 7 (.rp 1 a1 7 x4 0) = some (.agg ((Za x5).map .p))) (apc q1 (apc (⟨ZX (v' := (⟨x3.kind, x3.text, x3.n, x3.kids, x3.depth, x3.way, x3.at_⟩ : ThingD)) rfl h5 rfl rfl (Nat.le_of_ble_eq_true rfl) rfl, rfl⟩ : stA (VS a1 a5 a7 a8 a9 a10 a11 a12 a13 a14 a15 a16 a17 a18 a19 a20 a21 a22 a23 a24 a25 a26 a27 a28 a29 a30 a31 a32 a33 a34 a35 a36 a37 v3) 7 (.rp 1 a1 7 x4 0) (.agg ((Za x3).map .p)) = some (VQ a1 a5 a7 a8 a9 a10 a11 a12 a13 a14 a15 a16 a17 a18 a19 a20 a21 a22 a23 a24 a25 a26 a27 a28 a29 a30 a31 a32 a33 a34 a35 a36 a37 v3 x4 x3) ∧ ud = ud) (apc q0 (apc (⟨ZX (v' := (⟨x5.kind, x5.text, x5.n, x5.kids, x5.depth, x5.way, x5.at_⟩ : ThingD)) rfl h6 rfl rfl (Nat.le_of_ble_eq_true rfl) rfl, rfl⟩ : stA (VQ a1 a5 a7 a8 a9 a10 a11 a12 a13 a14 a15 a16 a17 a18 a19 a20 a21 a22 a23 a24 a25 a26 a27 a28 a29 a30 a31 a32 a33 a34 a35 a36 a37 v3 x4 x3) 7 (.rp 1 a1 7 x2 0) (.agg ((Za x5).map .p)) = some (Rx a1 a5 a7 a8 a9 a10 a11 a12 a13 a14 a15 a16 a17 a18 a19 a20 a21 a22 a23 a24 a25 a26 a27 a28 a29 a30 a31 a32 a33 a34 a35 a36 a37 v3 x4 x3 x2 x5) ∧ ud = ud) (apc (QW a1 a2 a5 a7 a8 a9 a10 a11 a12 a13 a14 a15 a16 a17 a18 a19 a20 a21 a22 a23 a24 a25 a26 a27 a28 a29 a30 a31 a32 a33 a34 a35 a36 a37 (w6 (v1 + 1)) (w6 (v2 - 1)) ((v3.set x4 (⟨x3.kind, x3.text, x3.n, x3.kids, x3.depth, x3.way, x3.at_⟩ : ThingD)).set x2 (⟨x5.kind, x5.text, x5.n, x5.kids, x5.depth, x5.way, x5.at_⟩ : ThingD))) apn))))))))))
 ·
  rw [← sj h]
  exact xb [(54, .d false), (6000, .d true)] (av h1 apn)
theorem NG (s0 : Int × Int × Tqq) (e : E_L37_0_16) (h : runL (fun s => W7 a2 s.1 s.2.1 s.2.2) s0 = some e) : U4 a1 a2 a5 a7 a8 a9 a10 a11 a12 a13 a14 a15 a16 a17 a18 a19 a20 a21 a22 a23 a24 a25 a26 a27 a28 a29 a30 a31 a32 a33 a34 a35 a36 a37 e (Y3 a1 a2 a5 a7 a8 a9 a10 a11 a12 a13 a14 a15 a16 a17 a18 a19 a20 a21 a22 a23 a24 a25 a26 a27 a28 a29 a30 a31 a32 a33 a34 a35 a36 a37 s0.1 s0.2.1 s0.2.2) := by
  have q := @Zg (Int × Int × Tqq) E_L37_0_16 (fun s => W7 a2 s.1 s.2.1 s.2.2) (fun s => Y3 a1 a2 a5 a7 a8 a9 a10 a11 a12 a13 a14 a15 a16 a17 a18 a19 a20 a21 a22 a23 a24 a25 a26 a27 a28 a29 a30 a31 a32 a33 a34 a35 a36 a37 s.1 s.2.1 s.2.2) (U4 a1 a2 a5 a7 a8 a9 a10 a11 a12 a13 a14 a15 a16 a17 a18 a19 a20 a21 a22 a23 a24 a25 a26 a27 a28 a29 a30 a31 a32 a33 a34 a35 a36 a37) (fun s r h => M0 a1 a2 a5 a7 a8 a9 a10 a11 a12 a13 a14 a15 a16 a17 a18 a19 a20 a21 a22 a23 a24 a25 a26 a27 a28 a29 a30 a31 a32 a33 a34 a35 a36 a37 s.1 s.2.1 s.2.2 h) s0 e h
  exact q
end
inductive R_F37_16 where
  | k0 (x0 x1 : Nat) (x2 : Tqq)
def Fq (a1 a2 : Nat) (a3 : ThingD) (a4 a5 : Int) (a6 : BoxD) (a7 : Tqq) (a8 : Bool) (a9 a10 a11 : Nat) (a12 : Oqq) (a13 : Iqq) (a14 a15 : Int) (a16 : Bool) (a17 : Iqq) (a18 : Nat) (a19 : Bqq) (a20 a21 a22 : ThingD) (a23 : Nat) (a24 : Tqq) (a25 : Nat) (a26 : Tqq) (a27 : Nat) (a28 : Tqq) (a29 : Nat) (a30 : Int) (a31 : Nat) (a32 : Bqq) (a33 : ThingD) (a34 : Nat) (a35 : Bqq) (a36 : ThingD) (r : R_F37_16) : AV := match r with | .k0 x0 x1 x2 => (.sl 1 x0 7 0 x1)
def Fr (a1 a2 : Nat) (a3 : ThingD) (a4 a5 : Int) (a6 : BoxD) (a7 : Tqq) (a8 : Bool) (a9 a10 a11 : Nat) (a12 : Oqq) (a13 : Iqq) (a14 a15 : Int) (a16 : Bool) (a17 : Iqq) (a18 : Nat) (a19 : Bqq) (a20 a21 a22 : ThingD) (a23 : Nat) (a24 : Tqq) (a25 : Nat) (a26 : Tqq) (a27 : Nat) (a28 : Tqq) (a29 : Nat) (a30 : Int) (a31 : Nat) (a32 : Bqq) (a33 : ThingD) (a34 : Nat) (a35 : Bqq) (a36 : ThingD) (r : R_F37_16) : List AB := match r with | .k0 x0 x1 x2 => [.cells 28 ((cBx a6).map .p), yT x0 x2, .cells 83 [sp a8 2 0, .sl 3 a9 1 0 a10, .sl 1 a1 7 0 a11, ls 1 Zc a12, ls 1 eI64 a13, i6 a14, i6 a15, vb a16], yU a9 a17, .row 28 4 a18 (ra cBx a19), .cells 77 ((Za a20).map .p), .cells 73 [.ptr 2 0], .cells 77 ((Za a21).map .p), .cells 77 ((Za a22).map .p), yT a23 a24, yT a25 a26, yT a27 a28, .cells 78 [.sl 10 a25 7 0 a29], .cells 3 [i6 a30], .row 28 4 a31 (ra cBx a32), .cells 77 ((Za a33).map .p), .row 28 4 a34 (ra cBx a35), .cells 77 ((Za a36).map .p), .cells 77 ((Za a3).map .p), yT0]
def QX (a1 a2 : Nat) (a3 : ThingD) (a4 a5 : Int) (a7 : Tqq) (a13 : Iqq) : Option R_F37_16 :=
  ((runL (fun s => W6 a4 a5 a3 (a3.kids.length : Int) a13 s.1 s.2.1 s.2.2.1 s.2.2.2.1 s.2.2.2.2) (a1, a2, (IntKind.wrap .i64 (a3.at_ + 1)), 0, a7)).bind fun r1 => match r1 with | .k0 x1_0 x1_1 x1_2 => ((runL (fun s => W7 x1_1 s.1 s.2.1 s.2.2) (((a2 : Nat) : Int), (IntKind.wrap .i64 (((x1_1 : Nat) : Int) - 1)), x1_2)).bind fun r2 => match r2 with | .k0 x2_0 => (some (.k0 x1_0 x1_1 x2_0))))
abbrev NH (g1 : Nat → AV) (x1_0 x1_1 a2 : Nat) (a3 : ThingD) (a6 : BoxD) (x1_2 : Tqq) (a8 : Bool) (a9 a10 a1 a11 : Nat) (a12 : Oqq) (a13 : Iqq) (a14 a15 : Int) (a16 : Bool) (a17 : Iqq) (a18 : Nat) (a19 : Bqq) (a20 a21 a22 : ThingD) (a23 : Nat) (a24 : Tqq) (a25 : Nat) (a26 : Tqq) (a27 : Nat) (a28 : Tqq) (a29 : Nat) (a30 : Int) (a31 : Nat) (a32 : Bqq) (a33 : ThingD) (a34 : Nat) (a35 : Bqq) (a36 : ThingD) : St := ⟨fr 74 g1 [(1, .sl 1 x1_0 7 0 x1_1), (12, (i6 ((a2 : Nat) : Int))), (24, (.p (.lst 4 (Zb a3.kids))))], [.cells 28 ((cBx a6).map .p), yT x1_0 x1_2, .cells 83 [sp a8 2 0, .sl 3 a9 1 0 a10, .sl 1 a1 7 0 a11, ls 1 Zc a12, ls 1 eI64 a13, i6 a14, i6 a15, vb a16], yU a9 a17, .row 28 4 a18 (ra cBx a19), .cells 77 ((Za a20).map .p), .cells 73 [.ptr 2 0], .cells 77 ((Za a21).map .p), .cells 77 ((Za a22).map .p), yT a23 a24, yT a25 a26, yT a27 a28, .cells 78 [.sl 10 a25 7 0 a29], .cells 3 [i6 a30], .row 28 4 a31 (ra cBx a32), .cells 77 ((Za a33).map .p), .row 28 4 a34 (ra cBx a35), .cells 77 ((Za a36).map .p), .cells 77 ((Za a3).map .p), yT0]⟩
abbrev NI (g2 : Nat → AV) (x1_0 x1_1 : Nat) (a6 : BoxD) (x2_0 : Tqq) (a8 : Bool) (a9 a10 a1 a11 : Nat) (a12 : Oqq) (a13 : Iqq) (a14 a15 : Int) (a16 : Bool) (a17 : Iqq) (a18 : Nat) (a19 : Bqq) (a20 a21 a22 : ThingD) (a23 : Nat) (a24 : Tqq) (a25 : Nat) (a26 : Tqq) (a27 : Nat) (a28 : Tqq) (a29 : Nat) (a30 : Int) (a31 : Nat) (a32 : Bqq) (a33 : ThingD) (a34 : Nat) (a35 : Bqq) (a36 a3 : ThingD) : St := ⟨fr 74 g2 [(1, .sl 1 x1_0 7 0 x1_1)], [.cells 28 ((cBx a6).map .p), yT x1_0 x2_0, .cells 83 [sp a8 2 0, .sl 3 a9 1 0 a10, .sl 1 a1 7 0 a11, ls 1 Zc a12, ls 1 eI64 a13, i6 a14, i6 a15, vb a16], yU a9 a17, .row 28 4 a18 (ra cBx a19), .cells 77 ((Za a20).map .p), .cells 73 [.ptr 2 0], .cells 77 ((Za a21).map .p), .cells 77 ((Za a22).map .p), yT a23 a24, yT a25 a26, yT a27 a28, .cells 78 [.sl 10 a25 7 0 a29], .cells 3 [i6 a30], .row 28 4 a31 (ra cBx a32), .cells 77 ((Za a33).map .p), .row 28 4 a34 (ra cBx a35), .cells 77 ((Za a36).map .p), .cells 77 ((Za a3).map .p), yT0]⟩
theorem NJ (a1 a2 : Nat) (a3 : ThingD) (a4 a5 : Int) (a6 : BoxD) (a7 : Tqq) (a8 : Bool) (a9 a10 a11 : Nat) (a12 : Oqq) (a13 : Iqq) (a14 a15 : Int) (a16 : Bool) (a17 : Iqq) (a18 : Nat) (a19 : Bqq) (a20 a21 a22 : ThingD) (a23 : Nat) (a24 : Tqq) (a25 : Nat) (a26 : Tqq) (a27 : Nat) (a28 : Tqq) (a29 : Nat) (a30 : Int) (a31 : Nat) (a32 : Bqq) (a33 : ThingD) (a34 : Nat) (a35 : Bqq) (a36 : ThingD) {r : R_F37_16} (h : QX a1 a2 a3 a4 a5 a7 a13 = some r) : CS prg 55 [.ptr 2 0, .sl 1 a1 7 0 a2, (.agg ((Za a3).map .p)), i6 a4, i6 a5] [.cells 28 ((cBx a6).map .p), yT a1 a7, .cells 83 [sp a8 2 0, .sl 3 a9 1 0 a10, .sl 1 a1 7 0 a11, ls 1 Zc a12, ls 1 eI64 a13, i6 a14, i6 a15, vb a16], yU a9 a17, .row 28 4 a18 (ra cBx a19), .cells 77 ((Za a20).map .p), .cells 73 [.ptr 2 0], .cells 77 ((Za a21).map .p), .cells 77 ((Za a22).map .p), yT a23 a24, yT a25 a26, yT a27 a28, .cells 78 [.sl 10 a25 7 0 a29], .cells 3 [i6 a30], .row 28 4 a31 (ra cBx a32), .cells 77 ((Za a33).map .p), .row 28 4 a34 (ra cBx a35), .cells 77 ((Za a36).map .p)] = some (Fq a1 a2 a3 a4 a5 a6 a7 a8 a9 a10 a11 a12 a13 a14 a15 a16 a17 a18 a19 a20 a21 a22 a23 a24 a25 a26 a27 a28 a29 a30 a31 a32 a33 a34 a35 a36 r, Fr a1 a2 a3 a4 a5 a6 a7 a8 a9 a10 a11 a12 a13 a14 a15 a16 a17 a18 a19 a20 a21 a22 a23 a24 a25 a26 a27 a28 a29 a30 a31 a32 a33 a34 a35 a36 r) := by
 unfold QX at h
 apply bn h; intro r1 h1 h
 cases r1 with
 | k0 x1_0 x1_1 x1_2 =>
  obtain ⟨g1, e1⟩ := NF a1 a4 a5 ((a2 : Nat) : Int) a3 (a3.kids.length : Int) a6 a8 a9 a10 a11 a12 a13 a14 a15 a16 a17 a18 a19 a20 a21 a22 a23 a24 a25 a26 a27 a28 a29 a30 a31 a32 a33 a34 a35 a36 (a1, a2, (w6 (a3.at_ + 1)), 0, a7) _ h1
  apply bn h; intro r2 h2 h
  cases r2 with
  | k0 x2_0 =>
   obtain ⟨g2, e2⟩ := NG x1_0 x1_1 a6 a8 a9 a10 a1 a11 a12 a13 a14 a15 a16 a17 a18 a19 a20 a21 a22 a23 a24 a25 a26 a27 a28 a29 a30 a31 a32 a33 a34 a35 a36 a3 (((a2 : Nat) : Int), (w6 (((x1_1 : Nat) : Int) - 1)), x1_2) _ h2
   rw [← sj h]
   exact fc [(25, .v (i6 (a3.kids.length : Int))), (2000, .l (.brk 0) (NH g1 x1_0 x1_1 a2 a3 a6 x1_2 a8 a9 a10 a1 a11 a12 a13 a14 a15 a16 a17 a18 a19 a20 a21 a22 a23 a24 a25 a26 a27 a28 a29 a30 a31 a32 a33 a34 a35 a36)), (2002, .l (.brk 2) (NI g2 x1_0 x1_1 a6 x2_0 a8 a9 a10 a1 a11 a12 a13 a14 a15 a16 a17 a18 a19 a20 a21 a22 a23 a24 a25 a26 a27 a28 a29 a30 a31 a32 a33 a34 a35 a36 a3)), (6000, .d true)] (apc ((lgr Zv) : lnA (.p (.lst 4 (Zb a3.kids))) = some (i6 (a3.kids.length : Int))) (apc (U2 a1 a4 a5 ((a2 : Nat) : Int) a3 (a3.kids.length : Int) a6 a8 a9 a10 a11 a12 a13 a14 a15 a16 a17 a18 a19 a20 a21 a22 a23 a24 a25 a26 a27 a28 a29 a30 a31 a32 a33 a34 a35 a36 a1 a2 (w6 (a3.at_ + 1)) 0 a7) (apc (e1 : Y2 a1 a4 a5 ((a2 : Nat) : Int) a3 (a3.kids.length : Int) a6 a8 a9 a10 a11 a12 a13 a14 a15 a16 a17 a18 a19 a20 a21 a22 a23 a24 a25 a26 a27 a28 a29 a30 a31 a32 a33 a34 a35 a36 a1 a2 (w6 (a3.at_ + 1)) 0 a7 = some ((.brk 0), NH g1 x1_0 x1_1 a2 a3 a6 x1_2 a8 a9 a10 a1 a11 a12 a13 a14 a15 a16 a17 a18 a19 a20 a21 a22 a23 a24 a25 a26 a27 a28 a29 a30 a31 a32 a33 a34 a35 a36)) (apc (QW x1_0 x1_1 a6 a8 a9 a10 a1 a11 a12 a13 a14 a15 a16 a17 a18 a19 a20 a21 a22 a23 a24 a25 a26 a27 a28 a29 a30 a31 a32 a33 a34 a35 a36 a3 ((a2 : Nat) : Int) (w6 (((x1_1 : Nat) : Int) - 1)) x1_2) (apc (e2 : Y3 x1_0 x1_1 a6 a8 a9 a10 a1 a11 a12 a13 a14 a15 a16 a17 a18 a19 a20 a21 a22 a23 a24 a25 a26 a27 a28 a29 a30 a31 a32 a33 a34 a35 a36 a3 ((a2 : Nat) : Int) (w6 (((x1_1 : Nat) : Int) - 1)) x1_2 = some ((.brk 2), NI g2 x1_0 x1_1 a6 x2_0 a8 a9 a10 a1 a11 a12 a13 a14 a15 a16 a17 a18 a19 a20 a21 a22 a23 a24 a25 a26 a27 a28 a29 a30 a31 a32 a33 a34 a35 a36 a3)) apn)))))
inductive E_L37_1_17 where
  | k0 (x0 x1 : Nat) (x2 : Tqq)
section
variable (a1 : Nat) (a3 a4 a6 : Int) (a7 : ThingD) (a8 : Int) (a9 : BoxD) (a11 : Bool) (a12 a13 a14 : Nat) (a15 : Oqq) (a16 : Iqq) (a17 a18 : Int) (a19 : Bool) (a20 : Iqq) (a21 : Nat) (a22 : Bqq) (a23 a24 a25 : ThingD) (a26 : Nat) (a27 : Tqq) (a28 : Nat) (a29 : Tqq) (a30 : Nat) (a31 : Tqq) (a32 : Nat) (a33 : Int)
def W8 (v1 v2 : Nat) (v3 v4 : Int) (v5 : Tqq) : Option (E_L37_1_17 ⊕ (Nat × Nat × Int × Int × Tqq)) :=
  (bif (decide (v4 < a8)) then ((getI a7.kids v4).bind fun x2 => (bif (apOk v2 1 v5.length 80) then (bif (decide (v2 + 1 ≤ v5.length)) then ((getI a16 v3).bind fun x5 => (some (.inr (v1, v2 + 1, (IntKind.wrap .i64 (v3 + x5)), (IntKind.wrap .i64 (v4 + 1)), (splice v5 v2 [(⟨x2.kind, x2.text, x2.n, x2.kids, a3, a4, v3⟩ : ThingD)]))))) else ((getI a16 v3).bind fun x5 => (some (.inr ((v1 + 1), v2 + 1, (IntKind.wrap .i64 (v3 + x5)), (IntKind.wrap .i64 (v4 + 1)), (v5.take v2 ++ [(⟨x2.kind, x2.text, x2.n, x2.kids, a3, a4, v3⟩ : ThingD)])))))) else none)) else (some (.inl (.k0 v1 v2 v5))))
def QY (v1 v2 : Nat) (v3 v4 : Int) (v5 : Tqq) : St := ⟨fr 74 ug [(0, .ptr 2 0), (1, .sl 1 v1 7 0 v2), (3, i6 a3), (4, i6 a4), (11, i6 v3), (12, i6 a6), (24, (.p (.lst 4 (Zb a7.kids)))), (25, i6 a8), (26, i6 v4)], [.cells 28 ((cBx a9).map .p), yT v1 v5, .cells 83 [sp a11 2 0, .sl 3 a12 1 0 a13, .sl 1 a1 7 0 a14, ls 1 Zc a15, ls 1 eI64 a16, i6 a17, i6 a18, vb a19], yU a12 a20, .row 28 4 a21 (ra cBx a22), .cells 77 ((Za a23).map .p), .cells 73 [.ptr 2 0], .cells 77 ((Za a24).map .p), .cells 77 ((Za a25).map .p), yT a26 a27, yT a28 a29, yT a30 a31, .cells 78 [.sl 10 a28 7 0 a32], .cells 3 [i6 a33], .cells 77 ((Za a7).map .p), yT0]⟩
theorem U5 (v1 v2 : Nat) (v3 v4 : Int) (v5 : Tqq) : okT 16 (QY a1 a3 a4 a6 a7 a8 a9 a11 a12 a13 a14 a15 a16 a17 a18 a19 a20 a21 a22 a23 a24 a25 a26 a27 a28 a29 a30 a31 a32 a33 v1 v2 v3 v4 v5).h = true := (ZB rfl (ac (ar (Zt (Z5 rfl (Ze rfl (Ze rfl (Ze rfl (Ze rfl (Ze rfl (Ze rfl (Ze rfl rfl)))))))) (ar (ar (ac (ac (ac (ac (ar (ar (ar (ac (ac (ac (ar rfl)))))))))))))))))
abbrev Y4 (v1 v2 : Nat) (v3 v4 : Int) (v5 : Tqq) := evH prg 16 [0, 1, 3, 4, 11, 12, 24, 25, 26, 1000199007707] XD (QY a1 a3 a4 a6 a7 a8 a9 a11 a12 a13 a14 a15 a16 a17 a18 a19 a20 a21 a22 a23 a24 a25 a26 a27 a28 a29 a30 a31 a32 a33 v1 v2 v3 v4 v5)
def U6 (e : E_L37_1_17) (r : Option (Out × St)) : Prop := match e with | .k0 x0 x1 x2 => ∃ g, r = some ((.brk 0), ⟨fr 74 g [(1, .sl 1 x0 7 0 x1), (12, i6 a6), (24, (.p (.lst 4 (Zb a7.kids))))], [.cells 28 ((cBx a9).map .p), yT x0 x2, .cells 83 [sp a11 2 0, .sl 3 a12 1 0 a13, .sl 1 a1 7 0 a14, ls 1 Zc a15, ls 1 eI64 a16, i6 a17, i6 a18, vb a19], yU a12 a20, .row 28 4 a21 (ra cBx a22), .cells 77 ((Za a23).map .p), .cells 73 [.ptr 2 0], .cells 77 ((Za a24).map .p), .cells 77 ((Za a25).map .p), yT a26 a27, yT a28 a29, yT a30 a31, .cells 78 [.sl 10 a28 7 0 a32], .cells 3 [i6 a33], .cells 77 ((Za a7).map .p), yT0]⟩)
abbrev Ry (v1 : Nat) (v5 : Tqq) (v2 : Nat) (x2 : BoxD) (v3 : Int) : List AB := [.cells 28 ((cBx a9).map .p), yT v1 (splice v5 v2 [(⟨x2.kind, x2.text, x2.n, x2.kids, a3, a4, v3⟩ : ThingD)]), .cells 83 [sp a11 2 0, .sl 3 a12 1 0 a13, .sl 1 a1 7 0 a14, ls 1 Zc a15, ls 1 eI64 a16, i6 a17, i6 a18, vb a19], yU a12 a20, .row 28 4 a21 (ra cBx a22), .cells 77 ((Za a23).map .p), .cells 73 [.ptr 2 0], .cells 77 ((Za a24).map .p), .cells 77 ((Za a25).map .p), yT a26 a27, yT a28 a29, yT a30 a31, .cells 78 [.sl 10 a28 7 0 a32], .cells 3 [i6 a33], .cells 77 ((Za a7).map .p), yT0, .row 28 4 0 (ra cBx []), .cells 28 ((cBx x2).map .p), .row 77 7 0 [[i6 x2.kind, vs x2.text, i6 x2.n, (.p (.lst 4 (Zb x2.kids))), i6 a3, i6 a4, i6 v3]]]
abbrev Rz (v1 : Nat) (v5 : Tqq) (x2 : BoxD) (v3 : Int) : List AB := [.cells 28 ((cBx a9).map .p), yT v1 v5, .cells 83 [sp a11 2 0, .sl 3 a12 1 0 a13, .sl 1 a1 7 0 a14, ls 1 Zc a15, ls 1 eI64 a16, i6 a17, i6 a18, vb a19], yU a12 a20, .row 28 4 a21 (ra cBx a22), .cells 77 ((Za a23).map .p), .cells 73 [.ptr 2 0], .cells 77 ((Za a24).map .p), .cells 77 ((Za a25).map .p), yT a26 a27, yT a28 a29, yT a30 a31, .cells 78 [.sl 10 a28 7 0 a32], .cells 3 [i6 a33], .cells 77 ((Za a7).map .p), yT0, .row 28 4 0 (ra cBx []), .cells 28 ((cBx x2).map .p), .row 77 7 0 [[i6 x2.kind, vs x2.text, i6 x2.n, (.p (.lst 4 (Zb x2.kids))), i6 a3, i6 a4, i6 v3]]]
abbrev RA (v1 : Nat) (v5 : Tqq) (v2 : Nat) (x2 : BoxD) (v3 : Int) : List AB := [.cells 28 ((cBx a9).map .p), yT (v1 + 1) (v5.take v2 ++ [(⟨x2.kind, x2.text, x2.n, x2.kids, a3, a4, v3⟩ : ThingD)]), .cells 83 [sp a11 2 0, .sl 3 a12 1 0 a13, .sl 1 a1 7 0 a14, ls 1 Zc a15, ls 1 eI64 a16, i6 a17, i6 a18, vb a19], yU a12 a20, .row 28 4 a21 (ra cBx a22), .cells 77 ((Za a23).map .p), .cells 73 [.ptr 2 0], .cells 77 ((Za a24).map .p), .cells 77 ((Za a25).map .p), yT a26 a27, yT a28 a29, yT a30 a31, .cells 78 [.sl 10 a28 7 0 a32], .cells 3 [i6 a33], .cells 77 ((Za a7).map .p), yT0, .row 28 4 0 (ra cBx []), .cells 28 ((cBx x2).map .p), .row 77 7 0 [[i6 x2.kind, vs x2.text, i6 x2.n, (.p (.lst 4 (Zb x2.kids))), i6 a3, i6 a4, i6 v3]]]
theorem M2 (v1 v2 : Nat) (v3 v4 : Int) (v5 : Tqq) {r : E_L37_1_17 ⊕ (Nat × Nat × Int × Int × Tqq)} (h : W8 a3 a4 a7 a8 a16 v1 v2 v3 v4 v5 = some r) : OkR (fun e => U6 a1 a6 a7 a9 a11 a12 a13 a14 a15 a16 a17 a18 a19 a20 a21 a22 a23 a24 a25 a26 a27 a28 a29 a30 a31 a32 a33 e (Y4 a1 a3 a4 a6 a7 a8 a9 a11 a12 a13 a14 a15 a16 a17 a18 a19 a20 a21 a22 a23 a24 a25 a26 a27 a28 a29 a30 a31 a32 a33 v1 v2 v3 v4 v5)) (fun s => Y4 a1 a3 a4 a6 a7 a8 a9 a11 a12 a13 a14 a15 a16 a17 a18 a19 a20 a21 a22 a23 a24 a25 a26 a27 a28 a29 a30 a31 a32 a33 v1 v2 v3 v4 v5 = Y4 a1 a3 a4 a6 a7 a8 a9 a11 a12 a13 a14 a15 a16 a17 a18 a19 a20 a21 a22 a23 a24 a25 a26 a27 a28 a29 a30 a31 a32 a33 s.1 s.2.1 s.2.2.1 s.2.2.2.1 s.2.2.2.2) r := by
 unfold W8 at h
 apply bi h <;> intro h1 h
 ·
  apply bn h; intro x2 h2 h
  have q0 := ((igr Zv h2) : idxA 4 (.p (.lst 4 (Zb a7.kids))) (i6 v4) = some (.ro (cBx x2)))
  have k1 := ka [(27, .d true), (28, .v (.ro (cBx x2)))] (av h1 (apc q0 apn))
  apply bi h <;> intro h3 h
  ·
   apply bi h <;> intro h4 h
   ·
    apply bn h; intro x5 h5 h
    rw [← sj h]
    exact rn ([(37, .r (.sl 1 v1 7 0 (v2 + 1)) (Ry a1 a3 a4 a7 a9 a11 a12 a13 a14 a15 a16 a17 a18 a19 a20 a21 a22 a23 a24 a25 a26 a27 a28 a29 a30 a31 a32 a33 v1 v5 v2 x2 v3)), (44, .v (.ro [.val (.int .i64 x5)])), (6000, .d true)] ++ kH k1) (k1.b (apc ((Vy (e := Za) (xs := v5) (news := [(⟨x2.kind, x2.text, x2.n, x2.kids, a3, a4, v3⟩ : ThingD)]) rfl (ZQ (e := Za) (xs := [(⟨x2.kind, x2.text, x2.n, x2.kids, a3, a4, v3⟩ : ThingD)]) rfl) rfl h3 h4) : appA (Rz a1 a3 a4 a7 a9 a11 a12 a13 a14 a15 a16 a17 a18 a19 a20 a21 a22 a23 a24 a25 a26 a27 a28 a29 a30 a31 a32 a33 v1 v5 x2 v3) 77 7 80 (.sl 1 v1 7 0 v2) (.sl 18 0 7 0 1) = some ((.sl 1 v1 7 0 (v2 + 1)), Ry a1 a3 a4 a7 a9 a11 a12 a13 a14 a15 a16 a17 a18 a19 a20 a21 a22 a23 a24 a25 a26 a27 a28 a29 a30 a31 a32 a33 v1 v5 v2 x2 v3)) (apc (ig eI64 1 .i64 h5) (apc (U5 a1 a3 a4 a6 a7 a8 a9 a11 a12 a13 a14 a15 a16 a17 a18 a19 a20 a21 a22 a23 a24 a25 a26 a27 a28 a29 a30 a31 a32 a33 v1 (v2 + 1) (w6 (v3 + x5)) (w6 (v4 + 1)) (splice v5 v2 [(⟨x2.kind, x2.text, x2.n, x2.kids, a3, a4, v3⟩ : ThingD)])) apn))))
   ·
    apply bn h; intro x5 h5 h
    rw [← sj h]
    exact rn ([(37, .r (.sl 1 (v1 + 1) 7 0 (v2 + 1)) (RA a1 a3 a4 a7 a9 a11 a12 a13 a14 a15 a16 a17 a18 a19 a20 a21 a22 a23 a24 a25 a26 a27 a28 a29 a30 a31 a32 a33 v1 v5 v2 x2 v3)), (44, .v (.ro [.val (.int .i64 x5)])), (6000, .d true)] ++ kH k1) (k1.b (apc ((Xe (e := Za) (xs := v5) (news := [(⟨x2.kind, x2.text, x2.n, x2.kids, a3, a4, v3⟩ : ThingD)]) rfl (ZQ (e := Za) (xs := [(⟨x2.kind, x2.text, x2.n, x2.kids, a3, a4, v3⟩ : ThingD)]) rfl) rfl h3 h4) : appA (Rz a1 a3 a4 a7 a9 a11 a12 a13 a14 a15 a16 a17 a18 a19 a20 a21 a22 a23 a24 a25 a26 a27 a28 a29 a30 a31 a32 a33 v1 v5 x2 v3) 77 7 80 (.sl 1 v1 7 0 v2) (.sl 18 0 7 0 1) = some ((.sl 1 (v1 + 1) 7 0 (v2 + 1)), RA a1 a3 a4 a7 a9 a11 a12 a13 a14 a15 a16 a17 a18 a19 a20 a21 a22 a23 a24 a25 a26 a27 a28 a29 a30 a31 a32 a33 v1 v5 v2 x2 v3)) (apc (ig eI64 1 .i64 h5) (apc (U5 a1 a3 a4 a6 a7 a8 a9 a11 a12 a13 a14 a15 a16 a17 a18 a19 a20 a21 a22 a23 a24 a25 a26 a27 a28 a29 a30 a31 a32 a33 (v1 + 1) (v2 + 1) (w6 (v3 + x5)) (w6 (v4 + 1)) (v5.take v2 ++ [(⟨x2.kind, x2.text, x2.n, x2.kids, a3, a4, v3⟩ : ThingD)])) apn))))
  ·
   cases h
 ·
  rw [← sj h]
  exact xb [(27, .d false), (6000, .d true)] (av h1 apn)
theorem NK (s0 : Nat × Nat × Int × Int × Tqq) (e : E_L37_1_17) (h : runL (fun s => W8 a3 a4 a7 a8 a16 s.1 s.2.1 s.2.2.1 s.2.2.2.1 s.2.2.2.2) s0 = some e) : U6 a1 a6 a7 a9 a11 a12 a13 a14 a15 a16 a17 a18 a19 a20 a21 a22 a23 a24 a25 a26 a27 a28 a29 a30 a31 a32 a33 e (Y4 a1 a3 a4 a6 a7 a8 a9 a11 a12 a13 a14 a15 a16 a17 a18 a19 a20 a21 a22 a23 a24 a25 a26 a27 a28 a29 a30 a31 a32 a33 s0.1 s0.2.1 s0.2.2.1 s0.2.2.2.1 s0.2.2.2.2) := by
  have q := @Zg (Nat × Nat × Int × Int × Tqq) E_L37_1_17 (fun s => W8 a3 a4 a7 a8 a16 s.1 s.2.1 s.2.2.1 s.2.2.2.1 s.2.2.2.2) (fun s => Y4 a1 a3 a4 a6 a7 a8 a9 a11 a12 a13 a14 a15 a16 a17 a18 a19 a20 a21 a22 a23 a24 a25 a26 a27 a28 a29 a30 a31 a32 a33 s.1 s.2.1 s.2.2.1 s.2.2.2.1 s.2.2.2.2) (U6 a1 a6 a7 a9 a11 a12 a13 a14 a15 a16 a17 a18 a19 a20 a21 a22 a23 a24 a25 a26 a27 a28 a29 a30 a31 a32 a33) (fun s r h => M2 a1 a3 a4 a6 a7 a8 a9 a11 a12 a13 a14 a15 a16 a17 a18 a19 a20 a21 a22 a23 a24 a25 a26 a27 a28 a29 a30 a31 a32 a33 s.1 s.2.1 s.2.2.1 s.2.2.2.1 s.2.2.2.2 h) s0 e h
  exact q
end
inductive E_L37_0_17 where
  | k0 (x0 : Tqq)
section
variable (a1 a2 : Nat) (a5 : BoxD) (a7 : Bool) (a8 a9 a10 a11 : Nat) (a12 : Oqq) (a13 : Iqq) (a14 a15 : Int) (a16 : Bool) (a17 : Iqq) (a18 : Nat) (a19 : Bqq) (a20 a21 a22 : ThingD) (a23 : Nat) (a24 : Tqq) (a25 : Nat) (a26 : Tqq) (a27 : Nat) (a28 : Tqq) (a29 : Nat) (a30 : Int) (a31 : ThingD)
def W9 (v1 v2 : Int) (v3 : Tqq) : Option (E_L37_0_17 ⊕ (Int × Int × Tqq)) :=
  (bif (decide (v1 < v2)) then ((ixN a2 v2).bind fun x2 => ((v3[x2]?).bind fun x3 => ((ixN a2 v1).bind fun x4 => ((v3[x4]?).bind fun x5 => (((v3.set x4 (⟨x3.kind, x3.text, x3.n, x3.kids, x3.depth, x3.way, x3.at_⟩ : ThingD))[x2]?).bind fun x6 => (some (.inr ((IntKind.wrap .i64 (v1 + 1)), (IntKind.wrap .i64 (v2 - 1)), ((v3.set x4 (⟨x3.kind, x3.text, x3.n, x3.kids, x3.depth, x3.way, x3.at_⟩ : ThingD)).set x2 (⟨x5.kind, x5.text, x5.n, x5.kids, x5.depth, x5.way, x5.at_⟩ : ThingD)))))))))) else (some (.inl (.k0 v3))))
def QZ (v1 v2 : Int) (v3 : Tqq) : St := ⟨fr 74 ug [(1, .sl 1 a1 7 0 a2), (15, i6 v1), (16, i6 v2)], [.cells 28 ((cBx a5).map .p), yT a1 v3, .cells 83 [sp a7 2 0, .sl 3 a8 1 0 a9, .sl 1 a10 7 0 a11, ls 1 Zc a12, ls 1 eI64 a13, i6 a14, i6 a15, vb a16], yU a8 a17, .row 28 4 a18 (ra cBx a19), .cells 77 ((Za a20).map .p), .cells 73 [.ptr 2 0], .cells 77 ((Za a21).map .p), .cells 77 ((Za a22).map .p), yT a23 a24, yT a25 a26, yT a27 a28, .cells 78 [.sl 10 a25 7 0 a29], .cells 3 [i6 a30], .cells 77 ((Za a31).map .p), yT0]⟩
theorem Q0 (v1 v2 : Int) (v3 : Tqq) : okT 16 (QZ a1 a2 a5 a7 a8 a9 a10 a11 a12 a13 a14 a15 a16 a17 a18 a19 a20 a21 a22 a23 a24 a25 a26 a27 a28 a29 a30 a31 v1 v2 v3).h = true := (ZB rfl (ac (ar (Zt (Z5 rfl (Ze rfl (Ze rfl (Ze rfl (Ze rfl (Ze rfl (Ze rfl (Ze rfl rfl)))))))) (ar (ar (ac (ac (ac (ac (ar (ar (ar (ac (ac (ac (ar rfl)))))))))))))))))
abbrev Y5 (v1 v2 : Int) (v3 : Tqq) := evH prg 16 [1, 15, 16] XC (QZ a1 a2 a5 a7 a8 a9 a10 a11 a12 a13 a14 a15 a16 a17 a18 a19 a20 a21 a22 a23 a24 a25 a26 a27 a28 a29 a30 a31 v1 v2 v3)
def U7 (e : E_L37_0_17) (r : Option (Out × St)) : Prop := match e with | .k0 x0 => ∃ g, r = some ((.brk 2), ⟨fr 74 g [(1, .sl 1 a1 7 0 a2)], [.cells 28 ((cBx a5).map .p), yT a1 x0, .cells 83 [sp a7 2 0, .sl 3 a8 1 0 a9, .sl 1 a10 7 0 a11, ls 1 Zc a12, ls 1 eI64 a13, i6 a14, i6 a15, vb a16], yU a8 a17, .row 28 4 a18 (ra cBx a19), .cells 77 ((Za a20).map .p), .cells 73 [.ptr 2 0], .cells 77 ((Za a21).map .p), .cells 77 ((Za a22).map .p), yT a23 a24, yT a25 a26, yT a27 a28, .cells 78 [.sl 10 a25 7 0 a29], .cells 3 [i6 a30], .cells 77 ((Za a31).map .p), yT0]⟩)
abbrev VT (v3 : Tqq) (x4 : Nat) (x3 : ThingD) : List AB := [.cells 28 ((cBx a5).map .p), yT a1 (v3.set x4 (⟨x3.kind, x3.text, x3.n, x3.kids, x3.depth, x3.way, x3.at_⟩ : ThingD)), .cells 83 [sp a7 2 0, .sl 3 a8 1 0 a9, .sl 1 a10 7 0 a11, ls 1 Zc a12, ls 1 eI64 a13, i6 a14, i6 a15, vb a16], yU a8 a17, .row 28 4 a18 (ra cBx a19), .cells 77 ((Za a20).map .p), .cells 73 [.ptr 2 0], .cells 77 ((Za a21).map .p), .cells 77 ((Za a22).map .p), yT a23 a24, yT a25 a26, yT a27 a28, .cells 78 [.sl 10 a25 7 0 a29], .cells 3 [i6 a30], .cells 77 ((Za a31).map .p), yT0]
abbrev RB (v3 : Tqq) (x4 : Nat) (x3 : ThingD) (x2 : Nat) (x5 : ThingD) : List AB := [.cells 28 ((cBx a5).map .p), yT a1 ((v3.set x4 (⟨x3.kind, x3.text, x3.n, x3.kids, x3.depth, x3.way, x3.at_⟩ : ThingD)).set x2 (⟨x5.kind, x5.text, x5.n, x5.kids, x5.depth, x5.way, x5.at_⟩ : ThingD)), .cells 83 [sp a7 2 0, .sl 3 a8 1 0 a9, .sl 1 a10 7 0 a11, ls 1 Zc a12, ls 1 eI64 a13, i6 a14, i6 a15, vb a16], yU a8 a17, .row 28 4 a18 (ra cBx a19), .cells 77 ((Za a20).map .p), .cells 73 [.ptr 2 0], .cells 77 ((Za a21).map .p), .cells 77 ((Za a22).map .p), yT a23 a24, yT a25 a26, yT a27 a28, .cells 78 [.sl 10 a25 7 0 a29], .cells 3 [i6 a30], .cells 77 ((Za a31).map .p), yT0]
abbrev VU (v3 : Tqq) : List AB := [.cells 28 ((cBx a5).map .p), yT a1 v3, .cells 83 [sp a7 2 0, .sl 3 a8 1 0 a9, .sl 1 a10 7 0 a11, ls 1 Zc a12, ls 1 eI64 a13, i6 a14, i6 a15, vb a16], yU a8 a17, .row 28 4 a18 (ra cBx a19), .cells 77 ((Za a20).map .p), .cells 73 [.ptr 2 0], .cells 77 ((Za a21).map .p), .cells 77 ((Za a22).map .p), yT a23 a24, yT a25 a26, yT a27 a28, .cells 78 [.sl 10 a25 7 0 a29], .cells 3 [i6 a30], .cells 77 ((Za a31).map .p), yT0]
theorem M3 (v1 v2 : Int) (v3 : Tqq) {r : E_L37_0_17 ⊕ (Int × Int × Tqq)} (h : W9 a2 v1 v2 v3 = some r) : OkR (fun e => U7 a1 a2 a5 a7 a8 a9 a10 a11 a12 a13 a14 a15 a16 a17 a18 a19 a20 a21 a22 a23 a24 a25 a26 a27 a28 a29 a30 a31 e (Y5 a1 a2 a5 a7 a8 a9 a10 a11 a12 a13 a14 a15 a16 a17 a18 a19 a20 a21 a22 a23 a24 a25 a26 a27 a28 a29 a30 a31 v1 v2 v3)) (fun s => Y5 a1 a2 a5 a7 a8 a9 a10 a11 a12 a13 a14 a15 a16 a17 a18 a19 a20 a21 a22 a23 a24 a25 a26 a27 a28 a29 a30 a31 v1 v2 v3 = Y5 a1 a2 a5 a7 a8 a9 a10 a11 a12 a13 a14 a15 a16 a17 a18 a19 a20 a21 a22 a23 a24 a25 a26 a27 a28 a29 a30 a31 s.1 s.2.1 s.2.2) r := by
 unfold W9 at h
 apply bi h <;> intro h1 h
 ·
  apply bn h; intro x2 h2 h
  have q0 := ((ZO h2) : idxA 7 (.sl 1 a1 7 0 a2) (i6 v2) = some (.rp 1 a1 7 x2 0))
  apply bn h; intro x3 h3 h
  apply bn h; intro x4 h4 h
  have q1 := ((ZO h4) : idxA 7 (.sl 1 a1 7 0 a2) (i6 v1) = some (.rp 1 a1 7 x4 0))
  apply bn h; intro x5 h5 h
  apply bn h; intro x6 h6 h
  rw [← sj h]
  exact rn [(54, .d true), (65, .v (.rp 1 a1 7 x2 0)), (66, .v (.agg ((Za x3).map .p))), (69, .v (.rp 1 a1 7 x4 0)), (70, .v (.agg ((Za x5).map .p))), (71, .v (.rp 1 a1 7 x4 0)), (1071, .r ud (VT a1 a5 a7 a8 a9 a10 a11 a12 a13 a14 a15 a16 a17 a18 a19 a20 a21 a22 a23 a24 a25 a26 a27 a28 a29 a30 a31 v3 x4 x3)), (72, .v (.rp 1 a1 7 x2 0)), (1072, .r ud (RB a1 a5 a7 a8 a9 a10 a11 a12 a13 a14 a15 a16 a17 a18 a19 a20 a21 a22 a23 a24 a25 a26 a27 a28 a29 a30 a31 v3 x4 x3 x2 x5)), (6000, .d true)] (av h1 (apc q0 (apc ((Z4 rfl h3 rfl) : ldA (VU a1 a5 a7 a8 a9 a10 a11 a12 a13 a14 a15 a16 a17 a18 a19 a20 a21 a22 a23 a24 a25 a26 a27 a28 a29 a30 a31 v3) .true 7 (.rp 1 a1 7 x2 0) = some (.agg ((Za x3).map .p))) (apc q1 (apc ((Z4 rfl h5 rfl) : ldA (VU a1 a5 a7 a8 a9 a10 a11 a12 a13 a14 a15 a16 a17 a18 a19 a20 a21 a22 a23 a24 a25 a26 a27 a28 a29 a30 a31 v3) .true 7 (.rp 1 a1 7 x4 0) = some (.agg ((Za x5).map .p))) (apc q1 (apc (⟨ZX (v' := (⟨x3.kind, x3.text, x3.n, x3.kids, x3.depth, x3.way, x3.at_⟩ : ThingD)) rfl h5 rfl rfl (Nat.le_of_ble_eq_true rfl) rfl, rfl⟩ : stA (VU a1 a5 a7 a8 a9 a10 a11 a12 a13 a14 a15 a16 a17 a18 a19 a20 a21 a22 a23 a24 a25 a26 a27 a28 a29 a30 a31 v3) 7 (.rp 1 a1 7 x4 0) (.agg ((Za x3).map .p)) = some (VT a1 a5 a7 a8 a9 a10 a11 a12 a13 a14 a15 a16 a17 a18 a19 a20 a21 a22 a23 a24 a25 a26 a27 a28 a29 a30 a31 v3 x4 x3) ∧ ud = ud) (apc q0 (apc (⟨ZX (v' := (⟨x5.kind, x5.text, x5.n, x5.kids, x5.depth, x5.way, x5.at_⟩ : ThingD)) rfl h6 rfl rfl (Nat.le_of_ble_eq_true rfl) rfl, rfl⟩ : stA (VT a1 a5 a7 a8 a9 a10 a11 a12 a13 a14 a15 a16 a17 a18 a19 a20 a21 a22 a23 a24 a25 a26 a27 a28 a29 a30 a31 v3 x4 x3) 7 (.rp 1 a1 7 x2 0) (.agg ((Za x5).map .p)) = some (RB a1 a5 a7 a8 a9 a10 a11 a12 a13 a14 a15 a16 a17 a18 a19 a20 a21 a22 a23 a24 a25 a26 a27 a28 a29 a30 a31 v3 x4 x3 x2 x5) ∧ ud = ud) (apc (Q0 a1 a2 a5 a7 a8 a9 a10 a11 a12 a13 a14 a15 a16 a17 a18 a19 a20 a21 a22 a23 a24 a25 a26 a27 a28 a29 a30 a31 (w6 (v1 + 1)) (w6 (v2 - 1)) ((v3.set x4 (⟨x3.kind, x3.text, x3.n, x3.kids, x3.depth, x3.way, x3.at_⟩ : ThingD)).set x2 (⟨x5.kind, x5.text, x5.n, x5.kids, x5.depth, x5.way, x5.at_⟩ : ThingD))) apn))))))))))
 ·
  rw [← sj h]
  exact xb [(54, .d false), (6000, .d true)] (av h1 apn)
theorem NL (s0 : Int × Int × Tqq) (e : E_L37_0_17) (h : runL (fun s => W9 a2 s.1 s.2.1 s.2.2) s0 = some e) : U7 a1 a2 a5 a7 a8 a9 a10 a11 a12 a13 a14 a15 a16 a17 a18 a19 a20 a21 a22 a23 a24 a25 a26 a27 a28 a29 a30 a31 e (Y5 a1 a2 a5 a7 a8 a9 a10 a11 a12 a13 a14 a15 a16 a17 a18 a19 a20 a21 a22 a23 a24 a25 a26 a27 a28 a29 a30 a31 s0.1 s0.2.1 s0.2.2) := by
  have q := @Zg (Int × Int × Tqq) E_L37_0_17 (fun s => W9 a2 s.1 s.2.1 s.2.2) (fun s => Y5 a1 a2 a5 a7 a8 a9 a10 a11 a12 a13 a14 a15 a16 a17 a18 a19 a20 a21 a22 a23 a24 a25 a26 a27 a28 a29 a30 a31 s.1 s.2.1 s.2.2) (U7 a1 a2 a5 a7 a8 a9 a10 a11 a12 a13 a14 a15 a16 a17 a18 a19 a20 a21 a22 a23 a24 a25 a26 a27 a28 a29 a30 a31) (fun s r h => M3 a1 a2 a5 a7 a8 a9 a10 a11 a12 a13 a14 a15 a16 a17 a18 a19 a20 a21 a22 a23 a24 a25 a26 a27 a28 a29 a30 a31 s.1 s.2.1 s.2.2 h) s0 e h
  exact q
end
inductive R_F37_17 where
  | k0 (x0 x1 : Nat) (x2 : Tqq)
def Fs (a1 a2 : Nat) (a3 : ThingD) (a4 a5 : Int) (a6 : BoxD) (a7 : Tqq) (a8 : Bool) (a9 a10 a11 : Nat) (a12 : Oqq) (a13 : Iqq) (a14 a15 : Int) (a16 : Bool) (a17 : Iqq) (a18 : Nat) (a19 : Bqq) (a20 a21 a22 : ThingD) (a23 : Nat) (a24 : Tqq) (a25 : Nat) (a26 : Tqq) (a27 : Nat) (a28 : Tqq) (a29 : Nat) (a30 : Int) (r : R_F37_17) : AV := match r with | .k0 x0 x1 x2 => (.sl 1 x0 7 0 x1)
def Ft (a1 a2 : Nat) (a3 : ThingD) (a4 a5 : Int) (a6 : BoxD) (a7 : Tqq) (a8 : Bool) (a9 a10 a11 : Nat) (a12 : Oqq) (a13 : Iqq) (a14 a15 : Int) (a16 : Bool) (a17 : Iqq) (a18 : Nat) (a19 : Bqq) (a20 a21 a22 : ThingD) (a23 : Nat) (a24 : Tqq) (a25 : Nat) (a26 : Tqq) (a27 : Nat) (a28 : Tqq) (a29 : Nat) (a30 : Int) (r : R_F37_17) : List AB := match r with | .k0 x0 x1 x2 => [.cells 28 ((cBx a6).map .p), yT x0 x2, .cells 83 [sp a8 2 0, .sl 3 a9 1 0 a10, .sl 1 a1 7 0 a11, ls 1 Zc a12, ls 1 eI64 a13, i6 a14, i6 a15, vb a16], yU a9 a17, .row 28 4 a18 (ra cBx a19), .cells 77 ((Za a20).map .p), .cells 73 [.ptr 2 0], .cells 77 ((Za a21).map .p), .cells 77 ((Za a22).map .p), yT a23 a24, yT a25 a26, yT a27 a28, .cells 78 [.sl 10 a25 7 0 a29], .cells 3 [i6 a30], .cells 77 ((Za a3).map .p), yT0]
def Q1 (a1 a2 : Nat) (a3 : ThingD) (a4 a5 : Int) (a7 : Tqq) (a13 : Iqq) : Option R_F37_17 :=
  ((runL (fun s => W8 a4 a5 a3 (a3.kids.length : Int) a13 s.1 s.2.1 s.2.2.1 s.2.2.2.1 s.2.2.2.2) (a1, a2, (IntKind.wrap .i64 (a3.at_ + 1)), 0, a7)).bind fun r1 => match r1 with | .k0 x1_0 x1_1 x1_2 => ((runL (fun s => W9 x1_1 s.1 s.2.1 s.2.2) (((a2 : Nat) : Int), (IntKind.wrap .i64 (((x1_1 : Nat) : Int) - 1)), x1_2)).bind fun r2 => match r2 with | .k0 x2_0 => (some (.k0 x1_0 x1_1 x2_0))))
abbrev NM (g1 : Nat → AV) (x1_0 x1_1 a2 : Nat) (a3 : ThingD) (a6 : BoxD) (x1_2 : Tqq) (a8 : Bool) (a9 a10 a1 a11 : Nat) (a12 : Oqq) (a13 : Iqq) (a14 a15 : Int) (a16 : Bool) (a17 : Iqq) (a18 : Nat) (a19 : Bqq) (a20 a21 a22 : ThingD) (a23 : Nat) (a24 : Tqq) (a25 : Nat) (a26 : Tqq) (a27 : Nat) (a28 : Tqq) (a29 : Nat) (a30 : Int) : St := ⟨fr 74 g1 [(1, .sl 1 x1_0 7 0 x1_1), (12, (i6 ((a2 : Nat) : Int))), (24, (.p (.lst 4 (Zb a3.kids))))], [.cells 28 ((cBx a6).map .p), yT x1_0 x1_2, .cells 83 [sp a8 2 0, .sl 3 a9 1 0 a10, .sl 1 a1 7 0 a11, ls 1 Zc a12, ls 1 eI64 a13, i6 a14, i6 a15, vb a16], yU a9 a17, .row 28 4 a18 (ra cBx a19), .cells 77 ((Za a20).map .p), .cells 73 [.ptr 2 0], .cells 77 ((Za a21).map .p), .cells 77 ((Za a22).map .p), yT a23 a24, yT a25 a26, yT a27 a28, .cells 78 [.sl 10 a25 7 0 a29], .cells 3 [i6 a30], .cells 77 ((Za a3).map .p), yT0]⟩
abbrev NN (g2 : Nat → AV) (x1_0 x1_1 : Nat) (a6 : BoxD) (x2_0 : Tqq) (a8 : Bool) (a9 a10 a1 a11 : Nat) (a12 : Oqq) (a13 : Iqq) (a14 a15 : Int) (a16 : Bool) (a17 : Iqq) (a18 : Nat) (a19 : Bqq) (a20 a21 a22 : ThingD) (a23 : Nat) (a24 : Tqq) (a25 : Nat) (a26 : Tqq) (a27 : Nat) (a28 : Tqq) (a29 : Nat) (a30 : Int) (a3 : ThingD) : St := ⟨fr 74 g2 [(1, .sl 1 x1_0 7 0 x1_1)], [.cells 28 ((cBx a6).map .p), yT x1_0 x2_0, .cells 83 [sp a8 2 0, .sl 3 a9 1 0 a10, .sl 1 a1 7 0 a11, ls 1 Zc a12, ls 1 eI64 a13, i6 a14, i6 a15, vb a16], yU a9 a17, .row 28 4 a18 (ra cBx a19), .cells 77 ((Za a20).map .p), .cells 73 [.ptr 2 0], .cells 77 ((Za a21).map .p), .cells 77 ((Za a22).map .p), yT a23 a24, yT a25 a26, yT a27 a28, .cells 78 [.sl 10 a25 7 0 a29], .cells 3 [i6 a30], .cells 77 ((Za a3).map .p), yT0]⟩
theorem NO (a1 a2 : Nat) (a3 : ThingD) (a4 a5 : Int) (a6 : BoxD) (a7 : Tqq) (a8 : Bool) (a9 a10 a11 : Nat) (a12 : Oqq) (a13 : Iqq) (a14 a15 : Int) (a16 : Bool) (a17 : Iqq) (a18 : Nat) (a19 : Bqq) (a20 a21 a22 : ThingD) (a23 : Nat) (a24 : Tqq) (a25 : Nat) (a26 : Tqq) (a27 : Nat) (a28 : Tqq) (a29 : Nat) (a30 : Int) {r : R_F37_17} (h : Q1 a1 a2 a3 a4 a5 a7 a13 = some r) : CS prg 55 [.ptr 2 0, .sl 1 a1 7 0 a2, (.agg ((Za a3).map .p)), i6 a4, i6 a5] [.cells 28 ((cBx a6).map .p), yT a1 a7, .cells 83 [sp a8 2 0, .sl 3 a9 1 0 a10, .sl 1 a1 7 0 a11, ls 1 Zc a12, ls 1 eI64 a13, i6 a14, i6 a15, vb a16], yU a9 a17, .row 28 4 a18 (ra cBx a19), .cells 77 ((Za a20).map .p), .cells 73 [.ptr 2 0], .cells 77 ((Za a21).map .p), .cells 77 ((Za a22).map .p), yT a23 a24, yT a25 a26, yT a27 a28, .cells 78 [.sl 10 a25 7 0 a29], .cells 3 [i6 a30]] = some (Fs a1 a2 a3 a4 a5 a6 a7 a8 a9 a10 a11 a12 a13 a14 a15 a16 a17 a18 a19 a20 a21 a22 a23 a24 a25 a26 a27 a28 a29 a30 r, Ft a1 a2 a3 a4 a5 a6 a7 a8 a9 a10 a11 a12 a13 a14 a15 a16 a17 a18 a19 a20 a21 a22 a23 a24 a25 a26 a27 a28 a29 a30 r) := by
 unfold Q1 at h
 apply bn h; intro r1 h1 h
 cases r1 with
 | k0 x1_0 x1_1 x1_2 =>
  obtain ⟨g1, e1⟩ := NK a1 a4 a5 ((a2 : Nat) : Int) a3 (a3.kids.length : Int) a6 a8 a9 a10 a11 a12 a13 a14 a15 a16 a17 a18 a19 a20 a21 a22 a23 a24 a25 a26 a27 a28 a29 a30 (a1, a2, (w6 (a3.at_ + 1)), 0, a7) _ h1
  apply bn h; intro r2 h2 h
  cases r2 with
  | k0 x2_0 =>
   obtain ⟨g2, e2⟩ := NL x1_0 x1_1 a6 a8 a9 a10 a1 a11 a12 a13 a14 a15 a16 a17 a18 a19 a20 a21 a22 a23 a24 a25 a26 a27 a28 a29 a30 a3 (((a2 : Nat) : Int), (w6 (((x1_1 : Nat) : Int) - 1)), x1_2) _ h2
   rw [← sj h]
   exact fc [(25, .v (i6 (a3.kids.length : Int))), (2000, .l (.brk 0) (NM g1 x1_0 x1_1 a2 a3 a6 x1_2 a8 a9 a10 a1 a11 a12 a13 a14 a15 a16 a17 a18 a19 a20 a21 a22 a23 a24 a25 a26 a27 a28 a29 a30)), (2002, .l (.brk 2) (NN g2 x1_0 x1_1 a6 x2_0 a8 a9 a10 a1 a11 a12 a13 a14 a15 a16 a17 a18 a19 a20 a21 a22 a23 a24 a25 a26 a27 a28 a29 a30 a3)), (6000, .d true)] (apc ((lgr Zv) : lnA (.p (.lst 4 (Zb a3.kids))) = some (i6 (a3.kids.length : Int))) (apc (U5 a1 a4 a5 ((a2 : Nat) : Int) a3 (a3.kids.length : Int) a6 a8 a9 a10 a11 a12 a13 a14 a15 a16 a17 a18 a19 a20 a21 a22 a23 a24 a25 a26 a27 a28 a29 a30 a1 a2 (w6 (a3.at_ + 1)) 0 a7) (apc (e1 : Y4 a1 a4 a5 ((a2 : Nat) : Int) a3 (a3.kids.length : Int) a6 a8 a9 a10 a11 a12 a13 a14 a15 a16 a17 a18 a19 a20 a21 a22 a23 a24 a25 a26 a27 a28 a29 a30 a1 a2 (w6 (a3.at_ + 1)) 0 a7 = some ((.brk 0), NM g1 x1_0 x1_1 a2 a3 a6 x1_2 a8 a9 a10 a1 a11 a12 a13 a14 a15 a16 a17 a18 a19 a20 a21 a22 a23 a24 a25 a26 a27 a28 a29 a30)) (apc (Q0 x1_0 x1_1 a6 a8 a9 a10 a1 a11 a12 a13 a14 a15 a16 a17 a18 a19 a20 a21 a22 a23 a24 a25 a26 a27 a28 a29 a30 a3 ((a2 : Nat) : Int) (w6 (((x1_1 : Nat) : Int) - 1)) x1_2) (apc (e2 : Y5 x1_0 x1_1 a6 a8 a9 a10 a1 a11 a12 a13 a14 a15 a16 a17 a18 a19 a20 a21 a22 a23 a24 a25 a26 a27 a28 a29 a30 a3 ((a2 : Nat) : Int) (w6 (((x1_1 : Nat) : Int) - 1)) x1_2 = some ((.brk 2), NN g2 x1_0 x1_1 a6 x2_0 a8 a9 a10 a1 a11 a12 a13 a14 a15 a16 a17 a18 a19 a20 a21 a22 a23 a24 a25 a26 a27 a28 a29 a30 a3)) apn)))))
inductive E_L27_0 where
  | k0 (x0 : Nat) (x1 : Tqq) (x2 : Bool) (x3 x4 x5 : Nat) (x6 : Int) (x7 : Bool) (x8 : Iqq)
section
variable (a1 : BoxD) (a3 : Oqq) (a4 : Iqq) (a5 : Int)
def M4 (v1 : Nat) (v2 : Tqq) (v3 : Bool) (v4 v5 v6 : Nat) (v7 : Int) (v8 : Bool) (v9 : Iqq) : Option (E_L27_0 ⊕ (Nat × Tqq × Bool × Nat × Nat × Nat × Int × Bool × Iqq)) :=
  (bif (decide (((v6 : Nat) : Int) > 0)) then ((G5 v5).bind fun x2 => (bif (decide (x2 ≤ 1048576)) then ((ixN v6 (IntKind.wrap .i64 (((v6 : Nat) : Int) - 1))).bind fun x4 => ((v2[x4]?).bind fun x5 => (bif (slOk (IntKind.wrap .i64 (((v6 : Nat) : Int) - 1)) v6 v2.length) then (bif (x5.kind == 0) then ((Hw x5 v3 v4 v5 v7 v8 v9).bind fun r8 => match r8 with | .k0 x8_0 x8_1 x8_2 x8_3 x8_4 x8_5 => ((F37 v1 (Int.toNat (IntKind.wrap .i64 (((v6 : Nat) : Int) - 1))) x5 x5.depth x5.way v2 a4).bind fun r9 => match r9 with | .k0 x9_0 x9_1 x9_2 => (some (.inr (x9_0, x9_2, x8_0, x8_1, x8_2, x9_1, x8_3, x8_4, x8_5))))) else (bif (x5.kind == 1) then (bif (x5.way == 0) then ((JE v3 v4 v5 v9).bind fun r10 => match r10 with | .k0 x10_0 x10_1 x10_2 => (some (.inr (v1, v2, x10_0, x10_1, v5 + 1, (Int.toNat (IntKind.wrap .i64 (((v6 : Nat) : Int) - 1))), x5.depth, true, x10_2)))) else ((F35 (⟨([32] : List UInt8).toArray⟩ : ByteArray) x5.n).bind fun x10 => ((JA x10 v3 v4 v5 v9).bind fun r11 => match r11 with | .k0 x11_0 x11_1 x11_2 x11_3 => ((F37 v1 (Int.toNat (IntKind.wrap .i64 (((v6 : Nat) : Int) - 1))) x5 x5.depth x5.way v2 a4).bind fun r12 => match r12 with | .k0 x12_0 x12_1 x12_2 => (some (.inr (x12_0, x12_2, x11_1, x11_2, (v5 + (Zk x10).length), x12_1, (IntKind.wrap .i64 (v7 + x5.n)), v8, x11_3))))))) else (bif (x5.kind == 2) then ((JE v3 v4 v5 v9).bind fun r10 => match r10 with | .k0 x10_0 x10_1 x10_2 => ((O7 v1 (Int.toNat (IntKind.wrap .i64 (((v6 : Nat) : Int) - 1))) x5 x5.depth x5.way v2 a4).bind fun r11 => match r11 with | .k0 x11_0 x11_1 x11_2 => (some (.inr (x11_0, x11_2, x10_0, x10_1, v5 + 1, x11_1, x5.depth, true, x10_2))))) else (bif (x5.kind == 4) then (bif (x5.way == 1) then ((F37 v1 (Int.toNat (IntKind.wrap .i64 (((v6 : Nat) : Int) - 1))) x5 x5.depth 1 v2 a4).bind fun r12 => match r12 with | .k0 x12_0 x12_1 x12_2 => (some (.inr (x12_0, x12_2, v3, v4, v5, x12_1, v7, v8, v9)))) else ((getI a3 x5.at_).bind fun x12 => (bif x12 then ((F37 v1 (Int.toNat (IntKind.wrap .i64 (((v6 : Nat) : Int) - 1))) x5 x5.depth 0 v2 a4).bind fun r14 => match r14 with | .k0 x14_0 x14_1 x14_2 => (some (.inr (x14_0, x14_2, v3, v4, v5, x14_1, v7, v8, v9)))) else ((HG x5 v2 (Int.toNat (IntKind.wrap .i64 (((v6 : Nat) : Int) - 1))) a4 a5 v7).bind fun r14 => match r14 with | .k0 x14_0 x14_1 x14_2 x14_3 x14_4 x14_5 x14_6 x14_7 x14_8 x14_9 x14_10 x14_11 x14_12 => (bif x14_0 then ((QP v1 (Int.toNat (IntKind.wrap .i64 (((v6 : Nat) : Int) - 1))) x5 x5.depth 1 v2 a4).bind fun r16 => match r16 with | .k0 x16_0 x16_1 x16_2 => (some (.inr (x16_0, x16_2, v3, v4, v5, x16_1, v7, v8, v9)))) else ((QP v1 (Int.toNat (IntKind.wrap .i64 (((v6 : Nat) : Int) - 1))) x5 x5.depth 0 v2 a4).bind fun r16 => match r16 with | .k0 x16_0 x16_1 x16_2 => (some (.inr (x16_0, x16_2, v3, v4, v5, x16_1, v7, v8, v9))))) | .k1 x14_0 x14_1 x14_2 x14_3 x14_4 x14_5 => (bif x14_0 then ((QT v1 (Int.toNat (IntKind.wrap .i64 (((v6 : Nat) : Int) - 1))) x5 x5.depth 1 v2 a4).bind fun r16 => match r16 with | .k0 x16_0 x16_1 x16_2 => (some (.inr (x16_0, x16_2, v3, v4, v5, x16_1, v7, v8, v9)))) else ((QT v1 (Int.toNat (IntKind.wrap .i64 (((v6 : Nat) : Int) - 1))) x5 x5.depth 0 v2 a4).bind fun r16 => match r16 with | .k0 x16_0 x16_1 x16_2 => (some (.inr (x16_0, x16_2, v3, v4, v5, x16_1, v7, v8, v9))))) | .k2 x14_0 x14_1 x14_2 x14_3 x14_4 x14_5 x14_6 x14_7 x14_8 x14_9 x14_10 x14_11 x14_12 => (bif x14_0 then ((QX v1 (Int.toNat (IntKind.wrap .i64 (((v6 : Nat) : Int) - 1))) x5 x5.depth 1 v2 a4).bind fun r16 => match r16 with | .k0 x16_0 x16_1 x16_2 => (some (.inr (x16_0, x16_2, v3, v4, v5, x16_1, v7, v8, v9)))) else ((QX v1 (Int.toNat (IntKind.wrap .i64 (((v6 : Nat) : Int) - 1))) x5 x5.depth 0 v2 a4).bind fun r16 => match r16 with | .k0 x16_0 x16_1 x16_2 => (some (.inr (x16_0, x16_2, v3, v4, v5, x16_1, v7, v8, v9))))) | .k3 x14_0 x14_1 x14_2 x14_3 x14_4 x14_5 => (bif x14_0 then ((Q1 v1 (Int.toNat (IntKind.wrap .i64 (((v6 : Nat) : Int) - 1))) x5 x5.depth 1 v2 a4).bind fun r16 => match r16 with | .k0 x16_0 x16_1 x16_2 => (some (.inr (x16_0, x16_2, v3, v4, v5, x16_1, v7, v8, v9)))) else ((Q1 v1 (Int.toNat (IntKind.wrap .i64 (((v6 : Nat) : Int) - 1))) x5 x5.depth 0 v2 a4).bind fun r16 => match r16 with | .k0 x16_0 x16_1 x16_2 => (some (.inr (x16_0, x16_2, v3, v4, v5, x16_1, v7, v8, v9))))))))) else (bif (x5.kind == 5) then ((F37 v1 (Int.toNat (IntKind.wrap .i64 (((v6 : Nat) : Int) - 1))) x5 (IntKind.wrap .i64 (x5.depth + x5.n)) x5.way v2 a4).bind fun r12 => match r12 with | .k0 x12_0 x12_1 x12_2 => (some (.inr (x12_0, x12_2, v3, v4, v5, x12_1, v7, v8, v9)))) else ((F37 v1 (Int.toNat (IntKind.wrap .i64 (((v6 : Nat) : Int) - 1))) x5 x5.depth x5.way v2 a4).bind fun r12 => match r12 with | .k0 x12_0 x12_1 x12_2 => (some (.inr (x12_0, x12_2, v3, v4, v5, x12_1, v7, v8, v9))))))))) else none))) else (some (.inl (.k0 v1 v2 v3 v4 v5 v6 v7 v8 v9))))) else (some (.inl (.k0 v1 v2 v3 v4 v5 v6 v7 v8 v9))))
def HH (v1 : Nat) (v2 : Tqq) (v3 : Bool) (v4 v5 v6 : Nat) (v7 : Int) (v8 : Bool) (v9 : Iqq) : St := ⟨fr 134 ug [(0, .ptr 2 0)], [.cells 28 ((cBx a1).map .p), yT v1 v2, .cells 83 [sp v3 2 0, .sl 3 v4 1 0 v5, .sl 1 v1 7 0 v6, ls 1 Zc a3, ls 1 eI64 a4, i6 a5, i6 v7, vb v8], yU v4 v9]⟩
theorem ZZ (v1 : Nat) (v2 : Tqq) (v3 : Bool) (v4 v5 v6 : Nat) (v7 : Int) (v8 : Bool) (v9 : Iqq) : okT 4 (HH a1 a3 a4 a5 v1 v2 v3 v4 v5 v6 v7 v8 v9).h = true := (ZB rfl (ac (ar (Zt (Z5 rfl (Ze rfl (Ze rfl (Ze rfl (Ze rfl (Ze rfl (Ze rfl (Ze rfl rfl)))))))) (ar rfl)))))
abbrev U8 (v1 : Nat) (v2 : Tqq) (v3 : Bool) (v4 v5 v6 : Nat) (v7 : Int) (v8 : Bool) (v9 : Iqq) := evH prg 4 [0, 1000001000501] I8 (HH a1 a3 a4 a5 v1 v2 v3 v4 v5 v6 v7 v8 v9)
def M5 (e : E_L27_0) (r : Option (Out × St)) : Prop := match e with | .k0 x0 x1 x2 x3 x4 x5 x6 x7 x8 => ∃ g, r = some ((.brk 0), ⟨fr 134 g [(0, .ptr 2 0)], [.cells 28 ((cBx a1).map .p), yT x0 x1, .cells 83 [sp x2 2 0, .sl 3 x3 1 0 x4, .sl 1 x0 7 0 x5, ls 1 Zc a3, ls 1 eI64 a4, i6 a5, i6 x6, vb x7], yU x3 x8]⟩)
abbrev TI (v1 : Nat) (v2 : Tqq) (v3 : Bool) (v4 v5 v6 : Nat) (v7 : Int) (v8 : Bool) (v9 : Iqq) : List AB := [.cells 28 ((cBx a1).map .p), yT v1 v2, .cells 83 [sp v3 2 0, .sl 3 v4 1 0 v5, .sl 1 v1 7 0 v6, ls 1 Zc a3, ls 1 eI64 a4, i6 a5, i6 v7, vb v8], yU v4 v9]
abbrev PY (v1 : Nat) (v2 : Tqq) (x8_0 : Bool) (x8_1 x8_2 v6 : Nat) (x8_3 : Int) (x8_4 : Bool) (x8_5 : Iqq) (x5 : ThingD) : List AB := [.cells 28 ((cBx a1).map .p), yT v1 v2, .cells 83 [sp x8_0 2 0, .sl 3 x8_1 1 0 x8_2, (.sl 1 v1 7 0 (Int.toNat (w6 (((v6 : Nat) : Int) - 1)))), ls 1 Zc a3, ls 1 eI64 a4, i6 a5, i6 x8_3, vb x8_4], yU x8_1 x8_5, .row 28 4 0 (ra cBx []), .cells 77 ((Za x5).map .p)]
abbrev Kv (x9_0 : Nat) (x9_2 : Tqq) (x8_0 : Bool) (x8_1 x8_2 v1 v6 : Nat) (x8_3 : Int) (x8_4 : Bool) (x8_5 : Iqq) (x5 : ThingD) : List AB := [.cells 28 ((cBx a1).map .p), yT x9_0 x9_2, .cells 83 [sp x8_0 2 0, .sl 3 x8_1 1 0 x8_2, (.sl 1 v1 7 0 (Int.toNat (w6 (((v6 : Nat) : Int) - 1)))), ls 1 Zc a3, ls 1 eI64 a4, i6 a5, i6 x8_3, vb x8_4], yU x8_1 x8_5, .row 28 4 0 (ra cBx ([])), .cells 77 ((Za x5).map .p), .cells 77 ((Za x5).map .p), yT0]
abbrev ZM (v1 : Nat) (v2 : Tqq) (v3 : Bool) (v4 v5 v6 : Nat) (v7 : Int) (v8 : Bool) (v9 : Iqq) (x5 : ThingD) : List AB := [.cells 28 ((cBx a1).map .p), yT v1 v2, .cells 83 [sp v3 2 0, .sl 3 v4 1 0 v5, (.sl 1 v1 7 0 (Int.toNat (w6 (((v6 : Nat) : Int) - 1)))), ls 1 Zc a3, ls 1 eI64 a4, i6 a5, i6 v7, vb v8], yU v4 v9, .row 28 4 0 (ra cBx []), .cells 77 ((Za x5).map .p)]
abbrev Uk (v1 : Nat) (v2 : Tqq) (x10_0 : Bool) (x10_1 v5 v6 : Nat) (x5 : ThingD) (x10_2 : Iqq) : List AB := [.cells 28 ((cBx a1).map .p), yT v1 v2, .cells 83 [sp x10_0 2 0, (.sl 3 x10_1 1 0 (v5 + 1)), (.sl 1 v1 7 0 (Int.toNat (w6 (((v6 : Nat) : Int) - 1)))), ls 1 Zc a3, ls 1 eI64 a4, i6 a5, i6 x5.depth, vb true], yU x10_1 x10_2, .row 28 4 0 (ra cBx []), .cells 77 ((Za x5).map .p), .row 5 1 0 [[vi .u8 10]]]
abbrev Va (x12_0 : Nat) (x12_2 : Tqq) (v3 : Bool) (v4 v5 v1 v6 : Nat) (v7 : Int) (v8 : Bool) (v9 : Iqq) (x5 : ThingD) : List AB := [.cells 28 ((cBx a1).map .p), yT x12_0 x12_2, .cells 83 [sp v3 2 0, .sl 3 v4 1 0 v5, (.sl 1 v1 7 0 (Int.toNat (w6 (((v6 : Nat) : Int) - 1)))), ls 1 Zc a3, ls 1 eI64 a4, i6 a5, i6 v7, vb v8], yU v4 v9, .row 28 4 0 (ra cBx ([])), .cells 77 ((Za x5).map .p), .cells 77 ((Za x5).map .p), yT0]
theorem Fu (v1 : Nat) (v2 : Tqq) (v3 : Bool) (v4 v5 v6 : Nat) (v7 : Int) (v8 : Bool) (v9 : Iqq) {r : E_L27_0 ⊕ (Nat × Tqq × Bool × Nat × Nat × Nat × Int × Bool × Iqq)} (h : M4 a3 a4 a5 v1 v2 v3 v4 v5 v6 v7 v8 v9 = some r) : OkR (fun e => M5 a1 a3 a4 a5 e (U8 a1 a3 a4 a5 v1 v2 v3 v4 v5 v6 v7 v8 v9)) (fun s => U8 a1 a3 a4 a5 v1 v2 v3 v4 v5 v6 v7 v8 v9 = U8 a1 a3 a4 a5 s.1 s.2.1 s.2.2.1 s.2.2.2.1 s.2.2.2.2.1 s.2.2.2.2.2.1 s.2.2.2.2.2.2.1 s.2.2.2.2.2.2.2.1 s.2.2.2.2.2.2.2.2) r := by
 unfold M4 at h
 apply bi h <;> intro h1 h
 ·
  apply bn h; intro x2 h2 h
  have q0 := ((G6 a1 v1 v2 v3 v4 v5 v6 a3 a4 a5 v7 v8 v9 h2) : CS prg 49 [.ptr 2 0] (TI a1 a3 a4 a5 v1 v2 v3 v4 v5 v6 v7 v8 v9) = some ((i6 x2), TI a1 a3 a4 a5 v1 v2 v3 v4 v5 v6 v7 v8 v9))
  have k1 := ka [(11, .d true), (16, .r (i6 x2) (TI a1 a3 a4 a5 v1 v2 v3 v4 v5 v6 v7 v8 v9))] (av h1 (apc q0 apn))
  apply bi h <;> intro h3 h
  ·
   apply bn h; intro x4 h4 h
   have q2 := ((ZO h4) : idxA 7 (.sl 1 v1 7 0 v6) (i6 (w6 (((v6 : Nat) : Int) - 1))) = some (.rp 1 v1 7 x4 0))
   have k3 := k1.a [(17, .d true), (29, .v (.rp 1 v1 7 x4 0))] (av h3 (apc q2 apn))
   apply bn h; intro x5 h5 h
   have q4 := ((Z4 rfl h5 rfl) : ldA (TI a1 a3 a4 a5 v1 v2 v3 v4 v5 v6 v7 v8 v9) .true 7 (.rp 1 v1 7 x4 0) = some (.agg ((Za x5).map .p)))
   apply bi h <;> intro h6 h
   ·
    have q5 := ((FY (e := Za) (xs := v2) rfl h6) : slA [.cells 28 ((cBx a1).map .p), yT v1 v2, .cells 83 [sp v3 2 0, .sl 3 v4 1 0 v5, .sl 1 v1 7 0 v6, ls 1 Zc a3, ls 1 eI64 a4, i6 a5, i6 v7, vb v8], yU v4 v9, .row 28 4 0 (ra cBx []), .cells 77 ((Za x5).map .p)] 7 (.sl 1 v1 7 0 v6) (some 0) (some (w6 (((v6 : Nat) : Int) - 1))) = some (.sl 1 v1 7 0 (Int.toNat (w6 (((v6 : Nat) : Int) - 1)))))
    have k6 := k3.a [(30, .v (.agg ((Za x5).map .p))), (42, .v (.sl 1 v1 7 0 (Int.toNat (w6 (((v6 : Nat) : Int) - 1)))))] (apc q4 (apc q5 apn))
    apply bi h <;> intro h7 h
    ·
     apply bn h; intro r8 h8 h
     cases r8 with
     | k0 x8_0 x8_1 x8_2 x8_3 x8_4 x8_5 =>
      apply bn h; intro r9 h9 h
      cases r9 with
      | k0 x9_0 x9_1 x9_2 =>
       rw [← sj h]
       exact rn ([(53, .d true), (59, .r (.tup []) (PY a1 a3 a4 a5 v1 v2 x8_0 x8_1 x8_2 v6 x8_3 x8_4 x8_5 x5)), (127, .r (.sl 1 x9_0 7 0 x9_1) (Kv a1 a3 a4 a5 x9_0 x9_2 x8_0 x8_1 x8_2 v1 v6 x8_3 x8_4 x8_5 x5)), (6000, .d true)] ++ kH k6) (k6.b (av h7 (apc ((G8 x5 a1 v1 v2 v3 v4 v5 (Int.toNat (w6 (((v6 : Nat) : Int) - 1))) a3 a4 a5 v7 v8 v9 h8) : CS prg 50 [.ptr 2 0, vs x5.text, i6 x5.depth] (ZM a1 a3 a4 a5 v1 v2 v3 v4 v5 v6 v7 v8 v9 x5) = some ((.tup []), PY a1 a3 a4 a5 v1 v2 x8_0 x8_1 x8_2 v6 x8_3 x8_4 x8_5 x5)) (apc ((Qs v1 (Int.toNat (w6 (((v6 : Nat) : Int) - 1))) x5 x5.depth x5.way a1 v2 x8_0 x8_1 x8_2 (Int.toNat (w6 (((v6 : Nat) : Int) - 1))) a3 a4 a5 x8_3 x8_4 x8_5 0 ([]) x5 h9) : CS prg 55 [.ptr 2 0, (.sl 1 v1 7 0 (Int.toNat (w6 (((v6 : Nat) : Int) - 1)))), (.agg ((Za x5).map .p)), i6 x5.depth, i6 x5.way] (PY a1 a3 a4 a5 v1 v2 x8_0 x8_1 x8_2 v6 x8_3 x8_4 x8_5 x5) = some ((.sl 1 x9_0 7 0 x9_1), Kv a1 a3 a4 a5 x9_0 x9_2 x8_0 x8_1 x8_2 v1 v6 x8_3 x8_4 x8_5 x5)) (apc (ZZ a1 a3 a4 a5 x9_0 x9_2 x8_0 x8_1 x8_2 x9_1 x8_3 x8_4 x8_5) apn)))))
    ·
     apply bi h <;> intro h8 h
     ·
      have k7 := k6.a [(53, .d false), (61, .d true)] (av h7 (av h8 apn))
      apply bi h <;> intro h9 h
      ·
       apply bn h; intro r10 h10 h
       cases r10 with
       | k0 x10_0 x10_1 x10_2 =>
        rw [← sj h]
        exact rn ([(63, .d true), (66, .r (.tup []) (Uk a1 a3 a4 a5 v1 v2 x10_0 x10_1 v5 v6 x5 x10_2)), (6000, .d true)] ++ kH k7) (k7.b (av h9 (apc ((Ko x5 a1 v1 v2 v3 v4 v5 (Int.toNat (w6 (((v6 : Nat) : Int) - 1))) a3 a4 a5 v7 v8 v9 h10) : CS prg 51 [.ptr 2 0, i6 x5.depth] (ZM a1 a3 a4 a5 v1 v2 v3 v4 v5 v6 v7 v8 v9 x5) = some ((.tup []), Uk a1 a3 a4 a5 v1 v2 x10_0 x10_1 v5 v6 x5 x10_2)) (apc (ZZ a1 a3 a4 a5 v1 v2 x10_0 x10_1 (v5 + 1) (Int.toNat (w6 (((v6 : Nat) : Int) - 1))) x5.depth true x10_2) apn))))
      ·
       apply bn h; intro x10 h10 h
       apply bn h; intro r11 h11 h
       cases r11 with
       | k0 x11_0 x11_1 x11_2 x11_3 =>
        apply bn h; intro r12 h12 h
        cases r12 with
        | k0 x12_0 x12_1 x12_2 =>
         rw [← sj h]
         exact rn ([(63, .d false), (73, .v (vs x10)), (74, .r (.tup [i6 x11_0, (.p (.val .nilIface))]) [.cells 28 ((cBx a1).map .p), yT v1 v2, .cells 83 [sp x11_1 2 0, (.sl 3 x11_2 1 0 (v5 + (Zk x10).length)), (.sl 1 v1 7 0 (Int.toNat (w6 (((v6 : Nat) : Int) - 1)))), ls 1 Zc a3, ls 1 eI64 a4, i6 a5, i6 v7, vb v8], yU x11_2 x11_3, .row 28 4 0 (ra cBx []), .cells 77 ((Za x5).map .p)]), (127, .r (.sl 1 x12_0 7 0 x12_1) [.cells 28 ((cBx a1).map .p), yT x12_0 x12_2, .cells 83 [sp x11_1 2 0, (.sl 3 x11_2 1 0 (v5 + (Zk x10).length)), (.sl 1 v1 7 0 (Int.toNat (w6 (((v6 : Nat) : Int) - 1)))), ls 1 Zc a3, ls 1 eI64 a4, i6 a5, (i6 (w6 (v7 + x5.n))), vb v8], yU x11_2 x11_3, .row 28 4 0 (ra cBx ([])), .cells 77 ((Za x5).map .p), .cells 77 ((Za x5).map .p), yT0]), (6000, .d true)] ++ kH k7) (k7.b (av h9 (apc (((F3 (⟨([32] : List UInt8).toArray⟩ : ByteArray) x5.n h10).cp rfl _) : CP prg 53 [(vs (⟨([32] : List UInt8).toArray⟩ : ByteArray)), i6 x5.n] (ZM a1 a3 a4 a5 v1 v2 v3 v4 v5 v6 v7 v8 v9 x5) = some (vs x10)) (apc ((Kc x10 a1 v1 v2 v3 v4 v5 (Int.toNat (w6 (((v6 : Nat) : Int) - 1))) a3 a4 a5 v7 v8 v9 x5 h11) : CS prg 52 [.ptr 2 0, vs x10] (ZM a1 a3 a4 a5 v1 v2 v3 v4 v5 v6 v7 v8 v9 x5) = some ((.tup [i6 x11_0, (.p (.val .nilIface))]), [.cells 28 ((cBx a1).map .p), yT v1 v2, .cells 83 [sp x11_1 2 0, (.sl 3 x11_2 1 0 (v5 + (Zk x10).length)), (.sl 1 v1 7 0 (Int.toNat (w6 (((v6 : Nat) : Int) - 1)))), ls 1 Zc a3, ls 1 eI64 a4, i6 a5, i6 v7, vb v8], yU x11_2 x11_3, .row 28 4 0 (ra cBx []), .cells 77 ((Za x5).map .p)])) (apc ((Qs v1 (Int.toNat (w6 (((v6 : Nat) : Int) - 1))) x5 x5.depth x5.way a1 v2 x11_1 x11_2 (v5 + (Zk x10).length) (Int.toNat (w6 (((v6 : Nat) : Int) - 1))) a3 a4 a5 (w6 (v7 + x5.n)) v8 x11_3 0 ([]) x5 h12) : CS prg 55 [.ptr 2 0, (.sl 1 v1 7 0 (Int.toNat (w6 (((v6 : Nat) : Int) - 1)))), (.agg ((Za x5).map .p)), i6 x5.depth, i6 x5.way] [.cells 28 ((cBx a1).map .p), yT v1 v2, .cells 83 [sp x11_1 2 0, (.sl 3 x11_2 1 0 (v5 + (Zk x10).length)), (.sl 1 v1 7 0 (Int.toNat (w6 (((v6 : Nat) : Int) - 1)))), ls 1 Zc a3, ls 1 eI64 a4, i6 a5, (i6 (w6 (v7 + x5.n))), vb v8], yU x11_2 x11_3, .row 28 4 0 (ra cBx []), .cells 77 ((Za x5).map .p)] = some ((.sl 1 x12_0 7 0 x12_1), [.cells 28 ((cBx a1).map .p), yT x12_0 x12_2, .cells 83 [sp x11_1 2 0, (.sl 3 x11_2 1 0 (v5 + (Zk x10).length)), (.sl 1 v1 7 0 (Int.toNat (w6 (((v6 : Nat) : Int) - 1)))), ls 1 Zc a3, ls 1 eI64 a4, i6 a5, (i6 (w6 (v7 + x5.n))), vb v8], yU x11_2 x11_3, .row 28 4 0 (ra cBx ([])), .cells 77 ((Za x5).map .p), .cells 77 ((Za x5).map .p), yT0])) (apc (ZZ a1 a3 a4 a5 x12_0 x12_2 x11_1 x11_2 (v5 + (Zk x10).length) x12_1 (w6 (v7 + x5.n)) v8 x11_3) apn))))))
     ·
      have k8 := k6.a [(53, .d false), (61, .d false)] (av h7 (av h8 apn))
      apply bi h <;> intro h9 h
      ·
       apply bn h; intro r10 h10 h
       cases r10 with
       | k0 x10_0 x10_1 x10_2 =>
        apply bn h; intro r11 h11 h
        cases r11 with
        | k0 x11_0 x11_1 x11_2 =>
         rw [← sj h]
         exact rn ([(86, .d true), (89, .r (.tup []) (Uk a1 a3 a4 a5 v1 v2 x10_0 x10_1 v5 v6 x5 x10_2)), (127, .r (.sl 1 x11_0 7 0 x11_1) [.cells 28 ((cBx a1).map .p), yT x11_0 x11_2, .cells 83 [sp x10_0 2 0, (.sl 3 x10_1 1 0 (v5 + 1)), (.sl 1 v1 7 0 (Int.toNat (w6 (((v6 : Nat) : Int) - 1)))), ls 1 Zc a3, ls 1 eI64 a4, i6 a5, i6 x5.depth, vb true], yU x10_1 x10_2, .row 28 4 0 (ra cBx ([])), .cells 77 ((Za x5).map .p), .row 5 1 0 [[vi .u8 10]], .cells 77 ((Za x5).map .p), yT0]), (6000, .d true)] ++ kH k8) (k8.b (av h9 (apc ((Ko x5 a1 v1 v2 v3 v4 v5 (Int.toNat (w6 (((v6 : Nat) : Int) - 1))) a3 a4 a5 v7 v8 v9 h10) : CS prg 51 [.ptr 2 0, i6 x5.depth] (ZM a1 a3 a4 a5 v1 v2 v3 v4 v5 v6 v7 v8 v9 x5) = some ((.tup []), Uk a1 a3 a4 a5 v1 v2 x10_0 x10_1 v5 v6 x5 x10_2)) (apc ((HC v1 (Int.toNat (w6 (((v6 : Nat) : Int) - 1))) x5 x5.depth x5.way a1 v2 x10_0 x10_1 (v5 + 1) (Int.toNat (w6 (((v6 : Nat) : Int) - 1))) a3 a4 a5 x5.depth x10_2 0 ([]) x5 0 10 h11) : CS prg 55 [.ptr 2 0, (.sl 1 v1 7 0 (Int.toNat (w6 (((v6 : Nat) : Int) - 1)))), (.agg ((Za x5).map .p)), i6 x5.depth, i6 x5.way] (Uk a1 a3 a4 a5 v1 v2 x10_0 x10_1 v5 v6 x5 x10_2) = some ((.sl 1 x11_0 7 0 x11_1), [.cells 28 ((cBx a1).map .p), yT x11_0 x11_2, .cells 83 [sp x10_0 2 0, (.sl 3 x10_1 1 0 (v5 + 1)), (.sl 1 v1 7 0 (Int.toNat (w6 (((v6 : Nat) : Int) - 1)))), ls 1 Zc a3, ls 1 eI64 a4, i6 a5, i6 x5.depth, vb true], yU x10_1 x10_2, .row 28 4 0 (ra cBx ([])), .cells 77 ((Za x5).map .p), .row 5 1 0 [[vi .u8 10]], .cells 77 ((Za x5).map .p), yT0])) (apc (ZZ a1 a3 a4 a5 x11_0 x11_2 x10_0 x10_1 (v5 + 1) x11_1 x5.depth true x10_2) apn)))))
      ·
       apply bi h <;> intro h10 h
       ·
        have k9 := k8.a [(86, .d false), (91, .d true)] (av h9 (av h10 apn))
        apply bi h <;> intro h11 h
        ·
         apply bn h; intro r12 h12 h
         cases r12 with
         | k0 x12_0 x12_1 x12_2 =>
          rw [← sj h]
          exact rn ([(94, .d true), (127, .r (.sl 1 x12_0 7 0 x12_1) (Va a1 a3 a4 a5 x12_0 x12_2 v3 v4 v5 v1 v6 v7 v8 v9 x5)), (6000, .d true)] ++ kH k9) (k9.b (av h11 (apc ((Qs v1 (Int.toNat (w6 (((v6 : Nat) : Int) - 1))) x5 x5.depth 1 a1 v2 v3 v4 v5 (Int.toNat (w6 (((v6 : Nat) : Int) - 1))) a3 a4 a5 v7 v8 v9 0 ([]) x5 h12) : CS prg 55 [.ptr 2 0, (.sl 1 v1 7 0 (Int.toNat (w6 (((v6 : Nat) : Int) - 1)))), (.agg ((Za x5).map .p)), i6 x5.depth, i6 1] (ZM a1 a3 a4 a5 v1 v2 v3 v4 v5 v6 v7 v8 v9 x5) = some ((.sl 1 x12_0 7 0 x12_1), Va a1 a3 a4 a5 x12_0 x12_2 v3 v4 v5 v1 v6 v7 v8 v9 x5)) (apc (ZZ a1 a3 a4 a5 x12_0 x12_2 v3 v4 v5 x12_1 v7 v8 v9) apn))))
        ·
         apply bn h; intro x12 h12 h
         have k10 := k9.a [(94, .d false), (102, .v (.ro [.val (.bool x12)]))] (av h11 (apc (ig Zc 1 .i64 h12) apn))
         apply bi h <;> intro h13 h
         ·
          apply bn h; intro r14 h14 h
          cases r14 with
          | k0 x14_0 x14_1 x14_2 =>
           rw [← sj h]
           exact rn ([(103, .d true), (127, .r (.sl 1 x14_0 7 0 x14_1) [.cells 28 ((cBx a1).map .p), yT x14_0 x14_2, .cells 83 [sp v3 2 0, .sl 3 v4 1 0 v5, (.sl 1 v1 7 0 (Int.toNat (w6 (((v6 : Nat) : Int) - 1)))), ls 1 Zc a3, ls 1 eI64 a4, i6 a5, i6 v7, vb v8], yU v4 v9, .row 28 4 0 (ra cBx ([])), .cells 77 ((Za x5).map .p), .cells 77 ((Za x5).map .p), yT0]), (6000, .d true)] ++ kH k10) (k10.b (av h13 (apc ((Qs v1 (Int.toNat (w6 (((v6 : Nat) : Int) - 1))) x5 x5.depth 0 a1 v2 v3 v4 v5 (Int.toNat (w6 (((v6 : Nat) : Int) - 1))) a3 a4 a5 v7 v8 v9 0 ([]) x5 h14) : CS prg 55 [.ptr 2 0, (.sl 1 v1 7 0 (Int.toNat (w6 (((v6 : Nat) : Int) - 1)))), (.agg ((Za x5).map .p)), i6 x5.depth, i6 0] (ZM a1 a3 a4 a5 v1 v2 v3 v4 v5 v6 v7 v8 v9 x5) = some ((.sl 1 x14_0 7 0 x14_1), [.cells 28 ((cBx a1).map .p), yT x14_0 x14_2, .cells 83 [sp v3 2 0, .sl 3 v4 1 0 v5, (.sl 1 v1 7 0 (Int.toNat (w6 (((v6 : Nat) : Int) - 1)))), ls 1 Zc a3, ls 1 eI64 a4, i6 a5, i6 v7, vb v8], yU v4 v9, .row 28 4 0 (ra cBx ([])), .cells 77 ((Za x5).map .p), .cells 77 ((Za x5).map .p), yT0])) (apc (ZZ a1 a3 a4 a5 x14_0 x14_2 v3 v4 v5 x14_1 v7 v8 v9) apn))))
         ·
          apply bn h; intro r14 h14 h
          cases r14 with
          | k0 x14_0 x14_1 x14_2 x14_3 x14_4 x14_5 x14_6 x14_7 x14_8 x14_9 x14_10 x14_11 x14_12 =>
           apply bi h <;> intro h15 h
           ·
            apply bn h; intro r16 h16 h
            cases r16 with
            | k0 x16_0 x16_1 x16_2 =>
             rw [← sj h]
             exact rn ([(103, .d false), (108, .r (vb true) [.cells 28 ((cBx a1).map .p), yT v1 v2, .cells 83 [sp v3 2 0, .sl 3 v4 1 0 v5, (.sl 1 v1 7 0 (Int.toNat (w6 (((v6 : Nat) : Int) - 1)))), ls 1 Zc a3, ls 1 eI64 a4, i6 a5, i6 v7, vb v8], yU v4 v9, .row 28 4 0 (ra cBx ([])), .cells 77 ((Za x5).map .p), .cells 73 [.ptr 2 0], .cells 77 ((Za x5).map .p), .cells 77 ((Za x5).map .p), yT 0 x14_1, yT x14_2 x14_3, yT 0 x14_1, .cells 78 [.sl 10 x14_2 7 0 x14_4], .cells 3 [i6 x14_5], .row 28 4 0 (ra cBx []), .cells 77 [i6 x14_6, vs x14_7, i6 x14_8, (.p (.lst 4 (Zb x14_9))), i6 x14_10, i6 x14_11, i6 x14_12], .row 28 4 0 (ra cBx []), .cells 77 [i6 x14_6, vs x14_7, i6 x14_8, (.p (.lst 4 (Zb x14_9))), i6 x14_10, i6 x14_11, i6 x14_12], .row 28 4 0 (ra cBx []), .cells 77 [i6 x14_6, vs x14_7, i6 x14_8, (.p (.lst 4 (Zb x14_9))), i6 x14_10, i6 x14_11, i6 x14_12]]), (127, .r (.sl 1 x16_0 7 0 x16_1) [.cells 28 ((cBx a1).map .p), yT x16_0 x16_2, .cells 83 [sp v3 2 0, .sl 3 v4 1 0 v5, (.sl 1 v1 7 0 (Int.toNat (w6 (((v6 : Nat) : Int) - 1)))), ls 1 Zc a3, ls 1 eI64 a4, i6 a5, i6 v7, vb v8], yU v4 v9, .row 28 4 0 (ra cBx ([])), .cells 77 ((Za x5).map .p), .cells 73 [.ptr 2 0], .cells 77 ((Za x5).map .p), .cells 77 ((Za x5).map .p), yT 0 x14_1, yT x14_2 x14_3, yT 0 x14_1, .cells 78 [.sl 10 x14_2 7 0 x14_4], .cells 3 [i6 x14_5], .row 28 4 0 (ra cBx ([])), .cells 77 [i6 x14_6, vs x14_7, i6 x14_8, (.p (.lst 4 (Zb x14_9))), i6 x14_10, i6 x14_11, i6 x14_12], .row 28 4 0 (ra cBx ([])), .cells 77 [i6 x14_6, vs x14_7, i6 x14_8, (.p (.lst 4 (Zb x14_9))), i6 x14_10, i6 x14_11, i6 x14_12], .row 28 4 0 (ra cBx ([])), .cells 77 [i6 x14_6, vs x14_7, i6 x14_8, (.p (.lst 4 (Zb x14_9))), i6 x14_10, i6 x14_11, i6 x14_12], .cells 77 ((Za x5).map .p), yT0]), (6000, .d true)] ++ kH k10) (k10.b (av h13 (apc (((Xw x5 a1 v1 v2 v3 v4 v5 (Int.toNat (w6 (((v6 : Nat) : Int) - 1))) a3 a4 a5 v7 v8 v9 h14).trans (congrArg (fun z => some (vb z, ([.cells 28 ((cBx a1).map .p), yT v1 v2, .cells 83 [sp v3 2 0, .sl 3 v4 1 0 v5, (.sl 1 v1 7 0 (Int.toNat (w6 (((v6 : Nat) : Int) - 1)))), ls 1 Zc a3, ls 1 eI64 a4, i6 a5, i6 v7, vb v8], yU v4 v9, .row 28 4 0 (ra cBx ([])), .cells 77 ((Za x5).map .p), .cells 73 [.ptr 2 0], .cells 77 ((Za x5).map .p), .cells 77 ((Za x5).map .p), yT 0 x14_1, yT x14_2 x14_3, yT 0 x14_1, .cells 78 [.sl 10 x14_2 7 0 x14_4], .cells 3 [i6 x14_5], .row 28 4 0 (ra cBx []), .cells 77 [i6 x14_6, vs x14_7, i6 x14_8, (.p (.lst 4 (Zb x14_9))), i6 x14_10, i6 x14_11, i6 x14_12], .row 28 4 0 (ra cBx []), .cells 77 [i6 x14_6, vs x14_7, i6 x14_8, (.p (.lst 4 (Zb x14_9))), i6 x14_10, i6 x14_11, i6 x14_12], .row 28 4 0 (ra cBx []), .cells 77 [i6 x14_6, vs x14_7, i6 x14_8, (.p (.lst 4 (Zb x14_9))), i6 x14_10, i6 x14_11, i6 x14_12]] : List AB))) h15)) : CS prg 54 [.ptr 2 0, (.agg ((Za x5).map .p))] (ZM a1 a3 a4 a5 v1 v2 v3 v4 v5 v6 v7 v8 v9 x5) = some (vb true, [.cells 28 ((cBx a1).map .p), yT v1 v2, .cells 83 [sp v3 2 0, .sl 3 v4 1 0 v5, (.sl 1 v1 7 0 (Int.toNat (w6 (((v6 : Nat) : Int) - 1)))), ls 1 Zc a3, ls 1 eI64 a4, i6 a5, i6 v7, vb v8], yU v4 v9, .row 28 4 0 (ra cBx ([])), .cells 77 ((Za x5).map .p), .cells 73 [.ptr 2 0], .cells 77 ((Za x5).map .p), .cells 77 ((Za x5).map .p), yT 0 x14_1, yT x14_2 x14_3, yT 0 x14_1, .cells 78 [.sl 10 x14_2 7 0 x14_4], .cells 3 [i6 x14_5], .row 28 4 0 (ra cBx []), .cells 77 [i6 x14_6, vs x14_7, i6 x14_8, (.p (.lst 4 (Zb x14_9))), i6 x14_10, i6 x14_11, i6 x14_12], .row 28 4 0 (ra cBx []), .cells 77 [i6 x14_6, vs x14_7, i6 x14_8, (.p (.lst 4 (Zb x14_9))), i6 x14_10, i6 x14_11, i6 x14_12], .row 28 4 0 (ra cBx []), .cells 77 [i6 x14_6, vs x14_7, i6 x14_8, (.p (.lst 4 (Zb x14_9))), i6 x14_10, i6 x14_11, i6 x14_12]])) (apc ((Nz v1 (Int.toNat (w6 (((v6 : Nat) : Int) - 1))) x5 x5.depth 1 a1 v2 v3 v4 v5 (Int.toNat (w6 (((v6 : Nat) : Int) - 1))) a3 a4 a5 v7 v8 v9 0 ([]) x5 x5 x5 0 x14_1 x14_2 x14_3 0 x14_1 x14_4 x14_5 0 ([]) (⟨x14_6, x14_7, x14_8, x14_9, x14_10, x14_11, x14_12⟩ : ThingD) 0 ([]) (⟨x14_6, x14_7, x14_8, x14_9, x14_10, x14_11, x14_12⟩ : ThingD) 0 ([]) (⟨x14_6, x14_7, x14_8, x14_9, x14_10, x14_11, x14_12⟩ : ThingD) h16) : CS prg 55 [.ptr 2 0, (.sl 1 v1 7 0 (Int.toNat (w6 (((v6 : Nat) : Int) - 1)))), (.agg ((Za x5).map .p)), i6 x5.depth, i6 1] [.cells 28 ((cBx a1).map .p), yT v1 v2, .cells 83 [sp v3 2 0, .sl 3 v4 1 0 v5, (.sl 1 v1 7 0 (Int.toNat (w6 (((v6 : Nat) : Int) - 1)))), ls 1 Zc a3, ls 1 eI64 a4, i6 a5, i6 v7, vb v8], yU v4 v9, .row 28 4 0 (ra cBx ([])), .cells 77 ((Za x5).map .p), .cells 73 [.ptr 2 0], .cells 77 ((Za x5).map .p), .cells 77 ((Za x5).map .p), yT 0 x14_1, yT x14_2 x14_3, yT 0 x14_1, .cells 78 [.sl 10 x14_2 7 0 x14_4], .cells 3 [i6 x14_5], .row 28 4 0 (ra cBx []), .cells 77 [i6 x14_6, vs x14_7, i6 x14_8, (.p (.lst 4 (Zb x14_9))), i6 x14_10, i6 x14_11, i6 x14_12], .row 28 4 0 (ra cBx []), .cells 77 [i6 x14_6, vs x14_7, i6 x14_8, (.p (.lst 4 (Zb x14_9))), i6 x14_10, i6 x14_11, i6 x14_12], .row 28 4 0 (ra cBx []), .cells 77 [i6 x14_6, vs x14_7, i6 x14_8, (.p (.lst 4 (Zb x14_9))), i6 x14_10, i6 x14_11, i6 x14_12]] = some ((.sl 1 x16_0 7 0 x16_1), [.cells 28 ((cBx a1).map .p), yT x16_0 x16_2, .cells 83 [sp v3 2 0, .sl 3 v4 1 0 v5, (.sl 1 v1 7 0 (Int.toNat (w6 (((v6 : Nat) : Int) - 1)))), ls 1 Zc a3, ls 1 eI64 a4, i6 a5, i6 v7, vb v8], yU v4 v9, .row 28 4 0 (ra cBx ([])), .cells 77 ((Za x5).map .p), .cells 73 [.ptr 2 0], .cells 77 ((Za x5).map .p), .cells 77 ((Za x5).map .p), yT 0 x14_1, yT x14_2 x14_3, yT 0 x14_1, .cells 78 [.sl 10 x14_2 7 0 x14_4], .cells 3 [i6 x14_5], .row 28 4 0 (ra cBx ([])), .cells 77 [i6 x14_6, vs x14_7, i6 x14_8, (.p (.lst 4 (Zb x14_9))), i6 x14_10, i6 x14_11, i6 x14_12], .row 28 4 0 (ra cBx ([])), .cells 77 [i6 x14_6, vs x14_7, i6 x14_8, (.p (.lst 4 (Zb x14_9))), i6 x14_10, i6 x14_11, i6 x14_12], .row 28 4 0 (ra cBx ([])), .cells 77 [i6 x14_6, vs x14_7, i6 x14_8, (.p (.lst 4 (Zb x14_9))), i6 x14_10, i6 x14_11, i6 x14_12], .cells 77 ((Za x5).map .p), yT0])) (apc (ZZ a1 a3 a4 a5 x16_0 x16_2 v3 v4 v5 x16_1 v7 v8 v9) apn)))))
           ·
            apply bn h; intro r16 h16 h
            cases r16 with
            | k0 x16_0 x16_1 x16_2 =>
             rw [← sj h]
             exact rn ([(103, .d false), (108, .r (vb false) [.cells 28 ((cBx a1).map .p), yT v1 v2, .cells 83 [sp v3 2 0, .sl 3 v4 1 0 v5, (.sl 1 v1 7 0 (Int.toNat (w6 (((v6 : Nat) : Int) - 1)))), ls 1 Zc a3, ls 1 eI64 a4, i6 a5, i6 v7, vb v8], yU v4 v9, .row 28 4 0 (ra cBx ([])), .cells 77 ((Za x5).map .p), .cells 73 [.ptr 2 0], .cells 77 ((Za x5).map .p), .cells 77 ((Za x5).map .p), yT 0 x14_1, yT x14_2 x14_3, yT 0 x14_1, .cells 78 [.sl 10 x14_2 7 0 x14_4], .cells 3 [i6 x14_5], .row 28 4 0 (ra cBx []), .cells 77 [i6 x14_6, vs x14_7, i6 x14_8, (.p (.lst 4 (Zb x14_9))), i6 x14_10, i6 x14_11, i6 x14_12], .row 28 4 0 (ra cBx []), .cells 77 [i6 x14_6, vs x14_7, i6 x14_8, (.p (.lst 4 (Zb x14_9))), i6 x14_10, i6 x14_11, i6 x14_12], .row 28 4 0 (ra cBx []), .cells 77 [i6 x14_6, vs x14_7, i6 x14_8, (.p (.lst 4 (Zb x14_9))), i6 x14_10, i6 x14_11, i6 x14_12]]), (127, .r (.sl 1 x16_0 7 0 x16_1) [.cells 28 ((cBx a1).map .p), yT x16_0 x16_2, .cells 83 [sp v3 2 0, .sl 3 v4 1 0 v5, (.sl 1 v1 7 0 (Int.toNat (w6 (((v6 : Nat) : Int) - 1)))), ls 1 Zc a3, ls 1 eI64 a4, i6 a5, i6 v7, vb v8], yU v4 v9, .row 28 4 0 (ra cBx ([])), .cells 77 ((Za x5).map .p), .cells 73 [.ptr 2 0], .cells 77 ((Za x5).map .p), .cells 77 ((Za x5).map .p), yT 0 x14_1, yT x14_2 x14_3, yT 0 x14_1, .cells 78 [.sl 10 x14_2 7 0 x14_4], .cells 3 [i6 x14_5], .row 28 4 0 (ra cBx ([])), .cells 77 [i6 x14_6, vs x14_7, i6 x14_8, (.p (.lst 4 (Zb x14_9))), i6 x14_10, i6 x14_11, i6 x14_12], .row 28 4 0 (ra cBx ([])), .cells 77 [i6 x14_6, vs x14_7, i6 x14_8, (.p (.lst 4 (Zb x14_9))), i6 x14_10, i6 x14_11, i6 x14_12], .row 28 4 0 (ra cBx ([])), .cells 77 [i6 x14_6, vs x14_7, i6 x14_8, (.p (.lst 4 (Zb x14_9))), i6 x14_10, i6 x14_11, i6 x14_12], .cells 77 ((Za x5).map .p), yT0]), (6000, .d true)] ++ kH k10) (k10.b (av h13 (apc (((Xw x5 a1 v1 v2 v3 v4 v5 (Int.toNat (w6 (((v6 : Nat) : Int) - 1))) a3 a4 a5 v7 v8 v9 h14).trans (congrArg (fun z => some (vb z, ([.cells 28 ((cBx a1).map .p), yT v1 v2, .cells 83 [sp v3 2 0, .sl 3 v4 1 0 v5, (.sl 1 v1 7 0 (Int.toNat (w6 (((v6 : Nat) : Int) - 1)))), ls 1 Zc a3, ls 1 eI64 a4, i6 a5, i6 v7, vb v8], yU v4 v9, .row 28 4 0 (ra cBx ([])), .cells 77 ((Za x5).map .p), .cells 73 [.ptr 2 0], .cells 77 ((Za x5).map .p), .cells 77 ((Za x5).map .p), yT 0 x14_1, yT x14_2 x14_3, yT 0 x14_1, .cells 78 [.sl 10 x14_2 7 0 x14_4], .cells 3 [i6 x14_5], .row 28 4 0 (ra cBx []), .cells 77 [i6 x14_6, vs x14_7, i6 x14_8, (.p (.lst 4 (Zb x14_9))), i6 x14_10, i6 x14_11, i6 x14_12], .row 28 4 0 (ra cBx []), .cells 77 [i6 x14_6, vs x14_7, i6 x14_8, (.p (.lst 4 (Zb x14_9))), i6 x14_10, i6 x14_11, i6 x14_12], .row 28 4 0 (ra cBx []), .cells 77 [i6 x14_6, vs x14_7, i6 x14_8, (.p (.lst 4 (Zb x14_9))), i6 x14_10, i6 x14_11, i6 x14_12]] : List AB))) h15)) : CS prg 54 [.ptr 2 0, (.agg ((Za x5).map .p))] (ZM a1 a3 a4 a5 v1 v2 v3 v4 v5 v6 v7 v8 v9 x5) = some (vb false, [.cells 28 ((cBx a1).map .p), yT v1 v2, .cells 83 [sp v3 2 0, .sl 3 v4 1 0 v5, (.sl 1 v1 7 0 (Int.toNat (w6 (((v6 : Nat) : Int) - 1)))), ls 1 Zc a3, ls 1 eI64 a4, i6 a5, i6 v7, vb v8], yU v4 v9, .row 28 4 0 (ra cBx ([])), .cells 77 ((Za x5).map .p), .cells 73 [.ptr 2 0], .cells 77 ((Za x5).map .p), .cells 77 ((Za x5).map .p), yT 0 x14_1, yT x14_2 x14_3, yT 0 x14_1, .cells 78 [.sl 10 x14_2 7 0 x14_4], .cells 3 [i6 x14_5], .row 28 4 0 (ra cBx []), .cells 77 [i6 x14_6, vs x14_7, i6 x14_8, (.p (.lst 4 (Zb x14_9))), i6 x14_10, i6 x14_11, i6 x14_12], .row 28 4 0 (ra cBx []), .cells 77 [i6 x14_6, vs x14_7, i6 x14_8, (.p (.lst 4 (Zb x14_9))), i6 x14_10, i6 x14_11, i6 x14_12], .row 28 4 0 (ra cBx []), .cells 77 [i6 x14_6, vs x14_7, i6 x14_8, (.p (.lst 4 (Zb x14_9))), i6 x14_10, i6 x14_11, i6 x14_12]])) (apc ((Nz v1 (Int.toNat (w6 (((v6 : Nat) : Int) - 1))) x5 x5.depth 0 a1 v2 v3 v4 v5 (Int.toNat (w6 (((v6 : Nat) : Int) - 1))) a3 a4 a5 v7 v8 v9 0 ([]) x5 x5 x5 0 x14_1 x14_2 x14_3 0 x14_1 x14_4 x14_5 0 ([]) (⟨x14_6, x14_7, x14_8, x14_9, x14_10, x14_11, x14_12⟩ : ThingD) 0 ([]) (⟨x14_6, x14_7, x14_8, x14_9, x14_10, x14_11, x14_12⟩ : ThingD) 0 ([]) (⟨x14_6, x14_7, x14_8, x14_9, x14_10, x14_11, x14_12⟩ : ThingD) h16) : CS prg 55 [.ptr 2 0, (.sl 1 v1 7 0 (Int.toNat (w6 (((v6 : Nat) : Int) - 1)))), (.agg ((Za x5).map .p)), i6 x5.depth, i6 0] [.cells 28 ((cBx a1).map .p), yT v1 v2, .cells 83 [sp v3 2 0, .sl 3 v4 1 0 v5, (.sl 1 v1 7 0 (Int.toNat (w6 (((v6 : Nat) : Int) - 1)))), ls 1 Zc a3, ls 1 eI64 a4, i6 a5, i6 v7, vb v8], yU v4 v9, .row 28 4 0 (ra cBx ([])), .cells 77 ((Za x5).map .p), .cells 73 [.ptr 2 0], .cells 77 ((Za x5).map .p), .cells 77 ((Za x5).map .p), yT 0 x14_1, yT x14_2 x14_3, yT 0 x14_1, .cells 78 [.sl 10 x14_2 7 0 x14_4], .cells 3 [i6 x14_5], .row 28 4 0 (ra cBx []), .cells 77 [i6 x14_6, vs x14_7, i6 x14_8, (.p (.lst 4 (Zb x14_9))), i6 x14_10, i6 x14_11, i6 x14_12], .row 28 4 0 (ra cBx []), .cells 77 [i6 x14_6, vs x14_7, i6 x14_8, (.p (.lst 4 (Zb x14_9))), i6 x14_10, i6 x14_11, i6 x14_12], .row 28 4 0 (ra cBx []), .cells 77 [i6 x14_6, vs x14_7, i6 x14_8, (.p (.lst 4 (Zb x14_9))), i6 x14_10, i6 x14_11, i6 x14_12]] = some ((.sl 1 x16_0 7 0 x16_1), [.cells 28 ((cBx a1).map .p), yT x16_0 x16_2, .cells 83 [sp v3 2 0, .sl 3 v4 1 0 v5, (.sl 1 v1 7 0 (Int.toNat (w6 (((v6 : Nat) : Int) - 1)))), ls 1 Zc a3, ls 1 eI64 a4, i6 a5, i6 v7, vb v8], yU v4 v9, .row 28 4 0 (ra cBx ([])), .cells 77 ((Za x5).map .p), .cells 73 [.ptr 2 0], .cells 77 ((Za x5).map .p), .cells 77 ((Za x5).map .p), yT 0 x14_1, yT x14_2 x14_3, yT 0 x14_1, .cells 78 [.sl 10 x14_2 7 0 x14_4], .cells 3 [i6 x14_5], .row 28 4 0 (ra cBx ([])), .cells 77 [i6 x14_6, vs x14_7, i6 x14_8, (.p (.lst 4 (Zb x14_9))), i6 x14_10, i6 x14_11, i6 x14_12], .row 28 4 0 (ra cBx ([])), .cells 77 [i6 x14_6, vs x14_7, i6 x14_8, (.p (.lst 4 (Zb x14_9))), i6 x14_10, i6 x14_11, i6 x14_12], .row 28 4 0 (ra cBx ([])), .cells 77 [i6 x14_6, vs x14_7, i6 x14_8, (.p (.lst 4 (Zb x14_9))), i6 x14_10, i6 x14_11, i6 x14_12], .cells 77 ((Za x5).map .p), yT0])) (apc (ZZ a1 a3 a4 a5 x16_0 x16_2 v3 v4 v5 x16_1 v7 v8 v9) apn)))))
          | k1 x14_0 x14_1 x14_2 x14_3 x14_4 x14_5 =>
           apply bi h <;> intro h15 h
           ·
            apply bn h; intro r16 h16 h
            cases r16 with
            | k0 x16_0 x16_1 x16_2 =>
             rw [← sj h]
             exact rn ([(103, .d false), (108, .r (vb true) [.cells 28 ((cBx a1).map .p), yT v1 v2, .cells 83 [sp v3 2 0, .sl 3 v4 1 0 v5, (.sl 1 v1 7 0 (Int.toNat (w6 (((v6 : Nat) : Int) - 1)))), ls 1 Zc a3, ls 1 eI64 a4, i6 a5, i6 v7, vb v8], yU v4 v9, .row 28 4 0 (ra cBx ([])), .cells 77 ((Za x5).map .p), .cells 73 [.ptr 2 0], .cells 77 ((Za x5).map .p), .cells 77 ((Za x5).map .p), yT 0 x14_1, yT x14_2 x14_3, yT 0 x14_1, .cells 78 [.sl 10 x14_2 7 0 x14_4], .cells 3 [i6 x14_5], .row 28 4 0 (ra cBx []), .cells 77 [i6 0, (vs Eqq), i6 0, n0, i6 0, i6 0, i6 0], .row 28 4 0 (ra cBx []), .cells 77 [i6 0, (vs Eqq), i6 0, n0, i6 0, i6 0, i6 0]]), (127, .r (.sl 1 x16_0 7 0 x16_1) [.cells 28 ((cBx a1).map .p), yT x16_0 x16_2, .cells 83 [sp v3 2 0, .sl 3 v4 1 0 v5, (.sl 1 v1 7 0 (Int.toNat (w6 (((v6 : Nat) : Int) - 1)))), ls 1 Zc a3, ls 1 eI64 a4, i6 a5, i6 v7, vb v8], yU v4 v9, .row 28 4 0 (ra cBx ([])), .cells 77 ((Za x5).map .p), .cells 73 [.ptr 2 0], .cells 77 ((Za x5).map .p), .cells 77 ((Za x5).map .p), yT 0 x14_1, yT x14_2 x14_3, yT 0 x14_1, .cells 78 [.sl 10 x14_2 7 0 x14_4], .cells 3 [i6 x14_5], .row 28 4 0 (ra cBx ([])), .cells 77 [i6 0, (vs Eqq), i6 0, n0, i6 0, i6 0, i6 0], .row 28 4 0 (ra cBx ([])), .cells 77 [i6 0, (vs Eqq), i6 0, n0, i6 0, i6 0, i6 0], .cells 77 ((Za x5).map .p), yT0]), (6000, .d true)] ++ kH k10) (k10.b (av h13 (apc (((Xw x5 a1 v1 v2 v3 v4 v5 (Int.toNat (w6 (((v6 : Nat) : Int) - 1))) a3 a4 a5 v7 v8 v9 h14).trans (congrArg (fun z => some (vb z, ([.cells 28 ((cBx a1).map .p), yT v1 v2, .cells 83 [sp v3 2 0, .sl 3 v4 1 0 v5, (.sl 1 v1 7 0 (Int.toNat (w6 (((v6 : Nat) : Int) - 1)))), ls 1 Zc a3, ls 1 eI64 a4, i6 a5, i6 v7, vb v8], yU v4 v9, .row 28 4 0 (ra cBx ([])), .cells 77 ((Za x5).map .p), .cells 73 [.ptr 2 0], .cells 77 ((Za x5).map .p), .cells 77 ((Za x5).map .p), yT 0 x14_1, yT x14_2 x14_3, yT 0 x14_1, .cells 78 [.sl 10 x14_2 7 0 x14_4], .cells 3 [i6 x14_5], .row 28 4 0 (ra cBx []), .cells 77 [i6 0, (vs Eqq), i6 0, n0, i6 0, i6 0, i6 0], .row 28 4 0 (ra cBx []), .cells 77 [i6 0, (vs Eqq), i6 0, n0, i6 0, i6 0, i6 0]] : List AB))) h15)) : CS prg 54 [.ptr 2 0, (.agg ((Za x5).map .p))] (ZM a1 a3 a4 a5 v1 v2 v3 v4 v5 v6 v7 v8 v9 x5) = some (vb true, [.cells 28 ((cBx a1).map .p), yT v1 v2, .cells 83 [sp v3 2 0, .sl 3 v4 1 0 v5, (.sl 1 v1 7 0 (Int.toNat (w6 (((v6 : Nat) : Int) - 1)))), ls 1 Zc a3, ls 1 eI64 a4, i6 a5, i6 v7, vb v8], yU v4 v9, .row 28 4 0 (ra cBx ([])), .cells 77 ((Za x5).map .p), .cells 73 [.ptr 2 0], .cells 77 ((Za x5).map .p), .cells 77 ((Za x5).map .p), yT 0 x14_1, yT x14_2 x14_3, yT 0 x14_1, .cells 78 [.sl 10 x14_2 7 0 x14_4], .cells 3 [i6 x14_5], .row 28 4 0 (ra cBx []), .cells 77 [i6 0, (vs Eqq), i6 0, n0, i6 0, i6 0, i6 0], .row 28 4 0 (ra cBx []), .cells 77 [i6 0, (vs Eqq), i6 0, n0, i6 0, i6 0, i6 0]])) (apc ((NE v1 (Int.toNat (w6 (((v6 : Nat) : Int) - 1))) x5 x5.depth 1 a1 v2 v3 v4 v5 (Int.toNat (w6 (((v6 : Nat) : Int) - 1))) a3 a4 a5 v7 v8 v9 0 ([]) x5 x5 x5 0 x14_1 x14_2 x14_3 0 x14_1 x14_4 x14_5 0 ([]) 0 Eqq 0 0 0 0 0 ([]) 0 Eqq 0 0 0 0 h16) : CS prg 55 [.ptr 2 0, (.sl 1 v1 7 0 (Int.toNat (w6 (((v6 : Nat) : Int) - 1)))), (.agg ((Za x5).map .p)), i6 x5.depth, i6 1] [.cells 28 ((cBx a1).map .p), yT v1 v2, .cells 83 [sp v3 2 0, .sl 3 v4 1 0 v5, (.sl 1 v1 7 0 (Int.toNat (w6 (((v6 : Nat) : Int) - 1)))), ls 1 Zc a3, ls 1 eI64 a4, i6 a5, i6 v7, vb v8], yU v4 v9, .row 28 4 0 (ra cBx ([])), .cells 77 ((Za x5).map .p), .cells 73 [.ptr 2 0], .cells 77 ((Za x5).map .p), .cells 77 ((Za x5).map .p), yT 0 x14_1, yT x14_2 x14_3, yT 0 x14_1, .cells 78 [.sl 10 x14_2 7 0 x14_4], .cells 3 [i6 x14_5], .row 28 4 0 (ra cBx []), .cells 77 [i6 0, (vs Eqq), i6 0, n0, i6 0, i6 0, i6 0], .row 28 4 0 (ra cBx []), .cells 77 [i6 0, (vs Eqq), i6 0, n0, i6 0, i6 0, i6 0]] = some ((.sl 1 x16_0 7 0 x16_1), [.cells 28 ((cBx a1).map .p), yT x16_0 x16_2, .cells 83 [sp v3 2 0, .sl 3 v4 1 0 v5, (.sl 1 v1 7 0 (Int.toNat (w6 (((v6 : Nat) : Int) - 1)))), ls 1 Zc a3, ls 1 eI64 a4, i6 a5, i6 v7, vb v8], yU v4 v9, .row 28 4 0 (ra cBx ([])), .cells 77 ((Za x5).map .p), .cells 73 [.ptr 2 0], .cells 77 ((Za x5).map .p), .cells 77 ((Za x5).map .p), yT 0 x14_1, yT x14_2 x14_3, yT 0 x14_1, .cells 78 [.sl 10 x14_2 7 0 x14_4], .cells 3 [i6 x14_5], .row 28 4 0 (ra cBx ([])), .cells 77 [i6 0, (vs Eqq), i6 0, n0, i6 0, i6 0, i6 0], .row 28 4 0 (ra cBx ([])), .cells 77 [i6 0, (vs Eqq), i6 0, n0, i6 0, i6 0, i6 0], .cells 77 ((Za x5).map .p), yT0])) (apc (ZZ a1 a3 a4 a5 x16_0 x16_2 v3 v4 v5 x16_1 v7 v8 v9) apn)))))
           ·
            apply bn h; intro r16 h16 h
            cases r16 with
            | k0 x16_0 x16_1 x16_2 =>
             rw [← sj h]
             exact rn ([(103, .d false), (108, .r (vb false) [.cells 28 ((cBx a1).map .p), yT v1 v2, .cells 83 [sp v3 2 0, .sl 3 v4 1 0 v5, (.sl 1 v1 7 0 (Int.toNat (w6 (((v6 : Nat) : Int) - 1)))), ls 1 Zc a3, ls 1 eI64 a4, i6 a5, i6 v7, vb v8], yU v4 v9, .row 28 4 0 (ra cBx ([])), .cells 77 ((Za x5).map .p), .cells 73 [.ptr 2 0], .cells 77 ((Za x5).map .p), .cells 77 ((Za x5).map .p), yT 0 x14_1, yT x14_2 x14_3, yT 0 x14_1, .cells 78 [.sl 10 x14_2 7 0 x14_4], .cells 3 [i6 x14_5], .row 28 4 0 (ra cBx []), .cells 77 [i6 0, (vs Eqq), i6 0, n0, i6 0, i6 0, i6 0], .row 28 4 0 (ra cBx []), .cells 77 [i6 0, (vs Eqq), i6 0, n0, i6 0, i6 0, i6 0]]), (127, .r (.sl 1 x16_0 7 0 x16_1) [.cells 28 ((cBx a1).map .p), yT x16_0 x16_2, .cells 83 [sp v3 2 0, .sl 3 v4 1 0 v5, (.sl 1 v1 7 0 (Int.toNat (w6 (((v6 : Nat) : Int) - 1)))), ls 1 Zc a3, ls 1 eI64 a4, i6 a5, i6 v7, vb v8], yU v4 v9, .row 28 4 0 (ra cBx ([])), .cells 77 ((Za x5).map .p), .cells 73 [.ptr 2 0], .cells 77 ((Za x5).map .p), .cells 77 ((Za x5).map .p), yT 0 x14_1, yT x14_2 x14_3, yT 0 x14_1, .cells 78 [.sl 10 x14_2 7 0 x14_4], .cells 3 [i6 x14_5], .row 28 4 0 (ra cBx ([])), .cells 77 [i6 0, (vs Eqq), i6 0, n0, i6 0, i6 0, i6 0], .row 28 4 0 (ra cBx ([])), .cells 77 [i6 0, (vs Eqq), i6 0, n0, i6 0, i6 0, i6 0], .cells 77 ((Za x5).map .p), yT0]), (6000, .d true)] ++ kH k10) (k10.b (av h13 (apc (((Xw x5 a1 v1 v2 v3 v4 v5 (Int.toNat (w6 (((v6 : Nat) : Int) - 1))) a3 a4 a5 v7 v8 v9 h14).trans (congrArg (fun z => some (vb z, ([.cells 28 ((cBx a1).map .p), yT v1 v2, .cells 83 [sp v3 2 0, .sl 3 v4 1 0 v5, (.sl 1 v1 7 0 (Int.toNat (w6 (((v6 : Nat) : Int) - 1)))), ls 1 Zc a3, ls 1 eI64 a4, i6 a5, i6 v7, vb v8], yU v4 v9, .row 28 4 0 (ra cBx ([])), .cells 77 ((Za x5).map .p), .cells 73 [.ptr 2 0], .cells 77 ((Za x5).map .p), .cells 77 ((Za x5).map .p), yT 0 x14_1, yT x14_2 x14_3, yT 0 x14_1, .cells 78 [.sl 10 x14_2 7 0 x14_4], .cells 3 [i6 x14_5], .row 28 4 0 (ra cBx []), .cells 77 [i6 0, (vs Eqq), i6 0, n0, i6 0, i6 0, i6 0], .row 28 4 0 (ra cBx []), .cells 77 [i6 0, (vs Eqq), i6 0, n0, i6 0, i6 0, i6 0]] : List AB))) h15)) : CS prg 54 [.ptr 2 0, (.agg ((Za x5).map .p))] (ZM a1 a3 a4 a5 v1 v2 v3 v4 v5 v6 v7 v8 v9 x5) = some (vb false, [.cells 28 ((cBx a1).map .p), yT v1 v2, .cells 83 [sp v3 2 0, .sl 3 v4 1 0 v5, (.sl 1 v1 7 0 (Int.toNat (w6 (((v6 : Nat) : Int) - 1)))), ls 1 Zc a3, ls 1 eI64 a4, i6 a5, i6 v7, vb v8], yU v4 v9, .row 28 4 0 (ra cBx ([])), .cells 77 ((Za x5).map .p), .cells 73 [.ptr 2 0], .cells 77 ((Za x5).map .p), .cells 77 ((Za x5).map .p), yT 0 x14_1, yT x14_2 x14_3, yT 0 x14_1, .cells 78 [.sl 10 x14_2 7 0 x14_4], .cells 3 [i6 x14_5], .row 28 4 0 (ra cBx []), .cells 77 [i6 0, (vs Eqq), i6 0, n0, i6 0, i6 0, i6 0], .row 28 4 0 (ra cBx []), .cells 77 [i6 0, (vs Eqq), i6 0, n0, i6 0, i6 0, i6 0]])) (apc ((NE v1 (Int.toNat (w6 (((v6 : Nat) : Int) - 1))) x5 x5.depth 0 a1 v2 v3 v4 v5 (Int.toNat (w6 (((v6 : Nat) : Int) - 1))) a3 a4 a5 v7 v8 v9 0 ([]) x5 x5 x5 0 x14_1 x14_2 x14_3 0 x14_1 x14_4 x14_5 0 ([]) 0 Eqq 0 0 0 0 0 ([]) 0 Eqq 0 0 0 0 h16) : CS prg 55 [.ptr 2 0, (.sl 1 v1 7 0 (Int.toNat (w6 (((v6 : Nat) : Int) - 1)))), (.agg ((Za x5).map .p)), i6 x5.depth, i6 0] [.cells 28 ((cBx a1).map .p), yT v1 v2, .cells 83 [sp v3 2 0, .sl 3 v4 1 0 v5, (.sl 1 v1 7 0 (Int.toNat (w6 (((v6 : Nat) : Int) - 1)))), ls 1 Zc a3, ls 1 eI64 a4, i6 a5, i6 v7, vb v8], yU v4 v9, .row 28 4 0 (ra cBx ([])), .cells 77 ((Za x5).map .p), .cells 73 [.ptr 2 0], .cells 77 ((Za x5).map .p), .cells 77 ((Za x5).map .p), yT 0 x14_1, yT x14_2 x14_3, yT 0 x14_1, .cells 78 [.sl 10 x14_2 7 0 x14_4], .cells 3 [i6 x14_5], .row 28 4 0 (ra cBx []), .cells 77 [i6 0, (vs Eqq), i6 0, n0, i6 0, i6 0, i6 0], .row 28 4 0 (ra cBx []), .cells 77 [i6 0, (vs Eqq), i6 0, n0, i6 0, i6 0, i6 0]] = some ((.sl 1 x16_0 7 0 x16_1), [.cells 28 ((cBx a1).map .p), yT x16_0 x16_2, .cells 83 [sp v3 2 0, .sl 3 v4 1 0 v5, (.sl 1 v1 7 0 (Int.toNat (w6 (((v6 : Nat) : Int) - 1)))), ls 1 Zc a3, ls 1 eI64 a4, i6 a5, i6 v7, vb v8], yU v4 v9, .row 28 4 0 (ra cBx ([])), .cells 77 ((Za x5).map .p), .cells 73 [.ptr 2 0], .cells 77 ((Za x5).map .p), .cells 77 ((Za x5).map .p), yT 0 x14_1, yT x14_2 x14_3, yT 0 x14_1, .cells 78 [.sl 10 x14_2 7 0 x14_4], .cells 3 [i6 x14_5], .row 28 4 0 (ra cBx ([])), .cells 77 [i6 0, (vs Eqq), i6 0, n0, i6 0, i6 0, i6 0], .row 28 4 0 (ra cBx ([])), .cells 77 [i6 0, (vs Eqq), i6 0, n0, i6 0, i6 0, i6 0], .cells 77 ((Za x5).map .p), yT0])) (apc (ZZ a1 a3 a4 a5 x16_0 x16_2 v3 v4 v5 x16_1 v7 v8 v9) apn)))))
          | k2 x14_0 x14_1 x14_2 x14_3 x14_4 x14_5 x14_6 x14_7 x14_8 x14_9 x14_10 x14_11 x14_12 =>
           apply bi h <;> intro h15 h
           ·
            apply bn h; intro r16 h16 h
            cases r16 with
            | k0 x16_0 x16_1 x16_2 =>
             rw [← sj h]
             exact rn ([(103, .d false), (108, .r (vb true) [.cells 28 ((cBx a1).map .p), yT v1 v2, .cells 83 [sp v3 2 0, .sl 3 v4 1 0 v5, (.sl 1 v1 7 0 (Int.toNat (w6 (((v6 : Nat) : Int) - 1)))), ls 1 Zc a3, ls 1 eI64 a4, i6 a5, i6 v7, vb v8], yU v4 v9, .row 28 4 0 (ra cBx ([])), .cells 77 ((Za x5).map .p), .cells 73 [.ptr 2 0], .cells 77 ((Za x5).map .p), .cells 77 ((Za x5).map .p), yT 0 x14_1, yT x14_2 x14_3, yT 0 x14_1, .cells 78 [.sl 10 x14_2 7 0 x14_4], .cells 3 [i6 x14_5], .row 28 4 0 (ra cBx []), .cells 77 [i6 x14_6, vs x14_7, i6 x14_8, (.p (.lst 4 (Zb x14_9))), i6 x14_10, i6 x14_11, i6 x14_12], .row 28 4 0 (ra cBx []), .cells 77 [i6 x14_6, vs x14_7, i6 x14_8, (.p (.lst 4 (Zb x14_9))), i6 x14_10, i6 x14_11, i6 x14_12]]), (127, .r (.sl 1 x16_0 7 0 x16_1) [.cells 28 ((cBx a1).map .p), yT x16_0 x16_2, .cells 83 [sp v3 2 0, .sl 3 v4 1 0 v5, (.sl 1 v1 7 0 (Int.toNat (w6 (((v6 : Nat) : Int) - 1)))), ls 1 Zc a3, ls 1 eI64 a4, i6 a5, i6 v7, vb v8], yU v4 v9, .row 28 4 0 (ra cBx ([])), .cells 77 ((Za x5).map .p), .cells 73 [.ptr 2 0], .cells 77 ((Za x5).map .p), .cells 77 ((Za x5).map .p), yT 0 x14_1, yT x14_2 x14_3, yT 0 x14_1, .cells 78 [.sl 10 x14_2 7 0 x14_4], .cells 3 [i6 x14_5], .row 28 4 0 (ra cBx ([])), .cells 77 [i6 x14_6, vs x14_7, i6 x14_8, (.p (.lst 4 (Zb x14_9))), i6 x14_10, i6 x14_11, i6 x14_12], .row 28 4 0 (ra cBx ([])), .cells 77 [i6 x14_6, vs x14_7, i6 x14_8, (.p (.lst 4 (Zb x14_9))), i6 x14_10, i6 x14_11, i6 x14_12], .cells 77 ((Za x5).map .p), yT0]), (6000, .d true)] ++ kH k10) (k10.b (av h13 (apc (((Xw x5 a1 v1 v2 v3 v4 v5 (Int.toNat (w6 (((v6 : Nat) : Int) - 1))) a3 a4 a5 v7 v8 v9 h14).trans (congrArg (fun z => some (vb z, ([.cells 28 ((cBx a1).map .p), yT v1 v2, .cells 83 [sp v3 2 0, .sl 3 v4 1 0 v5, (.sl 1 v1 7 0 (Int.toNat (w6 (((v6 : Nat) : Int) - 1)))), ls 1 Zc a3, ls 1 eI64 a4, i6 a5, i6 v7, vb v8], yU v4 v9, .row 28 4 0 (ra cBx ([])), .cells 77 ((Za x5).map .p), .cells 73 [.ptr 2 0], .cells 77 ((Za x5).map .p), .cells 77 ((Za x5).map .p), yT 0 x14_1, yT x14_2 x14_3, yT 0 x14_1, .cells 78 [.sl 10 x14_2 7 0 x14_4], .cells 3 [i6 x14_5], .row 28 4 0 (ra cBx []), .cells 77 [i6 x14_6, vs x14_7, i6 x14_8, (.p (.lst 4 (Zb x14_9))), i6 x14_10, i6 x14_11, i6 x14_12], .row 28 4 0 (ra cBx []), .cells 77 [i6 x14_6, vs x14_7, i6 x14_8, (.p (.lst 4 (Zb x14_9))), i6 x14_10, i6 x14_11, i6 x14_12]] : List AB))) h15)) : CS prg 54 [.ptr 2 0, (.agg ((Za x5).map .p))] (ZM a1 a3 a4 a5 v1 v2 v3 v4 v5 v6 v7 v8 v9 x5) = some (vb true, [.cells 28 ((cBx a1).map .p), yT v1 v2, .cells 83 [sp v3 2 0, .sl 3 v4 1 0 v5, (.sl 1 v1 7 0 (Int.toNat (w6 (((v6 : Nat) : Int) - 1)))), ls 1 Zc a3, ls 1 eI64 a4, i6 a5, i6 v7, vb v8], yU v4 v9, .row 28 4 0 (ra cBx ([])), .cells 77 ((Za x5).map .p), .cells 73 [.ptr 2 0], .cells 77 ((Za x5).map .p), .cells 77 ((Za x5).map .p), yT 0 x14_1, yT x14_2 x14_3, yT 0 x14_1, .cells 78 [.sl 10 x14_2 7 0 x14_4], .cells 3 [i6 x14_5], .row 28 4 0 (ra cBx []), .cells 77 [i6 x14_6, vs x14_7, i6 x14_8, (.p (.lst 4 (Zb x14_9))), i6 x14_10, i6 x14_11, i6 x14_12], .row 28 4 0 (ra cBx []), .cells 77 [i6 x14_6, vs x14_7, i6 x14_8, (.p (.lst 4 (Zb x14_9))), i6 x14_10, i6 x14_11, i6 x14_12]])) (apc ((NJ v1 (Int.toNat (w6 (((v6 : Nat) : Int) - 1))) x5 x5.depth 1 a1 v2 v3 v4 v5 (Int.toNat (w6 (((v6 : Nat) : Int) - 1))) a3 a4 a5 v7 v8 v9 0 ([]) x5 x5 x5 0 x14_1 x14_2 x14_3 0 x14_1 x14_4 x14_5 0 ([]) (⟨x14_6, x14_7, x14_8, x14_9, x14_10, x14_11, x14_12⟩ : ThingD) 0 ([]) (⟨x14_6, x14_7, x14_8, x14_9, x14_10, x14_11, x14_12⟩ : ThingD) h16) : CS prg 55 [.ptr 2 0, (.sl 1 v1 7 0 (Int.toNat (w6 (((v6 : Nat) : Int) - 1)))), (.agg ((Za x5).map .p)), i6 x5.depth, i6 1] [.cells 28 ((cBx a1).map .p), yT v1 v2, .cells 83 [sp v3 2 0, .sl 3 v4 1 0 v5, (.sl 1 v1 7 0 (Int.toNat (w6 (((v6 : Nat) : Int) - 1)))), ls 1 Zc a3, ls 1 eI64 a4, i6 a5, i6 v7, vb v8], yU v4 v9, .row 28 4 0 (ra cBx ([])), .cells 77 ((Za x5).map .p), .cells 73 [.ptr 2 0], .cells 77 ((Za x5).map .p), .cells 77 ((Za x5).map .p), yT 0 x14_1, yT x14_2 x14_3, yT 0 x14_1, .cells 78 [.sl 10 x14_2 7 0 x14_4], .cells 3 [i6 x14_5], .row 28 4 0 (ra cBx []), .cells 77 [i6 x14_6, vs x14_7, i6 x14_8, (.p (.lst 4 (Zb x14_9))), i6 x14_10, i6 x14_11, i6 x14_12], .row 28 4 0 (ra cBx []), .cells 77 [i6 x14_6, vs x14_7, i6 x14_8, (.p (.lst 4 (Zb x14_9))), i6 x14_10, i6 x14_11, i6 x14_12]] = some ((.sl 1 x16_0 7 0 x16_1), [.cells 28 ((cBx a1).map .p), yT x16_0 x16_2, .cells 83 [sp v3 2 0, .sl 3 v4 1 0 v5, (.sl 1 v1 7 0 (Int.toNat (w6 (((v6 : Nat) : Int) - 1)))), ls 1 Zc a3, ls 1 eI64 a4, i6 a5, i6 v7, vb v8], yU v4 v9, .row 28 4 0 (ra cBx ([])), .cells 77 ((Za x5).map .p), .cells 73 [.ptr 2 0], .cells 77 ((Za x5).map .p), .cells 77 ((Za x5).map .p), yT 0 x14_1, yT x14_2 x14_3, yT 0 x14_1, .cells 78 [.sl 10 x14_2 7 0 x14_4], .cells 3 [i6 x14_5], .row 28 4 0 (ra cBx ([])), .cells 77 [i6 x14_6, vs x14_7, i6 x14_8, (.p (.lst 4 (Zb x14_9))), i6 x14_10, i6 x14_11, i6 x14_12], .row 28 4 0 (ra cBx ([])), .cells 77 [i6 x14_6, vs x14_7, i6 x14_8, (.p (.lst 4 (Zb x14_9))), i6 x14_10, i6 x14_11, i6 x14_12], .cells 77 ((Za x5).map .p), yT0])) (apc (ZZ a1 a3 a4 a5 x16_0 x16_2 v3 v4 v5 x16_1 v7 v8 v9) apn)))))
           ·
            apply bn h; intro r16 h16 h
            cases r16 with
            | k0 x16_0 x16_1 x16_2 =>
             rw [← sj h]
             exact rn ([(103, .d false), (108, .r (vb false) [.cells 28 ((cBx a1).map .p), yT v1 v2, .cells 83 [sp v3 2 0, .sl 3 v4 1 0 v5, (.sl 1 v1 7 0 (Int.toNat (w6 (((v6 : Nat) : Int) - 1)))), ls 1 Zc a3, ls 1 eI64 a4, i6 a5, i6 v7, vb v8], yU v4 v9, .row 28 4 0 (ra cBx ([])), .cells 77 ((Za x5).map .p), .cells 73 [.ptr 2 0], .cells 77 ((Za x5).map .p), .cells 77 ((Za x5).map .p), yT 0 x14_1, yT x14_2 x14_3, yT 0 x14_1, .cells 78 [.sl 10 x14_2 7 0 x14_4], .cells 3 [i6 x14_5], .row 28 4 0 (ra cBx []), .cells 77 [i6 x14_6, vs x14_7, i6 x14_8, (.p (.lst 4 (Zb x14_9))), i6 x14_10, i6 x14_11, i6 x14_12], .row 28 4 0 (ra cBx []), .cells 77 [i6 x14_6, vs x14_7, i6 x14_8, (.p (.lst 4 (Zb x14_9))), i6 x14_10, i6 x14_11, i6 x14_12]]), (127, .r (.sl 1 x16_0 7 0 x16_1) [.cells 28 ((cBx a1).map .p), yT x16_0 x16_2, .cells 83 [sp v3 2 0, .sl 3 v4 1 0 v5, (.sl 1 v1 7 0 (Int.toNat (w6 (((v6 : Nat) : Int) - 1)))), ls 1 Zc a3, ls 1 eI64 a4, i6 a5, i6 v7, vb v8], yU v4 v9, .row 28 4 0 (ra cBx ([])), .cells 77 ((Za x5).map .p), .cells 73 [.ptr 2 0], .cells 77 ((Za x5).map .p), .cells 77 ((Za x5).map .p), yT 0 x14_1, yT x14_2 x14_3, yT 0 x14_1, .cells 78 [.sl 10 x14_2 7 0 x14_4], .cells 3 [i6 x14_5], .row 28 4 0 (ra cBx ([])), .cells 77 [i6 x14_6, vs x14_7, i6 x14_8, (.p (.lst 4 (Zb x14_9))), i6 x14_10, i6 x14_11, i6 x14_12], .row 28 4 0 (ra cBx ([])), .cells 77 [i6 x14_6, vs x14_7, i6 x14_8, (.p (.lst 4 (Zb x14_9))), i6 x14_10, i6 x14_11, i6 x14_12], .cells 77 ((Za x5).map .p), yT0]), (6000, .d true)] ++ kH k10) (k10.b (av h13 (apc (((Xw x5 a1 v1 v2 v3 v4 v5 (Int.toNat (w6 (((v6 : Nat) : Int) - 1))) a3 a4 a5 v7 v8 v9 h14).trans (congrArg (fun z => some (vb z, ([.cells 28 ((cBx a1).map .p), yT v1 v2, .cells 83 [sp v3 2 0, .sl 3 v4 1 0 v5, (.sl 1 v1 7 0 (Int.toNat (w6 (((v6 : Nat) : Int) - 1)))), ls 1 Zc a3, ls 1 eI64 a4, i6 a5, i6 v7, vb v8], yU v4 v9, .row 28 4 0 (ra cBx ([])), .cells 77 ((Za x5).map .p), .cells 73 [.ptr 2 0], .cells 77 ((Za x5).map .p), .cells 77 ((Za x5).map .p), yT 0 x14_1, yT x14_2 x14_3, yT 0 x14_1, .cells 78 [.sl 10 x14_2 7 0 x14_4], .cells 3 [i6 x14_5], .row 28 4 0 (ra cBx []), .cells 77 [i6 x14_6, vs x14_7, i6 x14_8, (.p (.lst 4 (Zb x14_9))), i6 x14_10, i6 x14_11, i6 x14_12], .row 28 4 0 (ra cBx []), .cells 77 [i6 x14_6, vs x14_7, i6 x14_8, (.p (.lst 4 (Zb x14_9))), i6 x14_10, i6 x14_11, i6 x14_12]] : List AB))) h15)) : CS prg 54 [.ptr 2 0, (.agg ((Za x5).map .p))] (ZM a1 a3 a4 a5 v1 v2 v3 v4 v5 v6 v7 v8 v9 x5) = some (vb false, [.cells 28 ((cBx a1).map .p), yT v1 v2, .cells 83 [sp v3 2 0, .sl 3 v4 1 0 v5, (.sl 1 v1 7 0 (Int.toNat (w6 (((v6 : Nat) : Int) - 1)))), ls 1 Zc a3, ls 1 eI64 a4, i6 a5, i6 v7, vb v8], yU v4 v9, .row 28 4 0 (ra cBx ([])), .cells 77 ((Za x5).map .p), .cells 73 [.ptr 2 0], .cells 77 ((Za x5).map .p), .cells 77 ((Za x5).map .p), yT 0 x14_1, yT x14_2 x14_3, yT 0 x14_1, .cells 78 [.sl 10 x14_2 7 0 x14_4], .cells 3 [i6 x14_5], .row 28 4 0 (ra cBx []), .cells 77 [i6 x14_6, vs x14_7, i6 x14_8, (.p (.lst 4 (Zb x14_9))), i6 x14_10, i6 x14_11, i6 x14_12], .row 28 4 0 (ra cBx []), .cells 77 [i6 x14_6, vs x14_7, i6 x14_8, (.p (.lst 4 (Zb x14_9))), i6 x14_10, i6 x14_11, i6 x14_12]])) (apc ((NJ v1 (Int.toNat (w6 (((v6 : Nat) : Int) - 1))) x5 x5.depth 0 a1 v2 v3 v4 v5 (Int.toNat (w6 (((v6 : Nat) : Int) - 1))) a3 a4 a5 v7 v8 v9 0 ([]) x5 x5 x5 0 x14_1 x14_2 x14_3 0 x14_1 x14_4 x14_5 0 ([]) (⟨x14_6, x14_7, x14_8, x14_9, x14_10, x14_11, x14_12⟩ : ThingD) 0 ([]) (⟨x14_6, x14_7, x14_8, x14_9, x14_10, x14_11, x14_12⟩ : ThingD) h16) : CS prg 55 [.ptr 2 0, (.sl 1 v1 7 0 (Int.toNat (w6 (((v6 : Nat) : Int) - 1)))), (.agg ((Za x5).map .p)), i6 x5.depth, i6 0] [.cells 28 ((cBx a1).map .p), yT v1 v2, .cells 83 [sp v3 2 0, .sl 3 v4 1 0 v5, (.sl 1 v1 7 0 (Int.toNat (w6 (((v6 : Nat) : Int) - 1)))), ls 1 Zc a3, ls 1 eI64 a4, i6 a5, i6 v7, vb v8], yU v4 v9, .row 28 4 0 (ra cBx ([])), .cells 77 ((Za x5).map .p), .cells 73 [.ptr 2 0], .cells 77 ((Za x5).map .p), .cells 77 ((Za x5).map .p), yT 0 x14_1, yT x14_2 x14_3, yT 0 x14_1, .cells 78 [.sl 10 x14_2 7 0 x14_4], .cells 3 [i6 x14_5], .row 28 4 0 (ra cBx []), .cells 77 [i6 x14_6, vs x14_7, i6 x14_8, (.p (.lst 4 (Zb x14_9))), i6 x14_10, i6 x14_11, i6 x14_12], .row 28 4 0 (ra cBx []), .cells 77 [i6 x14_6, vs x14_7, i6 x14_8, (.p (.lst 4 (Zb x14_9))), i6 x14_10, i6 x14_11, i6 x14_12]] = some ((.sl 1 x16_0 7 0 x16_1), [.cells 28 ((cBx a1).map .p), yT x16_0 x16_2, .cells 83 [sp v3 2 0, .sl 3 v4 1 0 v5, (.sl 1 v1 7 0 (Int.toNat (w6 (((v6 : Nat) : Int) - 1)))), ls 1 Zc a3, ls 1 eI64 a4, i6 a5, i6 v7, vb v8], yU v4 v9, .row 28 4 0 (ra cBx ([])), .cells 77 ((Za x5).map .p), .cells 73 [.ptr 2 0], .cells 77 ((Za x5).map .p), .cells 77 ((Za x5).map .p), yT 0 x14_1, yT x14_2 x14_3, yT 0 x14_1, .cells 78 [.sl 10 x14_2 7 0 x14_4], .cells 3 [i6 x14_5], .row 28 4 0 (ra cBx ([])), .cells 77 [i6 x14_6, vs x14_7, i6 x14_8, (.p (.lst 4 (Zb x14_9))), i6 x14_10, i6 x14_11, i6 x14_12], .row 28 4 0 (ra cBx ([])), .cells 77 [i6 x14_6, vs x14_7, i6 x14_8, (.p (.lst 4 (Zb x14_9))), i6 x14_10, i6 x14_11, i6 x14_12], .cells 77 ((Za x5).map .p), yT0])) (apc (ZZ a1 a3 a4 a5 x16_0 x16_2 v3 v4 v5 x16_1 v7 v8 v9) apn)))))
          | k3 x14_0 x14_1 x14_2 x14_3 x14_4 x14_5 =>
           apply bi h <;> intro h15 h
           ·
            apply bn h; intro r16 h16 h
            cases r16 with
            | k0 x16_0 x16_1 x16_2 =>
             rw [← sj h]
             exact rn ([(103, .d false), (108, .r (vb true) [.cells 28 ((cBx a1).map .p), yT v1 v2, .cells 83 [sp v3 2 0, .sl 3 v4 1 0 v5, (.sl 1 v1 7 0 (Int.toNat (w6 (((v6 : Nat) : Int) - 1)))), ls 1 Zc a3, ls 1 eI64 a4, i6 a5, i6 v7, vb v8], yU v4 v9, .row 28 4 0 (ra cBx ([])), .cells 77 ((Za x5).map .p), .cells 73 [.ptr 2 0], .cells 77 ((Za x5).map .p), .cells 77 ((Za x5).map .p), yT 0 x14_1, yT x14_2 x14_3, yT 0 x14_1, .cells 78 [.sl 10 x14_2 7 0 x14_4], .cells 3 [i6 x14_5]]), (127, .r (.sl 1 x16_0 7 0 x16_1) [.cells 28 ((cBx a1).map .p), yT x16_0 x16_2, .cells 83 [sp v3 2 0, .sl 3 v4 1 0 v5, (.sl 1 v1 7 0 (Int.toNat (w6 (((v6 : Nat) : Int) - 1)))), ls 1 Zc a3, ls 1 eI64 a4, i6 a5, i6 v7, vb v8], yU v4 v9, .row 28 4 0 (ra cBx ([])), .cells 77 ((Za x5).map .p), .cells 73 [.ptr 2 0], .cells 77 ((Za x5).map .p), .cells 77 ((Za x5).map .p), yT 0 x14_1, yT x14_2 x14_3, yT 0 x14_1, .cells 78 [.sl 10 x14_2 7 0 x14_4], .cells 3 [i6 x14_5], .cells 77 ((Za x5).map .p), yT0]), (6000, .d true)] ++ kH k10) (k10.b (av h13 (apc (((Xw x5 a1 v1 v2 v3 v4 v5 (Int.toNat (w6 (((v6 : Nat) : Int) - 1))) a3 a4 a5 v7 v8 v9 h14).trans (congrArg (fun z => some (vb z, ([.cells 28 ((cBx a1).map .p), yT v1 v2, .cells 83 [sp v3 2 0, .sl 3 v4 1 0 v5, (.sl 1 v1 7 0 (Int.toNat (w6 (((v6 : Nat) : Int) - 1)))), ls 1 Zc a3, ls 1 eI64 a4, i6 a5, i6 v7, vb v8], yU v4 v9, .row 28 4 0 (ra cBx ([])), .cells 77 ((Za x5).map .p), .cells 73 [.ptr 2 0], .cells 77 ((Za x5).map .p), .cells 77 ((Za x5).map .p), yT 0 x14_1, yT x14_2 x14_3, yT 0 x14_1, .cells 78 [.sl 10 x14_2 7 0 x14_4], .cells 3 [i6 x14_5]] : List AB))) h15)) : CS prg 54 [.ptr 2 0, (.agg ((Za x5).map .p))] (ZM a1 a3 a4 a5 v1 v2 v3 v4 v5 v6 v7 v8 v9 x5) = some (vb true, [.cells 28 ((cBx a1).map .p), yT v1 v2, .cells 83 [sp v3 2 0, .sl 3 v4 1 0 v5, (.sl 1 v1 7 0 (Int.toNat (w6 (((v6 : Nat) : Int) - 1)))), ls 1 Zc a3, ls 1 eI64 a4, i6 a5, i6 v7, vb v8], yU v4 v9, .row 28 4 0 (ra cBx ([])), .cells 77 ((Za x5).map .p), .cells 73 [.ptr 2 0], .cells 77 ((Za x5).map .p), .cells 77 ((Za x5).map .p), yT 0 x14_1, yT x14_2 x14_3, yT 0 x14_1, .cells 78 [.sl 10 x14_2 7 0 x14_4], .cells 3 [i6 x14_5]])) (apc ((NO v1 (Int.toNat (w6 (((v6 : Nat) : Int) - 1))) x5 x5.depth 1 a1 v2 v3 v4 v5 (Int.toNat (w6 (((v6 : Nat) : Int) - 1))) a3 a4 a5 v7 v8 v9 0 ([]) x5 x5 x5 0 x14_1 x14_2 x14_3 0 x14_1 x14_4 x14_5 h16) : CS prg 55 [.ptr 2 0, (.sl 1 v1 7 0 (Int.toNat (w6 (((v6 : Nat) : Int) - 1)))), (.agg ((Za x5).map .p)), i6 x5.depth, i6 1] [.cells 28 ((cBx a1).map .p), yT v1 v2, .cells 83 [sp v3 2 0, .sl 3 v4 1 0 v5, (.sl 1 v1 7 0 (Int.toNat (w6 (((v6 : Nat) : Int) - 1)))), ls 1 Zc a3, ls 1 eI64 a4, i6 a5, i6 v7, vb v8], yU v4 v9, .row 28 4 0 (ra cBx ([])), .cells 77 ((Za x5).map .p), .cells 73 [.ptr 2 0], .cells 77 ((Za x5).map .p), .cells 77 ((Za x5).map .p), yT 0 x14_1, yT x14_2 x14_3, yT 0 x14_1, .cells 78 [.sl 10 x14_2 7 0 x14_4], .cells 3 [i6 x14_5]] = some ((.sl 1 x16_0 7 0 x16_1), [.cells 28 ((cBx a1).map .p), yT x16_0 x16_2, .cells 83 [sp v3 2 0, .sl 3 v4 1 0 v5, (.sl 1 v1 7 0 (Int.toNat (w6 (((v6 : Nat) : Int) - 1)))), ls 1 Zc a3, ls 1 eI64 a4, i6 a5, i6 v7, vb v8], yU v4 v9, .row 28 4 0 (ra cBx ([])), .cells 77 ((Za x5).map .p), .cells 73 [.ptr 2 0], .cells 77 ((Za x5).map .p), .cells 77 ((Za x5).map .p), yT 0 x14_1, yT x14_2 x14_3, yT 0 x14_1, .cells 78 [.sl 10 x14_2 7 0 x14_4], .cells 3 [i6 x14_5], .cells 77 ((Za x5).map .p), yT0])) (apc (ZZ a1 a3 a4 a5 x16_0 x16_2 v3 v4 v5 x16_1 v7 v8 v9) apn)))))
           ·
            apply bn h; intro r16 h16 h
            cases r16 with
            | k0 x16_0 x16_1 x16_2 =>
             rw [← sj h]
             exact rn ([(103, .d false), (108, .r (vb false) [.cells 28 ((cBx a1).map .p), yT v1 v2, .cells 83 [sp v3 2 0, .sl 3 v4 1 0 v5, (.sl 1 v1 7 0 (Int.toNat (w6 (((v6 : Nat) : Int) - 1)))), ls 1 Zc a3, ls 1 eI64 a4, i6 a5, i6 v7, vb v8], yU v4 v9, .row 28 4 0 (ra cBx ([])), .cells 77 ((Za x5).map .p), .cells 73 [.ptr 2 0], .cells 77 ((Za x5).map .p), .cells 77 ((Za x5).map .p), yT 0 x14_1, yT x14_2 x14_3, yT 0 x14_1, .cells 78 [.sl 10 x14_2 7 0 x14_4], .cells 3 [i6 x14_5]]), (127, .r (.sl 1 x16_0 7 0 x16_1) [.cells 28 ((cBx a1).map .p), yT x16_0 x16_2, .cells 83 [sp v3 2 0, .sl 3 v4 1 0 v5, (.sl 1 v1 7 0 (Int.toNat (w6 (((v6 : Nat) : Int) - 1)))), ls 1 Zc a3, ls 1 eI64 a4, i6 a5, i6 v7, vb v8], yU v4 v9, .row 28 4 0 (ra cBx ([])), .cells 77 ((Za x5).map .p), .cells 73 [.ptr 2 0], .cells 77 ((Za x5).map .p), .cells 77 ((Za x5).map .p), yT 0 x14_1, yT x14_2 x14_3, yT 0 x14_1, .cells 78 [.sl 10 x14_2 7 0 x14_4], .cells 3 [i6 x14_5], .cells 77 ((Za x5).map .p), yT0]), (6000, .d true)] ++ kH k10) (k10.b (av h13 (apc (((Xw x5 a1 v1 v2 v3 v4 v5 (Int.toNat (w6 (((v6 : Nat) : Int) - 1))) a3 a4 a5 v7 v8 v9 h14).trans (congrArg (fun z => some (vb z, ([.cells 28 ((cBx a1).map .p), yT v1 v2, .cells 83 [sp v3 2 0, .sl 3 v4 1 0 v5, (.sl 1 v1 7 0 (Int.toNat (w6 (((v6 : Nat) : Int) - 1)))), ls 1 Zc a3, ls 1 eI64 a4, i6 a5, i6 v7, vb v8], yU v4 v9, .row 28 4 0 (ra cBx ([])), .cells 77 ((Za x5).map .p), .cells 73 [.ptr 2 0], .cells 77 ((Za x5).map .p), .cells 77 ((Za x5).map .p), yT 0 x14_1, yT x14_2 x14_3, yT 0 x14_1, .cells 78 [.sl 10 x14_2 7 0 x14_4], .cells 3 [i6 x14_5]] : List AB))) h15)) : CS prg 54 [.ptr 2 0, (.agg ((Za x5).map .p))] (ZM a1 a3 a4 a5 v1 v2 v3 v4 v5 v6 v7 v8 v9 x5) = some (vb false, [.cells 28 ((cBx a1).map .p), yT v1 v2, .cells 83 [sp v3 2 0, .sl 3 v4 1 0 v5, (.sl 1 v1 7 0 (Int.toNat (w6 (((v6 : Nat) : Int) - 1)))), ls 1 Zc a3, ls 1 eI64 a4, i6 a5, i6 v7, vb v8], yU v4 v9, .row 28 4 0 (ra cBx ([])), .cells 77 ((Za x5).map .p), .cells 73 [.ptr 2 0], .cells 77 ((Za x5).map .p), .cells 77 ((Za x5).map .p), yT 0 x14_1, yT x14_2 x14_3, yT 0 x14_1, .cells 78 [.sl 10 x14_2 7 0 x14_4], .cells 3 [i6 x14_5]])) (apc ((NO v1 (Int.toNat (w6 (((v6 : Nat) : Int) - 1))) x5 x5.depth 0 a1 v2 v3 v4 v5 (Int.toNat (w6 (((v6 : Nat) : Int) - 1))) a3 a4 a5 v7 v8 v9 0 ([]) x5 x5 x5 0 x14_1 x14_2 x14_3 0 x14_1 x14_4 x14_5 h16) : CS prg 55 [.ptr 2 0, (.sl 1 v1 7 0 (Int.toNat (w6 (((v6 : Nat) : Int) - 1)))), (.agg ((Za x5).map .p)), i6 x5.depth, i6 0] [.cells 28 ((cBx a1).map .p), yT v1 v2, .cells 83 [sp v3 2 0, .sl 3 v4 1 0 v5, (.sl 1 v1 7 0 (Int.toNat (w6 (((v6 : Nat) : Int) - 1)))), ls 1 Zc a3, ls 1 eI64 a4, i6 a5, i6 v7, vb v8], yU v4 v9, .row 28 4 0 (ra cBx ([])), .cells 77 ((Za x5).map .p), .cells 73 [.ptr 2 0], .cells 77 ((Za x5).map .p), .cells 77 ((Za x5).map .p), yT 0 x14_1, yT x14_2 x14_3, yT 0 x14_1, .cells 78 [.sl 10 x14_2 7 0 x14_4], .cells 3 [i6 x14_5]] = some ((.sl 1 x16_0 7 0 x16_1), [.cells 28 ((cBx a1).map .p), yT x16_0 x16_2, .cells 83 [sp v3 2 0, .sl 3 v4 1 0 v5, (.sl 1 v1 7 0 (Int.toNat (w6 (((v6 : Nat) : Int) - 1)))), ls 1 Zc a3, ls 1 eI64 a4, i6 a5, i6 v7, vb v8], yU v4 v9, .row 28 4 0 (ra cBx ([])), .cells 77 ((Za x5).map .p), .cells 73 [.ptr 2 0], .cells 77 ((Za x5).map .p), .cells 77 ((Za x5).map .p), yT 0 x14_1, yT x14_2 x14_3, yT 0 x14_1, .cells 78 [.sl 10 x14_2 7 0 x14_4], .cells 3 [i6 x14_5], .cells 77 ((Za x5).map .p), yT0])) (apc (ZZ a1 a3 a4 a5 x16_0 x16_2 v3 v4 v5 x16_1 v7 v8 v9) apn)))))
       ·
        have k11 := k8.a [(86, .d false), (91, .d false)] (av h9 (av h10 apn))
        apply bi h <;> intro h11 h
        ·
         apply bn h; intro r12 h12 h
         cases r12 with
         | k0 x12_0 x12_1 x12_2 =>
          rw [← sj h]
          exact rn ([(112, .d true), (127, .r (.sl 1 x12_0 7 0 x12_1) (Va a1 a3 a4 a5 x12_0 x12_2 v3 v4 v5 v1 v6 v7 v8 v9 x5)), (6000, .d true)] ++ kH k11) (k11.b (av h11 (apc ((Qs v1 (Int.toNat (w6 (((v6 : Nat) : Int) - 1))) x5 (w6 (x5.depth + x5.n)) x5.way a1 v2 v3 v4 v5 (Int.toNat (w6 (((v6 : Nat) : Int) - 1))) a3 a4 a5 v7 v8 v9 0 ([]) x5 h12) : CS prg 55 [.ptr 2 0, (.sl 1 v1 7 0 (Int.toNat (w6 (((v6 : Nat) : Int) - 1)))), (.agg ((Za x5).map .p)), (i6 (w6 (x5.depth + x5.n))), i6 x5.way] (ZM a1 a3 a4 a5 v1 v2 v3 v4 v5 v6 v7 v8 v9 x5) = some ((.sl 1 x12_0 7 0 x12_1), Va a1 a3 a4 a5 x12_0 x12_2 v3 v4 v5 v1 v6 v7 v8 v9 x5)) (apc (ZZ a1 a3 a4 a5 x12_0 x12_2 v3 v4 v5 x12_1 v7 v8 v9) apn))))
        ·
         apply bn h; intro r12 h12 h
         cases r12 with
         | k0 x12_0 x12_1 x12_2 =>
          rw [← sj h]
          exact rn ([(112, .d false), (127, .r (.sl 1 x12_0 7 0 x12_1) (Va a1 a3 a4 a5 x12_0 x12_2 v3 v4 v5 v1 v6 v7 v8 v9 x5)), (6000, .d true)] ++ kH k11) (k11.b (av h11 (apc ((Qs v1 (Int.toNat (w6 (((v6 : Nat) : Int) - 1))) x5 x5.depth x5.way a1 v2 v3 v4 v5 (Int.toNat (w6 (((v6 : Nat) : Int) - 1))) a3 a4 a5 v7 v8 v9 0 ([]) x5 h12) : CS prg 55 [.ptr 2 0, (.sl 1 v1 7 0 (Int.toNat (w6 (((v6 : Nat) : Int) - 1)))), (.agg ((Za x5).map .p)), i6 x5.depth, i6 x5.way] (ZM a1 a3 a4 a5 v1 v2 v3 v4 v5 v6 v7 v8 v9 x5) = some ((.sl 1 x12_0 7 0 x12_1), Va a1 a3 a4 a5 x12_0 x12_2 v3 v4 v5 v1 v6 v7 v8 v9 x5)) (apc (ZZ a1 a3 a4 a5 x12_0 x12_2 v3 v4 v5 x12_1 v7 v8 v9) apn))))
   ·
    cases h
  ·
   rw [← sj h]
   exact xb ([(17, .d false), (6000, .d true)] ++ kH k1) (k1.b (av h3 apn))
 ·
  rw [← sj h]
  exact xb [(11, .d false), (6000, .d true)] (av h1 apn)
theorem HI (s0 : Nat × Tqq × Bool × Nat × Nat × Nat × Int × Bool × Iqq) (e : E_L27_0) (h : runL (fun s => M4 a3 a4 a5 s.1 s.2.1 s.2.2.1 s.2.2.2.1 s.2.2.2.2.1 s.2.2.2.2.2.1 s.2.2.2.2.2.2.1 s.2.2.2.2.2.2.2.1 s.2.2.2.2.2.2.2.2) s0 = some e) : M5 a1 a3 a4 a5 e (U8 a1 a3 a4 a5 s0.1 s0.2.1 s0.2.2.1 s0.2.2.2.1 s0.2.2.2.2.1 s0.2.2.2.2.2.1 s0.2.2.2.2.2.2.1 s0.2.2.2.2.2.2.2.1 s0.2.2.2.2.2.2.2.2) := by
  have q := @Zg (Nat × Tqq × Bool × Nat × Nat × Nat × Int × Bool × Iqq) E_L27_0 (fun s => M4 a3 a4 a5 s.1 s.2.1 s.2.2.1 s.2.2.2.1 s.2.2.2.2.1 s.2.2.2.2.2.1 s.2.2.2.2.2.2.1 s.2.2.2.2.2.2.2.1 s.2.2.2.2.2.2.2.2) (fun s => U8 a1 a3 a4 a5 s.1 s.2.1 s.2.2.1 s.2.2.2.1 s.2.2.2.2.1 s.2.2.2.2.2.1 s.2.2.2.2.2.2.1 s.2.2.2.2.2.2.2.1 s.2.2.2.2.2.2.2.2) (M5 a1 a3 a4 a5) (fun s r h => Fu a1 a3 a4 a5 s.1 s.2.1 s.2.2.1 s.2.2.2.1 s.2.2.2.2.1 s.2.2.2.2.2.1 s.2.2.2.2.2.2.1 s.2.2.2.2.2.2.2.1 s.2.2.2.2.2.2.2.2 h) s0 e h
  exact q
end
inductive R_F38 where
  | k0 (x0 : ByteArray)
  | k1 (x0 : ByteArray)
def Ax (a1 : BoxD) (a2 : Nat) (a3 : Tqq) (a4 : Bool) (a5 a6 a7 : Nat) (a8 : Oqq) (a9 : Iqq) (a10 a11 : Int) (a12 : Bool) (a13 : Iqq) (r : R_F38) : AV := match r with | .k0 x0 => (vs x0) | .k1 x0 => (vs x0)
def Ay (a1 : BoxD) (a2 : Nat) (a3 : Tqq) (a4 : Bool) (a5 a6 a7 : Nat) (a8 : Oqq) (a9 : Iqq) (a10 a11 : Int) (a12 : Bool) (a13 : Iqq) (r : R_F38) : List AB := match r with | .k0 x0 => [.cells 28 ((cBx a1).map .p), yT a2 a3, .cells 83 [sp a4 2 0, .sl 3 a5 1 0 a6, .sl 1 a2 7 0 a7, ls 1 Zc a8, ls 1 eI64 a9, i6 a10, i6 a11, vb a12], .dead] | .k1 x0 => [.cells 28 ((cBx a1).map .p), yT a2 a3, .cells 83 [sp a4 2 0, .sl 3 a5 1 0 a6, .sl 1 a2 7 0 a7, ls 1 Zc a8, ls 1 eI64 a9, i6 a10, i6 a11, vb a12], yU a5 a13]
def F38 (a6 : Nat) (a13 : Iqq) : Option R_F38 :=
  (bif (decide (0 < a6)) then (bif (usOk a6 a13.length) then (some (.k0 (bstr (a13.take a6)))) else none) else (some (.k1 ByteArray.empty)))
abbrev Q2 (a1 : BoxD) (a2 : Nat) (a3 : Tqq) (a4 : Bool) (a5 a6 a7 : Nat) (a8 : Oqq) (a9 : Iqq) (a10 a11 : Int) (a12 : Bool) (a13 : Iqq) : List AB := [.cells 28 ((cBx a1).map .p), yT a2 a3, .cells 83 [sp a4 2 0, .sl 3 a5 1 0 a6, .sl 1 a2 7 0 a7, ls 1 Zc a8, ls 1 eI64 a9, i6 a10, i6 a11, vb a12], yU a5 a13]
abbrev Em (a1 : BoxD) (a2 : Nat) (a3 : Tqq) (a4 : Bool) (a5 a6 a7 : Nat) (a8 : Oqq) (a9 : Iqq) (a10 a11 : Int) (a12 : Bool) : List AB := [.cells 28 ((cBx a1).map .p), yT a2 a3, .cells 83 [sp a4 2 0, .sl 3 a5 1 0 a6, .sl 1 a2 7 0 a7, ls 1 Zc a8, ls 1 eI64 a9, i6 a10, i6 a11, vb a12], .dead]
theorem En (a1 : BoxD) (a2 : Nat) (a3 : Tqq) (a4 : Bool) (a5 a6 a7 : Nat) (a8 : Oqq) (a9 : Iqq) (a10 a11 : Int) (a12 : Bool) (a13 : Iqq) {r : R_F38} (h : F38 a6 a13 = some r) : CS prg 56 [.ptr 2 0] [.cells 28 ((cBx a1).map .p), yT a2 a3, .cells 83 [sp a4 2 0, .sl 3 a5 1 0 a6, .sl 1 a2 7 0 a7, ls 1 Zc a8, ls 1 eI64 a9, i6 a10, i6 a11, vb a12], yU a5 a13] = some (Ax a1 a2 a3 a4 a5 a6 a7 a8 a9 a10 a11 a12 a13 r, Ay a1 a2 a3 a4 a5 a6 a7 a8 a9 a10 a11 a12 a13 r) := by
 unfold F38 at h
 apply bi h <;> intro h1 h
 ·
  have q0 := ((sd_t (e := eU8) (xs := a13) rfl h1) : sdA (Q2 a1 a2 a3 a4 a5 a6 a7 a8 a9 a10 a11 a12 a13) (.sl 3 a5 1 0 a6) = some (.rp 3 a5 1 0 0))
  apply bi h <;> intro h2 h
  ·
   rw [← sj h]
   exact fc [(7, .v (.rp 3 a5 1 0 0)), (13, .r (vs (bstr (a13.take a6))) (Em a1 a2 a3 a4 a5 a6 a7 a8 a9 a10 a11 a12))] (apc q0 (apc ((us_t (e := eU8) (xs := a13) rfl h1 h2) : uSA (Q2 a1 a2 a3 a4 a5 a6 a7 a8 a9 a10 a11 a12 a13) 5 (.rp 3 a5 1 0 0) (i6 ((a6 : Nat) : Int)) = some ((vs (bstr (a13.take a6))), Em a1 a2 a3 a4 a5 a6 a7 a8 a9 a10 a11 a12)) apn))
  ·
   cases h
 ·
  rw [← sj h]
  exact fc [(7, .v .anyp), (13, .r (vs ByteArray.empty) (Q2 a1 a2 a3 a4 a5 a6 a7 a8 a9 a10 a11 a12 a13))] (apc ((sd_f (e := eU8) (xs := a13) rfl h1) : sdA (Q2 a1 a2 a3 a4 a5 a6 a7 a8 a9 a10 a11 a12 a13) (.sl 3 a5 1 0 a6) = some .anyp) (apc ((us_f h1) : uSA (Q2 a1 a2 a3 a4 a5 a6 a7 a8 a9 a10 a11 a12 a13) 5 .anyp (i6 ((a6 : Nat) : Int)) = some ((vs ByteArray.empty), Q2 a1 a2 a3 a4 a5 a6 a7 a8 a9 a10 a11 a12 a13)) apn))
inductive R_F27 where
  | k0 (x0 : ByteArray) (x1 : Nat) (x2 : Tqq) (x3 : Bool) (x4 x5 x6 : Nat) (x7 : Int) (x8 : Bool)
  | k1 (x0 : ByteArray) (x1 : Nat) (x2 : Tqq) (x3 : Bool) (x4 x5 x6 : Nat) (x7 : Int) (x8 : Bool) (x9 : Iqq)
def Az (a1 : BoxD) (a2 : Int) (a3 : Oqq) (a4 : Iqq) (a5 : Int) (r : R_F27) : AV := match r with | .k0 x0 x1 x2 x3 x4 x5 x6 x7 x8 => (vs x0) | .k1 x0 x1 x2 x3 x4 x5 x6 x7 x8 x9 => (vs x0)
def AA (a1 : BoxD) (a2 : Int) (a3 : Oqq) (a4 : Iqq) (a5 : Int) (r : R_F27) : List AB := match r with | .k0 x0 x1 x2 x3 x4 x5 x6 x7 x8 => [.cells 28 ((cBx a1).map .p), yT x1 x2, .cells 83 [sp x3 2 0, .sl 3 x4 1 0 x5, .sl 1 x1 7 0 x6, ls 1 Zc a3, ls 1 eI64 a4, i6 a5, i6 x7, vb x8], .dead] | .k1 x0 x1 x2 x3 x4 x5 x6 x7 x8 x9 => [.cells 28 ((cBx a1).map .p), yT x1 x2, .cells 83 [sp x3 2 0, .sl 3 x4 1 0 x5, .sl 1 x1 7 0 x6, ls 1 Zc a3, ls 1 eI64 a4, i6 a5, i6 x7, vb x8], yU x4 x9]
def F27 (a1 : BoxD) (a2 : Int) (a3 : Oqq) (a4 : Iqq) (a5 : Int) : Option R_F27 :=
  ((runL (fun s => M4 a3 a4 a5 s.1 s.2.1 s.2.2.1 s.2.2.2.1 s.2.2.2.2.1 s.2.2.2.2.2.1 s.2.2.2.2.2.2.1 s.2.2.2.2.2.2.2.1 s.2.2.2.2.2.2.2.2) (0, [(⟨a1.kind, a1.text, a1.n, a1.kids, 0, a2, 0⟩ : ThingD)], false, 0, 0, 1, 0, false, [])).bind fun r1 => match r1 with | .k0 x1_0 x1_1 x1_2 x1_3 x1_4 x1_5 x1_6 x1_7 x1_8 => ((F38 x1_4 x1_8).bind fun r2 => match r2 with | .k0 x2_0 => (some (.k0 x2_0 x1_0 x1_1 x1_2 x1_3 x1_4 x1_5 x1_6 x1_7)) | .k1 x2_0 => (some (.k1 x2_0 x1_0 x1_1 x1_2 x1_3 x1_4 x1_5 x1_6 x1_7 x1_8))))
abbrev Eo (g1 : Nat → AV) (a1 : BoxD) (x1_0 : Nat) (x1_1 : Tqq) (x1_2 : Bool) (x1_3 x1_4 x1_5 : Nat) (a3 : Oqq) (a4 : Iqq) (a5 x1_6 : Int) (x1_7 : Bool) (x1_8 : Iqq) : St := ⟨fr 134 g1 [(0, .ptr 2 0)], [.cells 28 ((cBx a1).map .p), yT x1_0 x1_1, .cells 83 [sp x1_2 2 0, .sl 3 x1_3 1 0 x1_4, .sl 1 x1_0 7 0 x1_5, ls 1 Zc a3, ls 1 eI64 a4, i6 a5, i6 x1_6, vb x1_7], yU x1_3 x1_8]⟩
abbrev Ep (a1 : BoxD) (x1_0 : Nat) (x1_1 : Tqq) (x1_2 : Bool) (x1_3 x1_4 x1_5 : Nat) (a3 : Oqq) (a4 : Iqq) (a5 x1_6 : Int) (x1_7 : Bool) : List AB := [.cells 28 ((cBx a1).map .p), yT x1_0 x1_1, .cells 83 [sp x1_2 2 0, .sl 3 x1_3 1 0 x1_4, .sl 1 x1_0 7 0 x1_5, ls 1 Zc a3, ls 1 eI64 a4, i6 a5, i6 x1_6, vb x1_7], .dead]
abbrev Kw (a1 : BoxD) (x1_0 : Nat) (x1_1 : Tqq) (x1_2 : Bool) (x1_3 x1_4 x1_5 : Nat) (a3 : Oqq) (a4 : Iqq) (a5 x1_6 : Int) (x1_7 : Bool) (x1_8 : Iqq) : List AB := [.cells 28 ((cBx a1).map .p), yT x1_0 x1_1, .cells 83 [sp x1_2 2 0, .sl 3 x1_3 1 0 x1_4, .sl 1 x1_0 7 0 x1_5, ls 1 Zc a3, ls 1 eI64 a4, i6 a5, i6 x1_6, vb x1_7], yU x1_3 x1_8]
theorem Er (a1 : BoxD) (a2 : Int) (a3 : Oqq) (a4 : Iqq) (a5 : Int) {r : R_F27} (h : F27 a1 a2 a3 a4 a5 = some r) : CS prg 41 [.ptr 2 0] [.cells 28 ((cBx a1).map .p), .row 77 7 0 [[i6 a1.kind, vs a1.text, i6 a1.n, (.p (.lst 4 (Zb a1.kids))), i6 0, i6 a2, i6 0]], .cells 83 [sp false 2 0, n0, .sl 1 0 7 0 1, ls 1 Zc a3, ls 1 eI64 a4, i6 a5, i6 0, vb false]] = some (Az a1 a2 a3 a4 a5 r, AA a1 a2 a3 a4 a5 r) := by
 unfold F27 at h
 have q0 := (ZZ a1 a3 a4 a5 0 ([(⟨a1.kind, a1.text, a1.n, a1.kids, 0, a2, 0⟩ : ThingD)]) false 0 0 1 0 false ([]))
 apply bn h; intro r1 h1 h
 cases r1 with
 | k0 x1_0 x1_1 x1_2 x1_3 x1_4 x1_5 x1_6 x1_7 x1_8 =>
  obtain ⟨g1, e1⟩ := HI a1 a3 a4 a5 (0, [(⟨a1.kind, a1.text, a1.n, a1.kids, 0, a2, 0⟩ : ThingD)], false, 0, 0, 1, 0, false, []) _ h1
  have q1 := (e1 : U8 a1 a3 a4 a5 0 ([(⟨a1.kind, a1.text, a1.n, a1.kids, 0, a2, 0⟩ : ThingD)]) false 0 0 1 0 false ([]) = some ((.brk 0), Eo g1 a1 x1_0 x1_1 x1_2 x1_3 x1_4 x1_5 a3 a4 a5 x1_6 x1_7 x1_8))
  have k2 := ka [(2000, .l (.brk 0) (Eo g1 a1 x1_0 x1_1 x1_2 x1_3 x1_4 x1_5 a3 a4 a5 x1_6 x1_7 x1_8))] (apc q0 (apc q1 apn))
  apply bn h; intro r2 h2 h
  cases r2 with
  | k0 x2_0 =>
   rw [← sj h]
   exact fc ([(133, .r (vs x2_0) (Ep a1 x1_0 x1_1 x1_2 x1_3 x1_4 x1_5 a3 a4 a5 x1_6 x1_7)), (6000, .d true)] ++ kH k2) (k2.b (apc ((En a1 x1_0 x1_1 x1_2 x1_3 x1_4 x1_5 a3 a4 a5 x1_6 x1_7 x1_8 h2) : CS prg 56 [.ptr 2 0] (Kw a1 x1_0 x1_1 x1_2 x1_3 x1_4 x1_5 a3 a4 a5 x1_6 x1_7 x1_8) = some ((vs x2_0), Ep a1 x1_0 x1_1 x1_2 x1_3 x1_4 x1_5 a3 a4 a5 x1_6 x1_7)) apn))
  | k1 x2_0 =>
   rw [← sj h]
   exact fc ([(133, .r (vs x2_0) (Kw a1 x1_0 x1_1 x1_2 x1_3 x1_4 x1_5 a3 a4 a5 x1_6 x1_7 x1_8)), (6000, .d true)] ++ kH k2) (k2.b (apc ((En a1 x1_0 x1_1 x1_2 x1_3 x1_4 x1_5 a3 a4 a5 x1_6 x1_7 x1_8 h2) : CS prg 56 [.ptr 2 0] (Kw a1 x1_0 x1_1 x1_2 x1_3 x1_4 x1_5 a3 a4 a5 x1_6 x1_7 x1_8) = some ((vs x2_0), Kw a1 x1_0 x1_1 x1_2 x1_3 x1_4 x1_5 a3 a4 a5 x1_6 x1_7 x1_8)) apn))
def AC (a1 : BoxD) (a2 a3 : Int) (x0 : ByteArray) : AV := (vs x0)
def F17 (Nf : Nat) (a1 : BoxD) (a2 a3 : Int) : Option ByteArray :=
  ((F18 Nf a1).bind fun x1 => ((F26 Nf a1).bind fun x2 => ((F27 a1 a3 x1 x2 a2).bind fun r3 => match r3 with | .k0 x3_0 x3_1 x3_2 x3_3 x3_4 x3_5 x3_6 x3_7 x3_8 => (some x3_0) | .k1 x3_0 x3_1 x3_2 x3_3 x3_4 x3_5 x3_6 x3_7 x3_8 x3_9 => (some x3_0))))
abbrev Es (a1 : BoxD) (x3_1 : Nat) (x3_2 : Tqq) (x3_3 : Bool) (x3_4 x3_5 x3_6 : Nat) (x1 : Oqq) (x2 : Iqq) (a2 x3_7 : Int) (x3_8 : Bool) : List AB := [.cells 28 ((cBx a1).map .p), yT x3_1 x3_2, .cells 83 [sp x3_3 2 0, .sl 3 x3_4 1 0 x3_5, .sl 1 x3_1 7 0 x3_6, ls 1 Zc x1, ls 1 eI64 x2, i6 a2, i6 x3_7, vb x3_8], .dead]
abbrev Et (a1 : BoxD) (a3 : Int) (x1 : Oqq) (x2 : Iqq) (a2 : Int) : List AB := [.cells 28 ((cBx a1).map .p), .row 77 7 0 [[i6 a1.kind, vs a1.text, i6 a1.n, (.p (.lst 4 (Zb a1.kids))), i6 0, i6 a3, i6 0]], .cells 83 [sp false 2 0, n0, .sl 1 0 7 0 1, ls 1 Zc x1, ls 1 eI64 x2, i6 a2, i6 0, vb false]]
abbrev Eu (a1 : BoxD) (x3_1 : Nat) (x3_2 : Tqq) (x3_3 : Bool) (x3_4 x3_5 x3_6 : Nat) (x1 : Oqq) (x2 : Iqq) (a2 x3_7 : Int) (x3_8 : Bool) (x3_9 : Iqq) : List AB := [.cells 28 ((cBx a1).map .p), yT x3_1 x3_2, .cells 83 [sp x3_3 2 0, .sl 3 x3_4 1 0 x3_5, .sl 1 x3_1 7 0 x3_6, ls 1 Zc x1, ls 1 eI64 x2, i6 a2, i6 x3_7, vb x3_8], yU x3_4 x3_9]
theorem Ew (Nf : Nat) (a1 : BoxD) (a2 a3 : Int) {r : ByteArray} (h : F17 Nf a1 a2 a3 = some r) : PR1 prg 25 [(.agg ((cBx a1).map .p)), i6 a2, i6 a3] (AC a1 a2 a3 r) := by
 unfold F17 at h
 apply bn h; intro x1 h1 h
 have q0 := (((Ei Nf a1 h1).cp rfl _) : CP prg 28 [(.agg ((cBx a1).map .p))] [.cells 28 ((cBx a1).map .p), .hole, .hole] = some (ls 1 Zc x1))
 apply bn h; intro x2 h2 h
 have q1 := (((Bx Nf a1 h2).cp rfl _) : CP prg 40 [(.agg ((cBx a1).map .p))] [.cells 28 ((cBx a1).map .p), .hole, .hole] = some (ls 1 eI64 x2))
 have k2 := ka [(9, .v (ls 1 Zc x1)), (11, .v (ls 1 eI64 x2))] (apc q0 (apc q1 apn))
 apply bn h; intro r3 h3 h
 cases r3 with
 | k0 x3_0 x3_1 x3_2 x3_3 x3_4 x3_5 x3_6 x3_7 x3_8 =>
  rw [← sj h]
  exact fq ([(20, .r (vs x3_0) (Es a1 x3_1 x3_2 x3_3 x3_4 x3_5 x3_6 x1 x2 a2 x3_7 x3_8))] ++ kH k2) (k2.b (apc ((Er a1 a3 x1 x2 a2 h3) : CS prg 41 [.ptr 2 0] (Et a1 a3 x1 x2 a2) = some ((vs x3_0), Es a1 x3_1 x3_2 x3_3 x3_4 x3_5 x3_6 x1 x2 a2 x3_7 x3_8)) apn))
 | k1 x3_0 x3_1 x3_2 x3_3 x3_4 x3_5 x3_6 x3_7 x3_8 x3_9 =>
  rw [← sj h]
  exact fq ([(20, .r (vs x3_0) (Eu a1 x3_1 x3_2 x3_3 x3_4 x3_5 x3_6 x1 x2 a2 x3_7 x3_8 x3_9))] ++ kH k2) (k2.b (apc ((Er a1 a3 x1 x2 a2 h3) : CS prg 41 [.ptr 2 0] (Et a1 a3 x1 x2 a2) = some ((vs x3_0), Eu a1 x3_1 x3_2 x3_3 x3_4 x3_5 x3_6 x1 x2 a2 x3_7 x3_8 x3_9)) apn))
inductive R_F8 where
  | k0 (x0 : ByteArray) (x1 : Bool)
def F8_v (a1 : BoxD) (r : R_F8) : AV := match r with | .k0 x0 x1 => (.tup [vs x0, vb x1])
def F8 (Nf : Nat) (a1 : BoxD) : Option R_F8 :=
  ((F16 Nf a1).bind fun x1 => (bif (x1 != 0) then (some (.k0 Eqq false)) else ((F18 Nf a1).bind fun x3 => ((getI x3 0).bind fun x4 => (bif x4 then (some (.k0 Eqq false)) else ((F17 Nf a1 1 1).bind fun x6 => (some (.k0 x6 true))))))))
theorem AD (Nf : Nat) (a1 : BoxD) {r : R_F8} (h : F8 Nf a1 = some r) : PR1 prg 13 [(.agg ((cBx a1).map .p))] (F8_v a1 r) := by
 unfold F8 at h
 apply bn h; intro x1 h1 h
 have q0 := (((Eh Nf a1 h1).cp rfl _) : CP prg 24 [(.agg ((cBx a1).map .p))] [.cells 28 ((cBx a1).map .p)] = some (i6 x1))
 apply bi h <;> intro h2 h
 ·
  rw [← sj h]
  exact fq [(5, .v (i6 x1)), (6, .d true)] (apc q0 (av h2 apn))
 ·
  have k1 := ka [(5, .v (i6 x1)), (6, .d false)] (apc q0 (av h2 apn))
  apply bn h; intro x3 h3 h
  have q2 := (((Ei Nf a1 h3).cp rfl _) : CP prg 28 [(.agg ((cBx a1).map .p))] [.cells 28 ((cBx a1).map .p)] = some (ls 1 Zc x3))
  apply bn h; intro x4 h4 h
  have k3 := k1.a [(9, .v (ls 1 Zc x3)), (10, .v (.ro [.val (.bool x4)]))] (apc q2 (apc (ig Zc 1 .i64 h4) apn))
  apply bi h <;> intro h5 h
  ·
   rw [← sj h]
   exact fq ([(11, .d true)] ++ kH k3) (k3.b (av h5 apn))
  ·
   apply bn h; intro x6 h6 h
   rw [← sj h]
   exact fq ([(11, .d false), (14, .v (vs x6))] ++ kH k3) (k3.b (av h5 (apc (((Ew Nf a1 1 1 h6).cp rfl _) : CP prg 25 [(.agg ((cBx a1).map .p)), i6 1, i6 1] [.cells 28 ((cBx a1).map .p)] = some (vs x6)) apn)))
inductive R_F7 where
  | k0 (x0 : ByteArray) (x1 : Int)
def F7_v (a1 : BoxD) (a2 : Int) (r : R_F7) : AV := match r with | .k0 x0 x1 => (.tup [vs x0, i6 x1])
def F7 (Nf : Nat) (a1 : BoxD) (a2 : Int) : Option R_F7 :=
  ((F16 Nf a1).bind fun x1 => (bif (x1 != 0) then (some (.k0 Eqq x1)) else (bif (decide (a2 < 1)) then (some (.k0 Eqq 2)) else ((F17 Nf a1 a2 0).bind fun x4 => (bif (decide ((x4.size : Int) > 1048576)) then (some (.k0 Eqq 3)) else (some (.k0 x4 0)))))))
theorem Bz (Nf : Nat) (a1 : BoxD) (a2 : Int) {r : R_F7} (h : F7 Nf a1 a2 = some r) : PR1 prg 8 [(.agg ((cBx a1).map .p)), i6 a2] (F7_v a1 a2 r) := by
 unfold F7 at h
 apply bn h; intro x1 h1 h
 have q0 := (((Eh Nf a1 h1).cp rfl _) : CP prg 24 [(.agg ((cBx a1).map .p))] [.cells 28 ((cBx a1).map .p)] = some (i6 x1))
 apply bi h <;> intro h2 h
 ·
  rw [← sj h]
  exact fq [(9, .v (i6 x1)), (11, .d true)] (apc q0 (av h2 apn))
 ·
  have k1 := ka [(9, .v (i6 x1)), (11, .d false)] (apc q0 (av h2 apn))
  apply bi h <;> intro h3 h
  ·
   rw [← sj h]
   exact fq ([(14, .d true)] ++ kH k1) (k1.b (av h3 apn))
  ·
   apply bn h; intro x4 h4 h
   have q2 := (((Ew Nf a1 a2 0 h4).cp rfl _) : CP prg 25 [(.agg ((cBx a1).map .p)), i6 a2, i6 0] [.cells 28 ((cBx a1).map .p)] = some (vs x4))
   have k3 := k1.a [(14, .d false), (17, .v (vs x4))] (av h3 (apc q2 apn))
   apply bi h <;> intro h5 h
   ·
    rw [← sj h]
    exact fq ([(20, .d true)] ++ kH k3) (k3.b (av h5 apn))
   ·
    rw [← sj h]
    exact fq ([(20, .d false)] ++ kH k3) (k3.b (av h5 apn))
def F9_v (a1 : Int) (x0 : Int) : AV := (i6 x0)
def F9 (a1 : Int) : Option Int :=
  (some a1)
theorem HJ (a1 : Int) {r : Int} (h : F9 a1 = some r) : PR1 prg 9 [i6 a1] (F9_v a1 r) := by
 unfold F9 at h
 rw [← sj h]
 exact fq [] apn
inductive R_F142 where
  | k0
def BA (a1 : ByteArray) (r : R_F142) : AV := match r with | .k0 => (.fn 57 [.ptr 2 0, .ptr 1 0, .ptr 3 0])
def BB (a1 : ByteArray) (r : R_F142) : List AB := match r with | .k0 => [.cells 3 [i6 0], .cells 9 [vs a1], .cells 9 [(vs (⟨([10] : List UInt8).toArray⟩ : ByteArray))], .cells 3 [i6 0]]
def F142 : Option R_F142 :=
  (some (.k0))
theorem CD (a1 : ByteArray) {r : R_F142} (h : F142 = some r) : CS prg 42 [vs a1, (vs (⟨([10] : List UInt8).toArray⟩ : ByteArray)), i6 0] [.cells 3 [i6 0]] = some (BA a1 r, BB a1 r) := by
 unfold F142 at h
 rw [← sj h]
 exact fc [] apn
inductive R_F126 where
  | k0
def BC (a1 : ByteArray) (r : R_F126) : AV := match r with | .k0 => (.fn 57 [.ptr 2 0, .ptr 1 0, .ptr 3 0])
def BD (a1 : ByteArray) (r : R_F126) : List AB := match r with | .k0 => [.cells 3 [i6 0], .cells 9 [vs a1], .cells 9 [(vs (⟨([10] : List UInt8).toArray⟩ : ByteArray))], .cells 3 [i6 0]]
def F126 : Option R_F126 :=
  ((F142).bind fun r1 => match r1 with | .k0 => (some (.k0)))
abbrev HK (a1 : ByteArray) : List AB := [.cells 3 [i6 0], .cells 9 [vs a1], .cells 9 [(vs (⟨([10] : List UInt8).toArray⟩ : ByteArray))], .cells 3 [i6 0]]
theorem CE (a1 : ByteArray) {r : R_F126} (h : F126 = some r) : CS prg 26 [vs a1, (vs (⟨([10] : List UInt8).toArray⟩ : ByteArray))] [.cells 3 [i6 0]] = some (BC a1 r, BD a1 r) := by
 unfold F126 at h
 apply bn h; intro r1 h1 h
 cases r1 with
 | k0 =>
  rw [← sj h]
  exact fc [(7, .r (.fn 57 [.ptr 2 0, .ptr 1 0, .ptr 3 0]) (HK a1))] (apc ((CD a1 h1) : CS prg 42 [vs a1, (vs (⟨([10] : List UInt8).toArray⟩ : ByteArray)), i6 0] [.cells 3 [i6 0]] = some ((.fn 57 [.ptr 2 0, .ptr 1 0, .ptr 3 0]), HK a1)) apn)
def CF (a1 : ByteArray) (x0 : Int) : AV := (i6 x0)
def JI (a1 : ByteArray) : Option Int :=
  ((JF a1).bind fun x1 => (some x1))
theorem Fv (a1 : ByteArray) {r : Int} (h : JI a1 = some r) : PR1 prg 59 [vs a1, (vs (⟨([10] : List UInt8).toArray⟩ : ByteArray))] (CF a1 r) := by
 unfold JI at h
 apply bn h; intro x1 h1 h
 rw [← sj h]
 exact fq [(7, .v (i6 x1))] (apc (((Kp a1 h1).cp rfl _) : CP prg 70 [vs a1, (vs (⟨([10] : List UInt8).toArray⟩ : ByteArray))] [] = some (i6 x1)) apn)
inductive R_Y110_0_2 where
  | k0
def JJ (a1 : ByteArray) (a2 : Int) (a3 a4 : ByteArray) (r : R_Y110_0_2) : AV := match r with | .k0 => (vb true)
def JK (a1 : ByteArray) (a2 : Int) (a3 a4 : ByteArray) (r : R_Y110_0_2) : List AB := match r with | .k0 => [.cells 3 [(i6 (if a2 < (a1.size : Int) then (a1.size : Int) else a2))], .cells 9 [vs a3], .cells 9 [(vs (⟨([10] : List UInt8).toArray⟩ : ByteArray))], .cells 3 [i6 0], .loop 0 none [7] [vs a4, (.p (.val undef)), i6 0, .ptr 0 0, (.p (.val undef)), vs a4, (.fn 57 [.ptr 2 0, .ptr 1 0, .ptr 3 0]), (.p (.val undef)), (.p (.val undef)), (.p (.val undef)), (.p (.val undef)), (.p (.val undef)), (.p (.val undef))] Yd Ye]
def TJ : Option R_Y110_0_2 :=
  (some (.k0))
theorem M6 (a1 : ByteArray) (a2 : Int) (a3 a4 : ByteArray) {r : R_Y110_0_2} (h : TJ = some r) : Ww (ev prg) 4 [vs a1] [.cells 3 [i6 a2], .cells 9 [vs a3], .cells 9 [(vs (⟨([10] : List UInt8).toArray⟩ : ByteArray))], .cells 3 [i6 0], .loop 0 none [7] [vs a4, (.p (.val undef)), i6 0, .ptr 0 0, (.p (.val undef)), vs a4, (.fn 57 [.ptr 2 0, .ptr 1 0, .ptr 3 0]), (.p (.val undef)), (.p (.val undef)), (.p (.val undef)), (.p (.val undef)), (.p (.val undef)), (.p (.val undef))] Yd Ye] = some (JJ a1 a2 a3 a4 r, JK a1 a2 a3 a4 r) := by
 unfold TJ at h
 rw [← sj h]
 exact fyc [] apn (by kernel_rfl)
inductive E_L157_0 where
  | k0 (x0 : Int) (x1 : ByteArray)
section
variable (a1 : ByteArray)
def Ul (v1 : Int) (v2 : ByteArray) : Option (E_L157_0 ⊕ (Int × ByteArray)) :=
  ((JI v2).bind fun x1 => (bif (decide (x1 < 0)) then (some (.inl (.k0 v1 v2))) else (bif (PF 0 (IntKind.wrap .i64 (x1 + 0)) v2.size) then ((TJ).bind fun r4 => match r4 with | .k0 => (bif (PF (IntKind.wrap .i64 (x1 + 1)) (v2.size : Int) v2.size) then (some (.inr ((if v1 < ((v2.extract (Int.toNat 0) (Int.toNat (IntKind.wrap .i64 (x1 + 0)))).size : Int) then ((v2.extract (Int.toNat 0) (Int.toNat (IntKind.wrap .i64 (x1 + 0)))).size : Int) else v1), (v2.extract (Int.toNat (IntKind.wrap .i64 (x1 + 1))) (Int.toNat (v2.size : Int)))))) else none)) else none)))
def Kx (v1 : Int) (v2 : ByteArray) : St := ⟨fr 52 ug [(0, .yl 4), (1, .ptr 2 0), (2, .ptr 1 0), (3, .ptr 3 0)], [.cells 3 [i6 v1], .cells 9 [vs v2], .cells 9 [(vs (⟨([10] : List UInt8).toArray⟩ : ByteArray))], .cells 3 [i6 0], .loop 0 none [7] [vs a1, (.p (.val undef)), i6 0, .ptr 0 0, (.p (.val undef)), vs a1, (.fn 57 [.ptr 2 0, .ptr 1 0, .ptr 3 0]), (.p (.val undef)), (.p (.val undef)), (.p (.val undef)), (.p (.val undef)), (.p (.val undef)), (.p (.val undef))] Yd Ye]⟩
theorem Ky (v1 : Int) (v2 : ByteArray) : okT 5 (Kx a1 v1 v2).h = true := (ZB rfl (ac (ac (ac (ac (ac rfl))))))
abbrev Vb (v1 : Int) (v2 : ByteArray) := evH prg 5 [0, 1, 2, 3] Hc (Kx a1 v1 v2)
def PZ (e : E_L157_0) (r : Option (Out × St)) : Prop := match e with | .k0 x0 x1 => ∃ g, r = some ((.brk 2), ⟨fr 52 g [(0, .yl 4), (1, .ptr 2 0), (2, .ptr 1 0)], [.cells 3 [i6 x0], .cells 9 [vs x1], .cells 9 [(vs (⟨([10] : List UInt8).toArray⟩ : ByteArray))], .cells 3 [i6 0], .loop 0 none [7] [vs a1, (.p (.val undef)), i6 0, .ptr 0 0, (.p (.val undef)), vs a1, (.fn 57 [.ptr 2 0, .ptr 1 0, .ptr 3 0]), (.p (.val undef)), (.p (.val undef)), (.p (.val undef)), (.p (.val undef)), (.p (.val undef)), (.p (.val undef))] Yd Ye]⟩)
abbrev NP (v1 : Int) (v2 : ByteArray) : List AB := [.cells 3 [i6 v1], .cells 9 [vs v2], .cells 9 [(vs (⟨([10] : List UInt8).toArray⟩ : ByteArray))], .cells 3 [i6 0], .loop 0 none [7] [vs a1, (.p (.val undef)), i6 0, .ptr 0 0, (.p (.val undef)), vs a1, (.fn 57 [.ptr 2 0, .ptr 1 0, .ptr 3 0]), (.p (.val undef)), (.p (.val undef)), (.p (.val undef)), (.p (.val undef)), (.p (.val undef)), (.p (.val undef))] Yd Ye]
abbrev NQ (v1 : Int) (v2 : ByteArray) (x1 : Int) : List AB := [.cells 3 [(i6 (if v1 < ((v2.extract (Int.toNat 0) (Int.toNat (w6 (x1 + 0)))).size : Int) then ((v2.extract (Int.toNat 0) (Int.toNat (w6 (x1 + 0)))).size : Int) else v1))], .cells 9 [vs v2], .cells 9 [(vs (⟨([10] : List UInt8).toArray⟩ : ByteArray))], .cells 3 [i6 0], .loop 0 none [7] [vs a1, (.p (.val undef)), i6 0, .ptr 0 0, (.p (.val undef)), vs a1, (.fn 57 [.ptr 2 0, .ptr 1 0, .ptr 3 0]), (.p (.val undef)), (.p (.val undef)), (.p (.val undef)), (.p (.val undef)), (.p (.val undef)), (.p (.val undef))] Yd Ye]
theorem HL (v1 : Int) (v2 : ByteArray) {r : E_L157_0 ⊕ (Int × ByteArray)} (h : Ul v1 v2 = some r) : OkR (fun e => PZ a1 e (Vb a1 v1 v2)) (fun s => Vb a1 v1 v2 = Vb a1 s.1 s.2) r := by
 unfold Ul at h
 apply bn h; intro x1 h1 h
 have q0 := (((Fv v2 h1).cp rfl _) : CP prg 59 [vs v2, (vs (⟨([10] : List UInt8).toArray⟩ : ByteArray))] (NP a1 v1 v2) = some (i6 x1))
 apply bi h <;> intro h2 h
 ·
  rw [← sj h]
  exact xb [(31, .v (i6 x1)), (33, .d true), (6000, .d true)] (apc q0 (av h2 apn))
 ·
  have k1 := ka [(31, .v (i6 x1)), (33, .d false)] (apc q0 (av h2 apn))
  apply bi h <;> intro h3 h
  ·
   have q2 := ((LP h3) : slS (vs v2) (some 0) (some (w6 (x1 + 0))) = some (vs (v2.extract (Int.toNat 0) (Int.toNat (w6 (x1 + 0))))))
   have k3 := k1.a [(38, .v (vs (v2.extract (Int.toNat 0) (Int.toNat (w6 (x1 + 0))))))] (apc q2 apn)
   apply bn h; intro r4 h4 h
   cases r4 with
   | k0 =>
    have q4 := ((M6 (v2.extract (Int.toNat 0) (Int.toNat (w6 (x1 + 0)))) v1 v2 a1 h4) : Ww (ev prg) 4 [(vs (v2.extract (Int.toNat 0) (Int.toNat (w6 (x1 + 0)))))] (NP a1 v1 v2) = some ((vb true), NQ a1 v1 v2 x1))
    have k5 := k3.a [(41, .r (vb true) (NQ a1 v1 v2 x1))] (apc q4 apn)
    apply bi h <;> intro h5 h
    ·
     rw [← sj h]
     exact rn ([(48, .v (vs (v2.extract (Int.toNat (w6 (x1 + 1))) (Int.toNat (v2.size : Int))))), (6000, .d true)] ++ kH k5) (k5.b (apc ((LP h5) : slS (vs v2) (some (w6 (x1 + 1))) (some (v2.size : Int)) = some (vs (v2.extract (Int.toNat (w6 (x1 + 1))) (Int.toNat (v2.size : Int))))) (apc (Ky a1 (if v1 < ((v2.extract (Int.toNat 0) (Int.toNat (w6 (x1 + 0)))).size : Int) then ((v2.extract (Int.toNat 0) (Int.toNat (w6 (x1 + 0)))).size : Int) else v1) (v2.extract (Int.toNat (w6 (x1 + 1))) (Int.toNat (v2.size : Int)))) apn)))
    ·
     cases h
  ·
   cases h
theorem JL (s0 : Int × ByteArray) (e : E_L157_0) (h : runL (fun s => Ul s.1 s.2) s0 = some e) : PZ a1 e (Vb a1 s0.1 s0.2) := by
  have q := @Zg (Int × ByteArray) E_L157_0 (fun s => Ul s.1 s.2) (fun s => Vb a1 s.1 s.2) (PZ a1) (fun s r h => HL a1 s.1 s.2 h) s0 e h
  exact q
end
inductive R_Y110_0_3 where
  | k0
def JM (a1 : ByteArray) (a2 : Int) (a3 : ByteArray) (r : R_Y110_0_3) : AV := match r with | .k0 => (vb true)
def JN (a1 : ByteArray) (a2 : Int) (a3 : ByteArray) (r : R_Y110_0_3) : List AB := match r with | .k0 => [.cells 3 [(i6 (if a2 < (a1.size : Int) then (a1.size : Int) else a2))], .cells 9 [vs a1], .cells 9 [(vs (⟨([10] : List UInt8).toArray⟩ : ByteArray))], .cells 3 [i6 0], .loop 0 none [7] [vs a3, (.p (.val undef)), i6 0, .ptr 0 0, (.p (.val undef)), vs a3, (.fn 57 [.ptr 2 0, .ptr 1 0, .ptr 3 0]), (.p (.val undef)), (.p (.val undef)), (.p (.val undef)), (.p (.val undef)), (.p (.val undef)), (.p (.val undef))] Yd Ye]
def TK : Option R_Y110_0_3 :=
  (some (.k0))
theorem M7 (a1 : ByteArray) (a2 : Int) (a3 : ByteArray) {r : R_Y110_0_3} (h : TK = some r) : Ww (ev prg) 4 [vs a1] [.cells 3 [i6 a2], .cells 9 [vs a1], .cells 9 [(vs (⟨([10] : List UInt8).toArray⟩ : ByteArray))], .cells 3 [i6 0], .loop 0 none [7] [vs a3, (.p (.val undef)), i6 0, .ptr 0 0, (.p (.val undef)), vs a3, (.fn 57 [.ptr 2 0, .ptr 1 0, .ptr 3 0]), (.p (.val undef)), (.p (.val undef)), (.p (.val undef)), (.p (.val undef)), (.p (.val undef)), (.p (.val undef))] Yd Ye] = some (JM a1 a2 a3 r, JN a1 a2 a3 r) := by
 unfold TK at h
 rw [← sj h]
 exact fyc [] apn (by kernel_rfl)
inductive R_F157 where
  | k0 (x0 : Int) (x1 : ByteArray)
def BE (a1 : ByteArray) (r : R_F157) : AV := match r with | .k0 x0 x1 => (.tup [])
def BF (a1 : ByteArray) (r : R_F157) : List AB := match r with | .k0 x0 x1 => [.cells 3 [i6 x0], .cells 9 [vs x1], .cells 9 [(vs (⟨([10] : List UInt8).toArray⟩ : ByteArray))], .cells 3 [i6 0], .loop 0 none [7] [vs a1, (.p (.val undef)), i6 0, .ptr 0 0, (.p (.val undef)), vs a1, (.fn 57 [.ptr 2 0, .ptr 1 0, .ptr 3 0]), (.p (.val undef)), (.p (.val undef)), (.p (.val undef)), (.p (.val undef)), (.p (.val undef)), (.p (.val undef))] Yd Ye]
def F157 (a1 : ByteArray) : Option R_F157 :=
  ((runL (fun s => Ul s.1 s.2) (0, a1)).bind fun r1 => match r1 with | .k0 x1_0 x1_1 => ((TK).bind fun r2 => match r2 with | .k0 => (some (.k0 (if x1_0 < (x1_1.size : Int) then (x1_1.size : Int) else x1_0) x1_1))))
abbrev HM (g1 : Nat → AV) (x1_0 : Int) (x1_1 a1 : ByteArray) : St := ⟨fr 52 g1 [(0, .yl 4), (1, .ptr 2 0), (2, .ptr 1 0)], [.cells 3 [i6 x1_0], .cells 9 [vs x1_1], .cells 9 [(vs (⟨([10] : List UInt8).toArray⟩ : ByteArray))], .cells 3 [i6 0], .loop 0 none [7] [vs a1, (.p (.val undef)), i6 0, .ptr 0 0, (.p (.val undef)), vs a1, (.fn 57 [.ptr 2 0, .ptr 1 0, .ptr 3 0]), (.p (.val undef)), (.p (.val undef)), (.p (.val undef)), (.p (.val undef)), (.p (.val undef)), (.p (.val undef))] Yd Ye]⟩
abbrev HN (x1_0 : Int) (x1_1 a1 : ByteArray) : List AB := [.cells 3 [(i6 (if x1_0 < (x1_1.size : Int) then (x1_1.size : Int) else x1_0))], .cells 9 [vs x1_1], .cells 9 [(vs (⟨([10] : List UInt8).toArray⟩ : ByteArray))], .cells 3 [i6 0], .loop 0 none [7] [vs a1, (.p (.val undef)), i6 0, .ptr 0 0, (.p (.val undef)), vs a1, (.fn 57 [.ptr 2 0, .ptr 1 0, .ptr 3 0]), (.p (.val undef)), (.p (.val undef)), (.p (.val undef)), (.p (.val undef)), (.p (.val undef)), (.p (.val undef))] Yd Ye]
theorem CG (a1 : ByteArray) {r : R_F157} (h : F157 a1 = some r) : CS prg 57 [.yl 4, .ptr 2 0, .ptr 1 0, .ptr 3 0] [.cells 3 [i6 0], .cells 9 [vs a1], .cells 9 [(vs (⟨([10] : List UInt8).toArray⟩ : ByteArray))], .cells 3 [i6 0], .loop 0 none [7] [vs a1, (.p (.val undef)), i6 0, .ptr 0 0, (.p (.val undef)), vs a1, (.fn 57 [.ptr 2 0, .ptr 1 0, .ptr 3 0]), (.p (.val undef)), (.p (.val undef)), (.p (.val undef)), (.p (.val undef)), (.p (.val undef)), (.p (.val undef))] Yd Ye] = some (BE a1 r, BF a1 r) := by
 unfold F157 at h
 apply bn h; intro r1 h1 h
 cases r1 with
 | k0 x1_0 x1_1 =>
  obtain ⟨g1, e1⟩ := JL a1 (0, a1) _ h1
  apply bn h; intro r2 h2 h
  cases r2 with
  | k0 =>
   rw [← sj h]
   exact fc [(2002, .l (.brk 2) (HM g1 x1_0 x1_1 a1)), (51, .r (vb true) (HN x1_0 x1_1 a1)), (6000, .d true)] (apc (Ky a1 0 a1) (apc (e1 : Vb a1 0 a1 = some ((.brk 2), HM g1 x1_0 x1_1 a1)) (apc ((M7 x1_1 x1_0 a1 h2) : Ww (ev prg) 4 [vs x1_1] [.cells 3 [i6 x1_0], .cells 9 [vs x1_1], .cells 9 [(vs (⟨([10] : List UInt8).toArray⟩ : ByteArray))], .cells 3 [i6 0], .loop 0 none [7] [vs a1, (.p (.val undef)), i6 0, .ptr 0 0, (.p (.val undef)), vs a1, (.fn 57 [.ptr 2 0, .ptr 1 0, .ptr 3 0]), (.p (.val undef)), (.p (.val undef)), (.p (.val undef)), (.p (.val undef)), (.p (.val undef)), (.p (.val undef))] Yd Ye] = some ((vb true), HN x1_0 x1_1 a1)) apn)))
def BG (a1 : ByteArray) (x0 : Int) : AV := (i6 x0)
def F110 (a1 : ByteArray) : Option Int :=
  ((F126).bind fun r1 => match r1 with | .k0 => ((F157 a1).bind fun r2 => match r2 with | .k0 x2_0 x2_1 => (some x2_0)))
abbrev M8 (a1 : ByteArray) : List AB := [.cells 3 [i6 0], .cells 9 [vs a1], .cells 9 [(vs (⟨([10] : List UInt8).toArray⟩ : ByteArray))], .cells 3 [i6 0]]
abbrev HO (x2_0 : Int) (x2_1 : ByteArray) : List AB := [.cells 3 [i6 x2_0], .cells 9 [vs x2_1], .cells 9 [(vs (⟨([10] : List UInt8).toArray⟩ : ByteArray))], .cells 3 [i6 0], .dead]
theorem M9 (a1 : ByteArray) {r : Int} (h : F110 a1 = some r) : PR1 prg 10 [vs a1] (BG a1 r) := by
 unfold F110 at h
 apply bn h; intro r1 h1 h
 cases r1 with
 | k0 =>
  apply bn h; intro r2 h2 h
  cases r2 with
  | k0 x2_0 x2_1 =>
   rw [← sj h]
   exact fq [(6, .r (.fn 57 [.ptr 2 0, .ptr 1 0, .ptr 3 0]) (M8 a1)), (2000, .l .norm ⟨[vs a1, (.p (.val undef)), i6 0, .ptr 0 0, (.p (.val undef)), vs a1, (.fn 57 [.ptr 2 0, .ptr 1 0, .ptr 3 0]), (.p (.val undef)), (.p (.val undef)), (.p (.val undef)), (.p (.val undef)), (.p (.val undef)), (.p (.val undef))], HO x2_0 x2_1⟩)] (apc ((CE a1 h1) : CS prg 26 [vs a1, (vs (⟨([10] : List UInt8).toArray⟩ : ByteArray))] [.cells 3 [i6 0]] = some ((.fn 57 [.ptr 2 0, .ptr 1 0, .ptr 3 0]), M8 a1)) (apc ((GU rfl (CG a1 h2) rfl) : ev prg (.rangeF (.t 6) [7] Yd Ye) ⟨[vs a1, (.p (.val undef)), i6 0, .ptr 0 0, (.p (.val undef)), vs a1, (.fn 57 [.ptr 2 0, .ptr 1 0, .ptr 3 0]), (.p (.val undef)), (.p (.val undef)), (.p (.val undef)), (.p (.val undef)), (.p (.val undef)), (.p (.val undef))], M8 a1⟩ = some (.norm, ⟨[vs a1, (.p (.val undef)), i6 0, .ptr 0 0, (.p (.val undef)), vs a1, (.fn 57 [.ptr 2 0, .ptr 1 0, .ptr 3 0]), (.p (.val undef)), (.p (.val undef)), (.p (.val undef)), (.p (.val undef)), (.p (.val undef)), (.p (.val undef))], HO x2_0 x2_1⟩)) apn))
inductive E_L105_1 where
  | k0 (x0 : Bool)
section
variable (a1 : Bqq) (a2 : ByteArray)
abbrev Kz (l : List AB) : List AB := .row 28 4 0 (ra cBx []) :: .cells 28 [i6 4, (vs Eqq), i6 0, (.p (.lst 4 (Zb a1)))] :: l
def Um (v1 : Bool) (v2 : Int) : Option (E_L105_1 ⊕ (Bool × Int)) :=
  (bif (decide (v2 < (a1.length : Int))) then (bif v1 then (some (.inr (true, (IntKind.wrap .i64 (v2 + 1))))) else ((getI a1 v2).bind fun x3 => (bif (x3.kind == 1) then (some (.inr (true, (IntKind.wrap .i64 (v2 + 1))))) else (some (.inr (false, (IntKind.wrap .i64 (v2 + 1)))))))) else (some (.inl (.k0 v1))))
def KA (v1 : Bool) (v2 : Int) : St := ⟨fr 101 ug [(0, (.p (.lst 4 (Zb a1)))), (8, vs a2), (10, vb v1), (11, i6 v2)], (Kz a1 [])⟩
theorem TL (v1 : Bool) (v2 : Int) : okT 2 (KA a1 a2 v1 v2).h = true := (ZB rfl (ar (ac rfl)))
abbrev Vc (v1 : Bool) (v2 : Int) := evH prg 2 [0, 8, 10, 11] F0 (KA a1 a2 v1 v2)
def P1 (e : E_L105_1) (r : Option (Out × St)) : Prop := match e with | .k0 x0 => ∃ g, r = some ((.brk 0), ⟨fr 101 g [(0, (.p (.lst 4 (Zb a1)))), (8, vs a2), (10, vb x0)], (Kz a1 [])⟩)
theorem HP (v1 : Bool) (v2 : Int) {r : E_L105_1 ⊕ (Bool × Int)} (h : Um a1 v1 v2 = some r) : OkR (fun e => P1 a1 a2 e (Vc a1 a2 v1 v2)) (fun s => Vc a1 a2 v1 v2 = Vc a1 a2 s.1 s.2) r := by
 unfold Um at h
 have q0 := ((lgr Zv) : lnA (.p (.lst 4 (Zb a1))) = some (i6 (a1.length : Int)))
 apply bi h <;> intro h1 h
 ·
  have k1 := ka [(67, .v (i6 (a1.length : Int))), (68, .d true)] (apc q0 (av h1 apn))
  apply bi h <;> intro h2 h
  ·
   rw [← sj h]
   exact rn ([(71, .d true), (6000, .d true)] ++ kH k1) (k1.b (av h2 (apc (TL a1 a2 true (w6 (v2 + 1))) apn)))
  ·
   apply bn h; intro x3 h3 h
   have q2 := ((igr Zv h3) : idxA 4 (.p (.lst 4 (Zb a1))) (i6 v2) = some (.ro (cBx x3)))
   have k3 := k1.a [(71, .d false), (75, .v (.ro (cBx x3)))] (av h2 (apc q2 apn))
   apply bi h <;> intro h4 h
   ·
    rw [← sj h]
    exact rn ([(78, .d true), (6000, .d true)] ++ kH k3) (k3.b (av h4 (apc (TL a1 a2 true (w6 (v2 + 1))) apn)))
   ·
    rw [← sj h]
    exact rn ([(78, .d false), (6000, .d true)] ++ kH k3) (k3.b (av h4 (apc (TL a1 a2 false (w6 (v2 + 1))) apn)))
 ·
  rw [← sj h]
  exact xb [(67, .v (i6 (a1.length : Int))), (68, .d false), (6000, .d true)] (apc q0 (av h1 apn))
theorem JO (s0 : Bool × Int) (e : E_L105_1) (h : runL (fun s => Um a1 s.1 s.2) s0 = some e) : P1 a1 a2 e (Vc a1 a2 s0.1 s0.2) := by
  have q := @Zg (Bool × Int) E_L105_1 (fun s => Um a1 s.1 s.2) (fun s => Vc a1 a2 s.1 s.2) (P1 a1 a2) (fun s r h => HP a1 a2 s.1 s.2 h) s0 e h
  exact q
end
inductive E_L105_0 where
  | k0 (x0 : Int)
section
variable (a1 : ByteArray) (a2 : Bool) (a3 : Bqq)
abbrev KB (l : List AB) : List AB := .row 28 4 0 (ra cBx []) :: .cells 28 [i6 4, (vs Eqq), i6 0, (.p (.lst 4 (Zb a3)))] :: l
def Un (v1 v2 : Int) : Option (E_L105_0 ⊕ (Int × Int)) :=
  (bif (decide (v2 < (a1.size : Int))) then ((getI a1.data.toList v2).bind fun x2 => (bif ((x2.toNat : Int) == 10) then (some (.inr ((IntKind.wrap .i64 (v1 + 1)), (IntKind.wrap .i64 (v2 + 1))))) else (some (.inr (v1, (IntKind.wrap .i64 (v2 + 1))))))) else (some (.inl (.k0 v1))))
def KC (v1 v2 : Int) : St := ⟨fr 101 ug [(8, vs a1), (10, vb a2), (12, i6 v1), (13, i6 v2)], (KB a3 [])⟩
theorem P2 (v1 v2 : Int) : okT 2 (KC a1 a2 a3 v1 v2).h = true := (ZB rfl (ar (ac rfl)))
abbrev Vd (v1 v2 : Int) := evH prg 2 [8, 10, 12, 13] FZ (KC a1 a2 a3 v1 v2)
def P3 (e : E_L105_0) (r : Option (Out × St)) : Prop := match e with | .k0 x0 => ∃ g, r = some ((.brk 2), ⟨fr 101 g [(8, vs a1), (10, vb a2), (12, i6 x0)], (KB a3 [])⟩)
theorem HQ (v1 v2 : Int) {r : E_L105_0 ⊕ (Int × Int)} (h : Un a1 v1 v2 = some r) : OkR (fun e => P3 a1 a2 a3 e (Vd a1 a2 a3 v1 v2)) (fun s => Vd a1 a2 a3 v1 v2 = Vd a1 a2 a3 s.1 s.2) r := by
 unfold Un at h
 apply bi h <;> intro h1 h
 ·
  apply bn h; intro x2 h2 h
  have q0 := ((OJ h2) : ixS (vs a1) (i6 v2) = some (vi .u8 (x2.toNat : Int)))
  have k1 := ka [(83, .d true), (88, .v (vi .u8 (x2.toNat : Int)))] (av h1 (apc q0 apn))
  apply bi h <;> intro h3 h
  ·
   rw [← sj h]
   exact rn ([(89, .d true), (6000, .d true)] ++ kH k1) (k1.b (av h3 (apc (P2 a1 a2 a3 (w6 (v1 + 1)) (w6 (v2 + 1))) apn)))
  ·
   rw [← sj h]
   exact rn ([(89, .d false), (6000, .d true)] ++ kH k1) (k1.b (av h3 (apc (P2 a1 a2 a3 v1 (w6 (v2 + 1))) apn)))
 ·
  rw [← sj h]
  exact xb [(83, .d false), (6000, .d true)] (av h1 apn)
theorem JP (s0 : Int × Int) (e : E_L105_0) (h : runL (fun s => Un a1 s.1 s.2) s0 = some e) : P3 a1 a2 a3 e (Vd a1 a2 a3 s0.1 s0.2) := by
  have q := @Zg (Int × Int) E_L105_0 (fun s => Un a1 s.1 s.2) (fun s => Vd a1 a2 a3 s.1 s.2) (P3 a1 a2 a3) (fun s r h => HQ a1 a2 a3 s.1 s.2 h) s0 e h
  exact q
end
set_option maxHeartbeats 4000000
def BH (a1 : Bqq) (a2 : Int) (x0 : Bool) : AV := (vb x0)
def F105 (Nf : Nat) (a1 : Bqq) (a2 : Int) : Option Bool :=
  ((F5 Nf (BoxD.mk 4 Eqq 0 a1)).bind fun x1 => (bif x1 then (bif (decide (a2 < 1)) then ((F6).bind fun x4 => (some x4)) else ((F8 Nf (BoxD.mk 4 Eqq 0 a1)).bind fun r4 => match r4 with | .k0 x4_0 x4_1 => (bif x4_1 then ((F7 Nf (BoxD.mk 4 Eqq 0 a1) a2).bind fun r6 => match r6 with | .k0 x6_0 x6_1 => ((F9 x6_1).bind fun x7 => (bif (x7 != 0) then ((F9 x6_1).bind fun x9 => (bif (x9 != 0) then ((F6).bind fun x11 => (some x11)) else ((F110 x6_0).bind fun x11 => (bif (decide (x11 ≤ (x6_0.size : Int))) then ((F6).bind fun x13 => (some x13)) else (some false))))) else (bif (decide ((x4_0.size : Int) ≤ a2)) then (bif (x6_0.toList == x4_0.toList) then ((F6).bind fun x11 => (some x11)) else (some false)) else ((runL (fun s => Um a1 s.1 s.2) (false, 0)).bind fun r10 => match r10 with | .k0 x10_0 => ((runL (fun s => Un x6_0 s.1 s.2) (0, 0)).bind fun r11 => match r11 with | .k0 x11_0 => (bif x10_0 then (bif (decide (x11_0 > 0)) then ((F6).bind fun x14 => (some x14)) else (some false)) else ((F6).bind fun x13 => (some x13))))))))) else ((F7 Nf (BoxD.mk 4 Eqq 0 a1) a2).bind fun r6 => match r6 with | .k0 x6_0 x6_1 => ((F9 x6_1).bind fun x7 => (bif (x7 != 0) then ((F9 x6_1).bind fun x9 => (bif (x9 != 0) then ((F6).bind fun x11 => (some x11)) else ((F110 x6_0).bind fun x11 => (bif (decide (x11 ≤ (x6_0.size : Int))) then ((F6).bind fun x13 => (some x13)) else (some false))))) else ((F9 x6_1).bind fun x9 => (bif (x9 != 0) then ((F6).bind fun x11 => (some x11)) else ((F110 x6_0).bind fun x11 => (bif (decide (x11 ≤ (x6_0.size : Int))) then ((F6).bind fun x13 => (some x13)) else (some false))))))))))) else ((F6).bind fun x3 => (some x3))))
abbrev ZE (a1 : Bqq) : List AB := [.row 28 4 0 (ra cBx []), .cells 28 [i6 4, (vs Eqq), i6 0, (.p (.lst 4 (Zb a1)))]]
abbrev HS (g10 : Nat → AV) (a1 : Bqq) (x6_0 : ByteArray) (x10_0 : Bool) : St := ⟨fr 101 g10 [(0, (.p (.lst 4 (Zb a1)))), (8, vs x6_0), (10, vb x10_0)], [.row 28 4 0 (ra cBx []), .cells 28 [i6 4, (vs Eqq), i6 0, (.p (.lst 4 (Zb a1)))]]⟩
abbrev HT (g11 : Nat → AV) (x6_0 : ByteArray) (x10_0 : Bool) (x11_0 : Int) (a1 : Bqq) : St := ⟨fr 101 g11 [(8, vs x6_0), (10, vb x10_0), (12, i6 x11_0)], [.row 28 4 0 (ra cBx []), .cells 28 [i6 4, (vs Eqq), i6 0, (.p (.lst 4 (Zb a1)))]]⟩
theorem CH (Nf : Nat) (a1 : Bqq) (a2 : Int) {r : Bool} (h : F105 Nf a1 a2 = some r) : PR1 prg 5 [(.p (.lst 4 (Zb a1))), i6 a2] (BH a1 a2 r) := by
 unfold F105 at h
 apply bn h; intro x1 h1 h
 apply bi h <;> intro h2 h
 ·
  have q0 := ((((Bp Nf (BoxD.mk 4 Eqq 0 a1) h1).cp rfl _).trans (congrArg (fun z => some (vb z)) h2)) : CP prg 11 [(.agg [i6 4, (vs Eqq), i6 0, (.p (.lst 4 (Zb a1)))])] (ZE a1) = some (vb true))
  apply bi h <;> intro h3 h
  ·
   apply bn h; intro x4 h4 h
   rw [← sj h]
   exact fq [(17, .v (vb true)), (21, .d true), (23, .v (vb x4))] (apc q0 (av h3 (apc (((SA  h4).cp rfl _) : CP prg 6 [] (ZE a1) = some (vb x4)) apn)))
  ·
   have k1 := ka [(17, .v (vb true)), (21, .d false)] (apc q0 (av h3 apn))
   apply bn h; intro r4 h4 h
   cases r4 with
   | k0 x4_0 x4_1 =>
    have q2 := (((AD Nf (BoxD.mk 4 Eqq 0 a1) h4).cp rfl _) : CP prg 13 [(.agg [i6 4, (vs Eqq), i6 0, (.p (.lst 4 (Zb a1)))])] (ZE a1) = some (.tup [vs x4_0, vb x4_1]))
    apply bi h <;> intro h5 h
    ·
     have k3 := k1.a [(26, .v (.tup [vs x4_0, vb x4_1])), (28, .d true)] (apc q2 (av h5 apn))
     apply bn h; intro r6 h6 h
     cases r6 with
     | k0 x6_0 x6_1 =>
      have q4 := (((Bz Nf (BoxD.mk 4 Eqq 0 a1) a2 h6).cp rfl _) : CP prg 8 [(.agg [i6 4, (vs Eqq), i6 0, (.p (.lst 4 (Zb a1)))]), i6 a2] (ZE a1) = some (.tup [vs x6_0, i6 x6_1]))
      apply bn h; intro x7 h7 h
      have q5 := (((HJ x6_1 h7).cp rfl _) : CP prg 9 [i6 x6_1] (ZE a1) = some (i6 x7))
      have k6 := k3.a [(32, .v (.tup [vs x6_0, i6 x6_1])), (36, .v (i6 x7))] (apc q4 (apc q5 apn))
      apply bi h <;> intro h8 h
      ·
       apply bn h; intro x9 h9 h
       have q7 := (((HJ x6_1 h9).cp rfl _) : CP prg 9 [i6 x6_1] (ZE a1) = some (i6 x9))
       have k8 := k6.a [(37, .d true), (43, .v (i6 x9))] (av h8 (apc q7 apn))
       apply bi h <;> intro h10 h
       ·
        apply bn h; intro x11 h11 h
        rw [← sj h]
        exact fq ([(44, .d true), (53, .v (vb x11))] ++ kH k8) (k8.b (av h10 (apc (((SA  h11).cp rfl _) : CP prg 6 [] (ZE a1) = some (vb x11)) apn)))
       ·
        apply bn h; intro x11 h11 h
        have q9 := (((M9 x6_0 h11).cp rfl _) : CP prg 10 [vs x6_0] (ZE a1) = some (i6 x11))
        have k10 := k8.a [(44, .d false), (47, .v (i6 x11))] (av h10 (apc q9 apn))
        apply bi h <;> intro h12 h
        ·
         apply bn h; intro x13 h13 h
         rw [← sj h]
         exact fq ([(50, .d true), (53, .v (vb x13))] ++ kH k10) (k10.b (av h12 (apc (((SA  h13).cp rfl _) : CP prg 6 [] (ZE a1) = some (vb x13)) apn)))
        ·
         rw [← sj h]
         exact fq ([(50, .d false)] ++ kH k10) (k10.b (av h12 apn))
      ·
       apply bi h <;> intro h9 h
       ·
        have k11 := k6.a [(37, .d false), (58, .d true)] (av h8 (av h9 apn))
        apply bi h <;> intro h10 h
        ·
         apply bn h; intro x11 h11 h
         rw [← sj h]
         exact fq ([(61, .d true), (63, .v (vb x11))] ++ kH k11) (k11.b (av h10 (apc (((SA  h11).cp rfl _) : CP prg 6 [] (ZE a1) = some (vb x11)) apn)))
        ·
         rw [← sj h]
         exact fq ([(61, .d false)] ++ kH k11) (k11.b (av h10 apn))
       ·
        have k12 := k6.a [(37, .d false), (58, .d false)] (av h8 (av h9 apn))
        apply bn h; intro r10 h10 h
        cases r10 with
        | k0 x10_0 =>
         obtain ⟨g10, e10⟩ := JO a1 x6_0 (false, 0) _ h10
         have q13 := (e10 : Vc a1 x6_0 false 0 = some ((.brk 0), HS g10 a1 x6_0 x10_0))
         have k14 := k12.a [(2000, .l (.brk 0) (HS g10 a1 x6_0 x10_0))] (apc (TL a1 x6_0 false 0) (apc q13 apn))
         apply bn h; intro r11 h11 h
         cases r11 with
         | k0 x11_0 =>
          obtain ⟨g11, e11⟩ := JP x6_0 x10_0 a1 (0, 0) _ h11
          have q15 := (e11 : Vd x6_0 x10_0 a1 0 0 = some ((.brk 2), HT g11 x6_0 x10_0 x11_0 a1))
          have k16 := k14.a [(2002, .l (.brk 2) (HT g11 x6_0 x10_0 x11_0 a1))] (apc (P2 x6_0 x10_0 a1 0 0) (apc q15 apn))
          apply bi h <;> intro h12 h
          ·
           apply bi h <;> intro h13 h
           ·
            apply bn h; intro x14 h14 h
            rw [← sj h]
            exact fq ([(92, .d true), (96, .d true), (99, .v (vb x14)), (6000, .d true)] ++ kH k16) (k16.b (av h12 (av h13 (apc (((SA  h14).cp rfl _) : CP prg 6 [] (ZE a1) = some (vb x14)) apn))))
           ·
            rw [← sj h]
            exact fq ([(92, .d true), (96, .d false), (6000, .d true)] ++ kH k16) (k16.b (av h12 (av h13 apn)))
          ·
           apply bn h; intro x13 h13 h
           rw [← sj h]
           exact fq ([(92, .d false), (99, .v (vb x13)), (6000, .d true)] ++ kH k16) (k16.b (av h12 (apc (((SA  h13).cp rfl _) : CP prg 6 [] (ZE a1) = some (vb x13)) apn)))
    ·
     have k17 := k1.a [(26, .v (.tup [vs x4_0, vb x4_1])), (28, .d false)] (apc q2 (av h5 apn))
     apply bn h; intro r6 h6 h
     cases r6 with
     | k0 x6_0 x6_1 =>
      have q18 := (((Bz Nf (BoxD.mk 4 Eqq 0 a1) a2 h6).cp rfl _) : CP prg 8 [(.agg [i6 4, (vs Eqq), i6 0, (.p (.lst 4 (Zb a1)))]), i6 a2] (ZE a1) = some (.tup [vs x6_0, i6 x6_1]))
      apply bn h; intro x7 h7 h
      have q19 := (((HJ x6_1 h7).cp rfl _) : CP prg 9 [i6 x6_1] (ZE a1) = some (i6 x7))
      have k20 := k17.a [(32, .v (.tup [vs x6_0, i6 x6_1])), (36, .v (i6 x7))] (apc q18 (apc q19 apn))
      apply bi h <;> intro h8 h
      ·
       apply bn h; intro x9 h9 h
       have q21 := (((HJ x6_1 h9).cp rfl _) : CP prg 9 [i6 x6_1] (ZE a1) = some (i6 x9))
       have k22 := k20.a [(37, .d true), (43, .v (i6 x9))] (av h8 (apc q21 apn))
       apply bi h <;> intro h10 h
       ·
        apply bn h; intro x11 h11 h
        rw [← sj h]
        exact fq ([(44, .d true), (53, .v (vb x11))] ++ kH k22) (k22.b (av h10 (apc (((SA  h11).cp rfl _) : CP prg 6 [] (ZE a1) = some (vb x11)) apn)))
       ·
        apply bn h; intro x11 h11 h
        have q23 := (((M9 x6_0 h11).cp rfl _) : CP prg 10 [vs x6_0] (ZE a1) = some (i6 x11))
        have k24 := k22.a [(44, .d false), (47, .v (i6 x11))] (av h10 (apc q23 apn))
        apply bi h <;> intro h12 h
        ·
         apply bn h; intro x13 h13 h
         rw [← sj h]
         exact fq ([(50, .d true), (53, .v (vb x13))] ++ kH k24) (k24.b (av h12 (apc (((SA  h13).cp rfl _) : CP prg 6 [] (ZE a1) = some (vb x13)) apn)))
        ·
         rw [← sj h]
         exact fq ([(50, .d false)] ++ kH k24) (k24.b (av h12 apn))
      ·
       apply bn h; intro x9 h9 h
       have q25 := (((HJ x6_1 h9).cp rfl _) : CP prg 9 [i6 x6_1] (ZE a1) = some (i6 x9))
       have k26 := k20.a [(37, .d false), (43, .v (i6 x9))] (av h8 (apc q25 apn))
       apply bi h <;> intro h10 h
       ·
        apply bn h; intro x11 h11 h
        rw [← sj h]
        exact fq ([(44, .d true), (53, .v (vb x11))] ++ kH k26) (k26.b (av h10 (apc (((SA  h11).cp rfl _) : CP prg 6 [] (ZE a1) = some (vb x11)) apn)))
       ·
        apply bn h; intro x11 h11 h
        have q27 := (((M9 x6_0 h11).cp rfl _) : CP prg 10 [vs x6_0] (ZE a1) = some (i6 x11))
        have k28 := k26.a [(44, .d false), (47, .v (i6 x11))] (av h10 (apc q27 apn))
        apply bi h <;> intro h12 h
        ·
         apply bn h; intro x13 h13 h
         rw [← sj h]
         exact fq ([(50, .d true), (53, .v (vb x13))] ++ kH k28) (k28.b (av h12 (apc (((SA  h13).cp rfl _) : CP prg 6 [] (ZE a1) = some (vb x13)) apn)))
        ·
         rw [← sj h]
         exact fq ([(50, .d false)] ++ kH k28) (k28.b (av h12 apn))
 ·
  apply bn h; intro x3 h3 h
  rw [← sj h]
  exact fq [(17, .v (vb false)), (23, .v (vb x3))] (apc ((((Bp Nf (BoxD.mk 4 Eqq 0 a1) h1).cp rfl _).trans (congrArg (fun z => some (vb z)) h2)) : CP prg 11 [(.agg [i6 4, (vs Eqq), i6 0, (.p (.lst 4 (Zb a1)))])] (ZE a1) = some (vb false)) (apc (((SA  h3).cp rfl _) : CP prg 6 [] (ZE a1) = some (vb x3)) apn))
end
end Go.Proofs.Tryd
