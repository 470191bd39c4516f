/- Decompiled by a program: functions as plain data see them, part 2. -/
import Derived.Test.YtefbhnhekkncpaaDoorH31
namespace Go.Proofs.Tryd
set_option linter.unusedSimpArgs false
set_option linter.unusedVariables false
set_option maxHeartbeats 4000000
open Go Go.Vs
noncomputable section
inductive R_F37_10 where
  | k0 (x0 x1 : Nat) (x2 : Tqq)
def Ff (c j : Nat) (i : ThingD) (o u : Int) (A : BoxD) (k : Tqq) (G : Bool) (D I E : Nat) (B : Oqq) (C : Iqq) (H J : Int) (K : Iqq) (L : Nat) (N : Bqq) (M : ThingD) (O : Nat) (P : Int) (r : R_F37_10) : AV := match r with | .k0 x0 x1 x2 => (.sl 1 x0 7 0 x1)
def Fg (c j : Nat) (i : ThingD) (o u : Int) (A : BoxD) (k : Tqq) (G : Bool) (D I E : Nat) (B : Oqq) (C : Iqq) (H J : Int) (K : Iqq) (L : Nat) (N : Bqq) (M : ThingD) (O : Nat) (P : Int) (r : R_F37_10) : List AB := match r with | .k0 x0 x1 x2 => [.cells 28 ((cBx A).map .p), yT x0 x2, .cells 83 [sp G 2 0, .sl 3 D 1 0 I, .sl 1 c 7 0 E, ls 1 Zc B, ls 1 eI64 C, i6 H, i6 J, vb true], yU D K, .row 28 4 L (ra cBx N), .cells 77 ((Za M).map .p), .row 5 1 O [[vi .u8 P]], .cells 77 ((Za i).map .p), yT0]
def Nc (c j : Nat) (i : ThingD) (o u : Int) (k : Tqq) (C : Iqq) : Option R_F37_10 :=
  ((runL (fun s => WW o u i (i.kids.length : Int) C s.1 s.2.1 s.2.2.1 s.2.2.2.1 s.2.2.2.2) (c, j, (IntKind.wrap .i64 (i.at_ + 1)), 0, k)).bind fun r1 => match r1 with | .k0 ak aj an => ((runL (fun s => WX aj s.1 s.2.1 s.2.2) (((j : Nat) : Int), (IntKind.wrap .i64 (((aj : Nat) : Int) - 1)), an)).bind fun r2 => match r2 with | .k0 ao => (some (.k0 ak aj ao))))
abbrev Nd (g1 : Nat → AV) (ak aj j : Nat) (i : ThingD) (A : BoxD) (an : Tqq) (G : Bool) (D I c E : Nat) (B : Oqq) (C : Iqq) (H J : Int) (K : Iqq) (L : Nat) (N : Bqq) (M : ThingD) (O : Nat) (P : Int) : St := ⟨fr 74 g1 [(1, .sl 1 ak 7 0 aj), (12, (i6 ((j : Nat) : Int))), (24, (.p (.lst 4 (Zb i.kids))))], [.cells 28 ((cBx A).map .p), yT ak an, .cells 83 [sp G 2 0, .sl 3 D 1 0 I, .sl 1 c 7 0 E, ls 1 Zc B, ls 1 eI64 C, i6 H, i6 J, vb true], yU D K, .row 28 4 L (ra cBx N), .cells 77 ((Za M).map .p), .row 5 1 O [[vi .u8 P]], .cells 77 ((Za i).map .p), yT0]⟩
abbrev Ng (g2 : Nat → AV) (ak aj : Nat) (A : BoxD) (ao : Tqq) (G : Bool) (D I c E : Nat) (B : Oqq) (C : Iqq) (H J : Int) (K : Iqq) (L : Nat) (N : Bqq) (M : ThingD) (O : Nat) (P : Int) (i : ThingD) : St := ⟨fr 74 g2 [(1, .sl 1 ak 7 0 aj)], [.cells 28 ((cBx A).map .p), yT ak ao, .cells 83 [sp G 2 0, .sl 3 D 1 0 I, .sl 1 c 7 0 E, ls 1 Zc B, ls 1 eI64 C, i6 H, i6 J, vb true], yU D K, .row 28 4 L (ra cBx N), .cells 77 ((Za M).map .p), .row 5 1 O [[vi .u8 P]], .cells 77 ((Za i).map .p), yT0]⟩
theorem HH (c j : Nat) (i : ThingD) (o u : Int) (A : BoxD) (k : Tqq) (G : Bool) (D I E : Nat) (B : Oqq) (C : Iqq) (H J : Int) (K : Iqq) (L : Nat) (N : Bqq) (M : ThingD) (O : Nat) (P : Int) {r : R_F37_10} (h : Nc c j i o u k C = some r) : CS prg 55 [.ptr 2 0, .sl 1 c 7 0 j, (.agg ((Za i).map .p)), i6 o, i6 u] [.cells 28 ((cBx A).map .p), yT c k, .cells 83 [sp G 2 0, .sl 3 D 1 0 I, .sl 1 c 7 0 E, ls 1 Zc B, ls 1 eI64 C, i6 H, i6 J, vb true], yU D K, .row 28 4 L (ra cBx N), .cells 77 ((Za M).map .p), .row 5 1 O [[vi .u8 P]]] = some (Ff c j i o u A k G D I E B C H J K L N M O P r, Fg c j i o u A k G D I E B C H J K L N M O P r) := by
 unfold Nc at h
 apply bn h; intro r1 h1 h
 cases r1 with
 | k0 ak aj an =>
  obtain ⟨g1, e1⟩ := Na c o u ((j : Nat) : Int) i (i.kids.length : Int) A G D I E B C H J K L N M O P (c, j, (w6 (i.at_ + 1)), 0, k) _ h1
  apply bn h; intro r2 h2 h
  cases r2 with
  | k0 ao =>
   obtain ⟨g2, e2⟩ := Nb ak aj A G D I c E B C H J K L N M O P i (((j : Nat) : Int), (w6 (((aj : Nat) : Int) - 1)), an) _ h2
   rw [← sj h]
   exact fc [(25, .v (i6 (i.kids.length : Int))), (2000, .l (.brk 0) (Nd g1 ak aj j i A an G D I c E B C H J K L N M O P)), (2002, .l (.brk 2) (Ng g2 ak aj A ao G D I c E B C H J K L N M O P i)), (6000, .d true)] (apc ((lgr ZF) : lnA (.p (.lst 4 (Zb i.kids))) = some (i6 (i.kids.length : Int))) (apc (UJ c o u ((j : Nat) : Int) i (i.kids.length : Int) A G D I E B C H J K L N M O P c j (w6 (i.at_ + 1)) 0 k) (apc (e1 : YY c o u ((j : Nat) : Int) i (i.kids.length : Int) A G D I E B C H J K L N M O P c j (w6 (i.at_ + 1)) 0 k = some ((.brk 0), Nd g1 ak aj j i A an G D I c E B C H J K L N M O P)) (apc (Qx ak aj A G D I c E B C H J K L N M O P i ((j : Nat) : Int) (w6 (((aj : Nat) : Int) - 1)) an) (apc (e2 : YZ ak aj A G D I c E B C H J K L N M O P i ((j : Nat) : Int) (w6 (((aj : Nat) : Int) - 1)) an = some ((.brk 2), Ng g2 ak aj A ao G D I c E B C H J K L N M O P i)) apn)))))
inductive E_L37_1_11 where
  | k0 (x0 x1 : Nat) (x2 : Tqq)
section
variable (c j : Int) (o : ThingD) (u : Int) (A : BoxD) (k : Nat) (G : Tqq) (D : Bool) (I E B : Nat) (C : Oqq) (H : Iqq) (J K : Int) (L : Bool) (N : Iqq) (M : Nat) (O : Bqq) (P S : ThingD)
abbrev X1 (l : List AB) : List AB := .cells 28 ((cBx A).map .p) :: yT k G :: .cells 83 [sp D 2 0, .sl 3 I 1 0 E, .sl 1 k 7 0 B, ls 1 Zc C, ls 1 eI64 H, i6 J, i6 K, vb L] :: yU I N :: .row 28 4 M (ra cBx O) :: .cells 77 ((Za P).map .p) :: .cells 73 [.ptr 2 0] :: .cells 77 ((Za S).map .p) :: .cells 77 ((Za o).map .p) :: yT0 :: l
def WY (w F : Nat) (x R : Int) (Q : Tqq) : Option (E_L37_1_11 ⊕ (Nat × Nat × Int × Int × Tqq)) :=
  (bif (decide (R < u)) then ((getI o.kids R).bind fun x2 => (bif (apOk F 1 Q.length 80) then (bif (decide (F + 1 ≤ Q.length)) then ((getI H x).bind fun x5 => (some (.inr (w, F + 1, (IntKind.wrap .i64 (x + x5)), (IntKind.wrap .i64 (R + 1)), (splice Q F [(⟨x2.kind, x2.text, x2.n, x2.kids, c, j, x⟩ : ThingD)]))))) else ((getI H x).bind fun x5 => (some (.inr ((w + 1), F + 1, (IntKind.wrap .i64 (x + x5)), (IntKind.wrap .i64 (R + 1)), (Q.take F ++ [(⟨x2.kind, x2.text, x2.n, x2.kids, c, j, x⟩ : ThingD)])))))) else none)) else (some (.inl (.k0 w F Q))))
def Qy (w F : Nat) (x R : Int) (Q : Tqq) : St := ⟨fr 74 ug [(0, .ptr 2 0), (1, .sl 10 w 7 0 F), (3, i6 c), (4, i6 j), (11, i6 x), (12, i6 0), (24, (.p (.lst 4 (Zb o.kids)))), (25, i6 u), (26, i6 R)], (X1 o A k G D I E B C H J K L N M O P S [yT w Q])⟩
theorem UM (w F : Nat) (x R : Int) (Q : Tqq) : okT 11 (Qy c j o u A k G D I E B C H J K L N M O P S w F x R Q).h = true := (ZE rfl (ac (ar (Zv (Z8 rfl (Ze rfl (Ze rfl (Ze rfl (Ze rfl (Ze rfl (Ze rfl (Ze rfl rfl)))))))) (ar (ar (ac (ac (ac (ac (ar (ar rfl))))))))))))
abbrev Y0 (w F : Nat) (x R : Int) (Q : Tqq) := evH prg 11 [0, 1, 3, 4, 11, 12, 24, 25, 26, 1000199007707] XL (Qy c j o u A k G D I E B C H J K L N M O P S w F x R Q)
def UN (e : E_L37_1_11) (r : Option (Out × St)) : Prop := match e with | .k0 x0 x1 x2 => ∃ g, r = some ((.brk 0), ⟨fr 74 g [(1, .sl 10 x0 7 0 x1), (12, i6 0), (24, (.p (.lst 4 (Zb o.kids))))], (X1 o A k G D I E B C H J K L N M O P S [yT x0 x2])⟩)
abbrev S4 (w : Nat) (Q : Tqq) (F : Nat) (x2 : BoxD) (x : Int) : List AB := (X1 o A k G D I E B C H J K L N M O P S [yT w (splice Q F [(⟨x2.kind, x2.text, x2.n, x2.kids, c, j, x⟩ : ThingD)]), .row 28 4 0 (ra cBx []), .cells 28 ((cBx x2).map .p), .row 77 7 0 [[i6 x2.kind, vs x2.text, i6 x2.n, (.p (.lst 4 (Zb x2.kids))), i6 c, i6 j, i6 x]]])
abbrev S5 (w : Nat) (Q : Tqq) (x2 : BoxD) (x : Int) : List AB := (X1 o A k G D I E B C H J K L N M O P S [yT w Q, .row 28 4 0 (ra cBx []), .cells 28 ((cBx x2).map .p), .row 77 7 0 [[i6 x2.kind, vs x2.text, i6 x2.n, (.p (.lst 4 (Zb x2.kids))), i6 c, i6 j, i6 x]]])
abbrev S6 (w : Nat) (Q : Tqq) (F : Nat) (x2 : BoxD) (x : Int) : List AB := (X1 o A k G D I E B C H J K L N M O P S [yT (w + 1) (Q.take F ++ [(⟨x2.kind, x2.text, x2.n, x2.kids, c, j, x⟩ : ThingD)]), .row 28 4 0 (ra cBx []), .cells 28 ((cBx x2).map .p), .row 77 7 0 [[i6 x2.kind, vs x2.text, i6 x2.n, (.p (.lst 4 (Zb x2.kids))), i6 c, i6 j, i6 x]]])
theorem MU (w F : Nat) (x R : Int) (Q : Tqq) {r : E_L37_1_11 ⊕ (Nat × Nat × Int × Int × Tqq)} (h : WY c j o u H w F x R Q = some r) : OkR (fun e => UN o A k G D I E B C H J K L N M O P S e (Y0 c j o u A k G D I E B C H J K L N M O P S w F x R Q)) (fun s => Y0 c j o u A k G D I E B C H J K L N M O P S w F x R Q = Y0 c j o u A k G D I E B C H J K L N M O P S s.1 s.2.1 s.2.2.1 s.2.2.2.1 s.2.2.2.2) r := by
 unfold WY at h
 apply bi h <;> intro h1 h
 ·
  apply bn h; intro x2 h2 h
  have q0 := ((igr ZF h2) : idxA 4 (.p (.lst 4 (Zb o.kids))) (i6 R) = some (.ro (cBx x2)))
  have k1 := ka [(27, .d true), (28, .v (.ro (cBx x2)))] (av h1 (apc q0 apn))
  apply bi h <;> intro h3 h
  ·
   apply bi h <;> intro h4 h
   ·
    apply bn h; intro x5 h5 h
    rw [← sj h]
    exact rn ([(37, .r (.sl 10 w 7 0 (F + 1)) (S4 c j o A k G D I E B C H J K L N M O P S w Q F x2 x)), (44, .v (.ro [.val (.int .i64 x5)])), (6000, .d true)] ++ kH k1) (k1.b (apc ((X0 (e := Za) (xs := Q) (news := [(⟨x2.kind, x2.text, x2.n, x2.kids, c, j, x⟩ : ThingD)]) rfl (ZA (e := Za) (xs := [(⟨x2.kind, x2.text, x2.n, x2.kids, c, j, x⟩ : ThingD)]) rfl) rfl h3 h4) : appA (S5 c j o A k G D I E B C H J K L N M O P S w Q x2 x) 77 7 80 (.sl 10 w 7 0 F) (.sl 13 0 7 0 1) = some ((.sl 10 w 7 0 (F + 1)), S4 c j o A k G D I E B C H J K L N M O P S w Q F x2 x)) (apc (ig eI64 1 .i64 h5) (apc (UM c j o u A k G D I E B C H J K L N M O P S w (F + 1) (w6 (x + x5)) (w6 (R + 1)) (splice Q F [(⟨x2.kind, x2.text, x2.n, x2.kids, c, j, x⟩ : ThingD)])) apn))))
   ·
    apply bn h; intro x5 h5 h
    rw [← sj h]
    exact rn ([(37, .r (.sl 10 (w + 1) 7 0 (F + 1)) (S6 c j o A k G D I E B C H J K L N M O P S w Q F x2 x)), (44, .v (.ro [.val (.int .i64 x5)])), (6000, .d true)] ++ kH k1) (k1.b (apc ((Yk (e := Za) (xs := Q) (news := [(⟨x2.kind, x2.text, x2.n, x2.kids, c, j, x⟩ : ThingD)]) rfl (ZA (e := Za) (xs := [(⟨x2.kind, x2.text, x2.n, x2.kids, c, j, x⟩ : ThingD)]) rfl) rfl h3 h4) : appA (S5 c j o A k G D I E B C H J K L N M O P S w Q x2 x) 77 7 80 (.sl 10 w 7 0 F) (.sl 13 0 7 0 1) = some ((.sl 10 (w + 1) 7 0 (F + 1)), S6 c j o A k G D I E B C H J K L N M O P S w Q F x2 x)) (apc (ig eI64 1 .i64 h5) (apc (UM c j o u A k G D I E B C H J K L N M O P S (w + 1) (F + 1) (w6 (x + x5)) (w6 (R + 1)) (Q.take F ++ [(⟨x2.kind, x2.text, x2.n, x2.kids, c, j, x⟩ : ThingD)])) apn))))
  ·
   cases h
 ·
  rw [← sj h]
  exact xb [(27, .d false), (6000, .d true)] (av h1 apn)
theorem Nh (s0 : Nat × Nat × Int × Int × Tqq) (e : E_L37_1_11) (h : runL (fun s => WY c j o u H s.1 s.2.1 s.2.2.1 s.2.2.2.1 s.2.2.2.2) s0 = some e) : UN o A k G D I E B C H J K L N M O P S e (Y0 c j o u A k G D I E B C H J K L N M O P S s0.1 s0.2.1 s0.2.2.1 s0.2.2.2.1 s0.2.2.2.2) := by
  have q := @Zg (Nat × Nat × Int × Int × Tqq) E_L37_1_11 (fun s => WY c j o u H s.1 s.2.1 s.2.2.1 s.2.2.2.1 s.2.2.2.2) (fun s => Y0 c j o u A k G D I E B C H J K L N M O P S s.1 s.2.1 s.2.2.1 s.2.2.2.1 s.2.2.2.2) (UN o A k G D I E B C H J K L N M O P S) (fun s r h => MU c j o u A k G D I E B C H J K L N M O P S s.1 s.2.1 s.2.2.1 s.2.2.2.1 s.2.2.2.2 h) s0 e h
  exact q
end
inductive E_L37_0_11 where
  | k0 (x0 : Tqq)
section
variable (c j : Nat) (o : BoxD) (u : Nat) (A : Tqq) (k : Bool) (G D I : Nat) (E : Oqq) (B : Iqq) (C H : Int) (J : Bool) (K : Iqq) (L : Nat) (N : Bqq) (M O P : ThingD)
abbrev X2 (l : List AB) : List AB := .cells 28 ((cBx o).map .p) :: yT u A :: .cells 83 [sp k 2 0, .sl 3 G 1 0 D, .sl 1 u 7 0 I, ls 1 Zc E, ls 1 eI64 B, i6 C, i6 H, vb J] :: yU G K :: .row 28 4 L (ra cBx N) :: .cells 77 ((Za M).map .p) :: .cells 73 [.ptr 2 0] :: .cells 77 ((Za O).map .p) :: .cells 77 ((Za P).map .p) :: yT0 :: l
def WZ (w F : Int) (x : Tqq) : Option (E_L37_0_11 ⊕ (Int × Int × Tqq)) :=
  (bif (decide (w < F)) then ((ixN j F).bind fun x2 => ((x[x2]?).bind fun x3 => ((ixN j w).bind fun x4 => ((x[x4]?).bind fun x5 => (((x.set x4 (⟨x3.kind, x3.text, x3.n, x3.kids, x3.depth, x3.way, x3.at_⟩ : ThingD))[x2]?).bind fun x6 => (some (.inr ((IntKind.wrap .i64 (w + 1)), (IntKind.wrap .i64 (F - 1)), ((x.set x4 (⟨x3.kind, x3.text, x3.n, x3.kids, x3.depth, x3.way, x3.at_⟩ : ThingD)).set x2 (⟨x5.kind, x5.text, x5.n, x5.kids, x5.depth, x5.way, x5.at_⟩ : ThingD)))))))))) else (some (.inl (.k0 x))))
def Qz (w F : Int) (x : Tqq) : St := ⟨fr 74 ug [(1, .sl 10 c 7 0 j), (15, i6 w), (16, i6 F)], (X2 o u A k G D I E B C H J K L N M O P [yT c x])⟩
theorem QA (w F : Int) (x : Tqq) : okT 11 (Qz c j o u A k G D I E B C H J K L N M O P w F x).h = true := (ZE rfl (ac (ar (Zv (Z8 rfl (Ze rfl (Ze rfl (Ze rfl (Ze rfl (Ze rfl (Ze rfl (Ze rfl rfl)))))))) (ar (ar (ac (ac (ac (ac (ar (ar rfl))))))))))))
abbrev Y1 (w F : Int) (x : Tqq) := evH prg 11 [1, 15, 16] XK (Qz c j o u A k G D I E B C H J K L N M O P w F x)
def UO (e : E_L37_0_11) (r : Option (Out × St)) : Prop := match e with | .k0 x0 => ∃ g, r = some ((.brk 2), ⟨fr 74 g [(1, .sl 10 c 7 0 j)], (X2 o u A k G D I E B C H J K L N M O P [yT c x0])⟩)
abbrev VF (x : Tqq) (x4 : Nat) (x3 : ThingD) : List AB := (X2 o u A k G D I E B C H J K L N M O P [yT c (x.set x4 (⟨x3.kind, x3.text, x3.n, x3.kids, x3.depth, x3.way, x3.at_⟩ : ThingD))])
abbrev S7 (x : Tqq) (x4 : Nat) (x3 : ThingD) (x2 : Nat) (x5 : ThingD) : List AB := (X2 o u A k G D I E B C H J K L N M O P [yT c ((x.set x4 (⟨x3.kind, x3.text, x3.n, x3.kids, x3.depth, x3.way, x3.at_⟩ : ThingD)).set x2 (⟨x5.kind, x5.text, x5.n, x5.kids, x5.depth, x5.way, x5.at_⟩ : ThingD))])
abbrev VG (x : Tqq) : List AB := (X2 o u A k G D I E B C H J K L N M O P [yT c x])
theorem MV (w F : Int) (x : Tqq) {r : E_L37_0_11 ⊕ (Int × Int × Tqq)} (h : WZ j w F x = some r) : OkR (fun e => UO c j o u A k G D I E B C H J K L N M O P e (Y1 c j o u A k G D I E B C H J K L N M O P w F x)) (fun s => Y1 c j o u A k G D I E B C H J K L N M O P w F x = Y1 c j o u A k G D I E B C H J K L N M O P s.1 s.2.1 s.2.2) r := by
 unfold WZ at h
 apply bi h <;> intro h1 h
 ·
  apply bn h; intro x2 h2 h
  have q0 := ((ZP h2) : idxA 7 (.sl 10 c 7 0 j) (i6 F) = some (.rp 10 c 7 x2 0))
  apply bn h; intro x3 h3 h
  apply bn h; intro x4 h4 h
  have q1 := ((ZP h4) : idxA 7 (.sl 10 c 7 0 j) (i6 w) = some (.rp 10 c 7 x4 0))
  apply bn h; intro x5 h5 h
  apply bn h; intro x6 h6 h
  rw [← sj h]
  exact rn [(54, .d true), (65, .v (.rp 10 c 7 x2 0)), (66, .v (.agg ((Za x3).map .p))), (69, .v (.rp 10 c 7 x4 0)), (70, .v (.agg ((Za x5).map .p))), (71, .v (.rp 10 c 7 x4 0)), (1071, .r ud (VF c o u A k G D I E B C H J K L N M O P x x4 x3)), (72, .v (.rp 10 c 7 x2 0)), (1072, .r ud (S7 c o u A k G D I E B C H J K L N M O P x x4 x3 x2 x5)), (6000, .d true)] (av h1 (apc q0 (apc ((Z6 rfl h3 rfl) : ldA (VG c o u A k G D I E B C H J K L N M O P x) .true 7 (.rp 10 c 7 x2 0) = some (.agg ((Za x3).map .p))) (apc q1 (apc ((Z6 rfl h5 rfl) : ldA (VG c o u A k G D I E B C H J K L N M O P x) .true 7 (.rp 10 c 7 x4 0) = some (.agg ((Za x5).map .p))) (apc q1 (apc (⟨ZZ (v' := (⟨x3.kind, x3.text, x3.n, x3.kids, x3.depth, x3.way, x3.at_⟩ : ThingD)) rfl h5 rfl rfl (Nat.le_of_ble_eq_true rfl) rfl, rfl⟩ : stA (VG c o u A k G D I E B C H J K L N M O P x) 7 (.rp 10 c 7 x4 0) (.agg ((Za x3).map .p)) = some (VF c o u A k G D I E B C H J K L N M O P x x4 x3) ∧ ud = ud) (apc q0 (apc (⟨ZZ (v' := (⟨x5.kind, x5.text, x5.n, x5.kids, x5.depth, x5.way, x5.at_⟩ : ThingD)) rfl h6 rfl rfl (Nat.le_of_ble_eq_true rfl) rfl, rfl⟩ : stA (VF c o u A k G D I E B C H J K L N M O P x x4 x3) 7 (.rp 10 c 7 x2 0) (.agg ((Za x5).map .p)) = some (S7 c o u A k G D I E B C H J K L N M O P x x4 x3 x2 x5) ∧ ud = ud) (apc (QA c j o u A k G D I E B C H J K L N M O P (w6 (w + 1)) (w6 (F - 1)) ((x.set x4 (⟨x3.kind, x3.text, x3.n, x3.kids, x3.depth, x3.way, x3.at_⟩ : ThingD)).set x2 (⟨x5.kind, x5.text, x5.n, x5.kids, x5.depth, x5.way, x5.at_⟩ : ThingD))) apn))))))))))
 ·
  rw [← sj h]
  exact xb [(54, .d false), (6000, .d true)] (av h1 apn)
theorem Ni (s0 : Int × Int × Tqq) (e : E_L37_0_11) (h : runL (fun s => WZ j s.1 s.2.1 s.2.2) s0 = some e) : UO c j o u A k G D I E B C H J K L N M O P e (Y1 c j o u A k G D I E B C H J K L N M O P s0.1 s0.2.1 s0.2.2) := by
  have q := @Zg (Int × Int × Tqq) E_L37_0_11 (fun s => WZ j s.1 s.2.1 s.2.2) (fun s => Y1 c j o u A k G D I E B C H J K L N M O P s.1 s.2.1 s.2.2) (UO c j o u A k G D I E B C H J K L N M O P) (fun s r h => MV c j o u A k G D I E B C H J K L N M O P s.1 s.2.1 s.2.2 h) s0 e h
  exact q
end
inductive R_F37_11 where
  | k0 (x0 x1 : Nat) (x2 : Tqq)
def Fh (c : ThingD) (j i : Int) (o : BoxD) (u : Nat) (A : Tqq) (k : Bool) (G D I : Nat) (E : Oqq) (B : Iqq) (C H : Int) (J : Bool) (K : Iqq) (L : Nat) (N : Bqq) (M O : ThingD) (r : R_F37_11) : AV := match r with | .k0 x0 x1 x2 => (.sl 10 x0 7 0 x1)
def Fi (c : ThingD) (j i : Int) (o : BoxD) (u : Nat) (A : Tqq) (k : Bool) (G D I : Nat) (E : Oqq) (B : Iqq) (C H : Int) (J : Bool) (K : Iqq) (L : Nat) (N : Bqq) (M O : ThingD) (r : R_F37_11) : List AB := match r with | .k0 x0 x1 x2 => [.cells 28 ((cBx o).map .p), yT u A, .cells 83 [sp k 2 0, .sl 3 G 1 0 D, .sl 1 u 7 0 I, ls 1 Zc E, ls 1 eI64 B, i6 C, i6 H, vb J], yU G K, .row 28 4 L (ra cBx N), .cells 77 ((Za M).map .p), .cells 73 [.ptr 2 0], .cells 77 ((Za O).map .p), .cells 77 ((Za c).map .p), yT0, yT x0 x2]
def Nj (c : ThingD) (j i : Int) (B : Iqq) : Option R_F37_11 :=
  ((runL (fun s => WY j i c (c.kids.length : Int) B s.1 s.2.1 s.2.2.1 s.2.2.2.1 s.2.2.2.2) (0, 0, (IntKind.wrap .i64 (c.at_ + 1)), 0, [])).bind fun r1 => match r1 with | .k0 ak aj an => ((runL (fun s => WZ aj s.1 s.2.1 s.2.2) (0, (IntKind.wrap .i64 (((aj : Nat) : Int) - 1)), an)).bind fun r2 => match r2 with | .k0 ao => (some (.k0 ak aj ao))))
abbrev Nk (g1 : Nat → AV) (ak aj : Nat) (c : ThingD) (o : BoxD) (u : Nat) (A : Tqq) (k : Bool) (G D I : Nat) (E : Oqq) (B : Iqq) (C H : Int) (J : Bool) (K : Iqq) (L : Nat) (N : Bqq) (M O : ThingD) (an : Tqq) : St := ⟨fr 74 g1 [(1, .sl 10 ak 7 0 aj), (12, i6 0), (24, (.p (.lst 4 (Zb c.kids))))], [.cells 28 ((cBx o).map .p), yT u A, .cells 83 [sp k 2 0, .sl 3 G 1 0 D, .sl 1 u 7 0 I, ls 1 Zc E, ls 1 eI64 B, i6 C, i6 H, vb J], yU G K, .row 28 4 L (ra cBx N), .cells 77 ((Za M).map .p), .cells 73 [.ptr 2 0], .cells 77 ((Za O).map .p), .cells 77 ((Za c).map .p), yT0, yT ak an]⟩
abbrev Nl (g2 : Nat → AV) (ak aj : Nat) (o : BoxD) (u : Nat) (A : Tqq) (k : Bool) (G D I : Nat) (E : Oqq) (B : Iqq) (C H : Int) (J : Bool) (K : Iqq) (L : Nat) (N : Bqq) (M O c : ThingD) (ao : Tqq) : St := ⟨fr 74 g2 [(1, .sl 10 ak 7 0 aj)], [.cells 28 ((cBx o).map .p), yT u A, .cells 83 [sp k 2 0, .sl 3 G 1 0 D, .sl 1 u 7 0 I, ls 1 Zc E, ls 1 eI64 B, i6 C, i6 H, vb J], yU G K, .row 28 4 L (ra cBx N), .cells 77 ((Za M).map .p), .cells 73 [.ptr 2 0], .cells 77 ((Za O).map .p), .cells 77 ((Za c).map .p), yT0, yT ak ao]⟩
theorem HI (c : ThingD) (j i : Int) (o : BoxD) (u : Nat) (A : Tqq) (k : Bool) (G D I : Nat) (E : Oqq) (B : Iqq) (C H : Int) (J : Bool) (K : Iqq) (L : Nat) (N : Bqq) (M O : ThingD) {r : R_F37_11} (h : Nj c j i B = some r) : CS prg 55 [.ptr 2 0, n0, (.agg ((Za c).map .p)), i6 j, i6 i] [.cells 28 ((cBx o).map .p), yT u A, .cells 83 [sp k 2 0, .sl 3 G 1 0 D, .sl 1 u 7 0 I, ls 1 Zc E, ls 1 eI64 B, i6 C, i6 H, vb J], yU G K, .row 28 4 L (ra cBx N), .cells 77 ((Za M).map .p), .cells 73 [.ptr 2 0], .cells 77 ((Za O).map .p)] = some (Fh c j i o u A k G D I E B C H J K L N M O r, Fi c j i o u A k G D I E B C H J K L N M O r) := by
 unfold Nj at h
 apply bn h; intro r1 h1 h
 cases r1 with
 | k0 ak aj an =>
  obtain ⟨g1, e1⟩ := Nh j i c (c.kids.length : Int) o u A k G D I E B C H J K L N M O (0, 0, (w6 (c.at_ + 1)), 0, []) _ h1
  apply bn h; intro r2 h2 h
  cases r2 with
  | k0 ao =>
   obtain ⟨g2, e2⟩ := Ni ak aj o u A k G D I E B C H J K L N M O c (0, (w6 (((aj : Nat) : Int) - 1)), an) _ h2
   rw [← sj h]
   exact fc [(25, .v (i6 (c.kids.length : Int))), (2000, .l (.brk 0) (Nk g1 ak aj c o u A k G D I E B C H J K L N M O an)), (2002, .l (.brk 2) (Nl g2 ak aj o u A k G D I E B C H J K L N M O c ao)), (6000, .d true)] (apc ((lgr ZF) : lnA (.p (.lst 4 (Zb c.kids))) = some (i6 (c.kids.length : Int))) (apc (UM j i c (c.kids.length : Int) o u A k G D I E B C H J K L N M O 0 0 (w6 (c.at_ + 1)) 0 ([])) (apc (e1 : Y0 j i c (c.kids.length : Int) o u A k G D I E B C H J K L N M O 0 0 (w6 (c.at_ + 1)) 0 ([]) = some ((.brk 0), Nk g1 ak aj c o u A k G D I E B C H J K L N M O an)) (apc (QA ak aj o u A k G D I E B C H J K L N M O c 0 (w6 (((aj : Nat) : Int) - 1)) an) (apc (e2 : Y1 ak aj o u A k G D I E B C H J K L N M O c 0 (w6 (((aj : Nat) : Int) - 1)) an = some ((.brk 2), Nl g2 ak aj o u A k G D I E B C H J K L N M O c ao)) apn)))))
inductive R_F46_6 where
  | k0 (x0 : Int) (x1 : ByteArray) (x2 : Int) (x3 : Bqq) (x4 x5 x6 : Int)
  | k1
  | k2 (x0 : Int) (x1 : ByteArray) (x2 : Int) (x3 : Bqq) (x4 x5 x6 : Int)
def Cw (c : BoxD) (j : Nat) (i : Tqq) (o : Bool) (u A k : Nat) (G : Oqq) (D : Iqq) (I E : Int) (B : Bool) (C : Iqq) (H : Bqq) (J : ThingD) (K : Tqq) (L : Nat) (N : Tqq) (M : Nat) (O : Int) (r : R_F46_6) : AV := match r with | .k0 x0 x1 x2 x3 x4 x5 x6 => (.tup [(.agg [i6 x0, vs x1, i6 x2, (.p (.lst 4 (Zb x3))), i6 x4, i6 x5, i6 x6]), vb true]) | .k1 => (.tup [(.agg [i6 0, (vs Eqq), i6 0, n0, i6 0, i6 0, i6 0]), vb false]) | .k2 x0 x1 x2 x3 x4 x5 x6 => (.tup [(.agg [i6 x0, vs x1, i6 x2, (.p (.lst 4 (Zb x3))), i6 x4, i6 x5, i6 x6]), vb true])
def Cx (c : BoxD) (j : Nat) (i : Tqq) (o : Bool) (u A k : Nat) (G : Oqq) (D : Iqq) (I E : Int) (B : Bool) (C : Iqq) (H : Bqq) (J : ThingD) (K : Tqq) (L : Nat) (N : Tqq) (M : Nat) (O : Int) (r : R_F46_6) : List AB := match r with | .k0 x0 x1 x2 x3 x4 x5 x6 => [.cells 28 ((cBx c).map .p), yT j i, .cells 83 [sp o 2 0, .sl 3 u 1 0 A, .sl 1 j 7 0 k, ls 1 Zc G, ls 1 eI64 D, i6 I, i6 E, vb B], yU u C, .row 28 4 0 (ra cBx H), .cells 77 ((Za J).map .p), .cells 73 [.ptr 2 0], .cells 77 ((Za J).map .p), .cells 77 ((Za J).map .p), yT 0 K, yT L N, yT 0 K, .cells 78 [(.sl 10 L 7 0 (Int.toNat (w6 (((M : Nat) : Int) - 1))))], .cells 3 [i6 O], .row 28 4 0 (ra cBx []), .cells 77 [i6 x0, vs x1, i6 x2, (.p (.lst 4 (Zb x3))), i6 x4, i6 x5, i6 x6], .row 28 4 0 (ra cBx []), .cells 77 [i6 x0, vs x1, i6 x2, (.p (.lst 4 (Zb x3))), i6 x4, i6 x5, i6 x6]] | .k1 => [.cells 28 ((cBx c).map .p), yT j i, .cells 83 [sp o 2 0, .sl 3 u 1 0 A, .sl 1 j 7 0 k, ls 1 Zc G, ls 1 eI64 D, i6 I, i6 E, vb B], yU u C, .row 28 4 0 (ra cBx H), .cells 77 ((Za J).map .p), .cells 73 [.ptr 2 0], .cells 77 ((Za J).map .p), .cells 77 ((Za J).map .p), yT 0 K, yT L N, yT 0 K, .cells 78 [.sl 10 L 7 0 M], .cells 3 [i6 O], .row 28 4 0 (ra cBx []), .cells 77 [i6 0, (vs Eqq), i6 0, n0, i6 0, i6 0, i6 0]] | .k2 x0 x1 x2 x3 x4 x5 x6 => [.cells 28 ((cBx c).map .p), yT j i, .cells 83 [sp o 2 0, .sl 3 u 1 0 A, .sl 1 j 7 0 k, ls 1 Zc G, ls 1 eI64 D, i6 I, i6 E, vb B], yU u C, .row 28 4 0 (ra cBx H), .cells 77 ((Za J).map .p), .cells 73 [.ptr 2 0], .cells 77 ((Za J).map .p), .cells 77 ((Za J).map .p), yT 0 K, yT L N, yT 0 K, .cells 78 [.sl 10 L 7 0 M], .cells 3 [(i6 (w6 (O - 1)))], .row 28 4 0 (ra cBx []), .cells 77 [i6 x0, vs x1, i6 x2, (.p (.lst 4 (Zb x3))), i6 x4, i6 x5, i6 x6]]
def Nm (i : Tqq) (k : Nat) (N : Tqq) (M : Nat) (O : Int) : Option R_F46_6 :=
  (bif (decide (((M : Nat) : Int) > 0)) then ((ixN M (IntKind.wrap .i64 (((M : Nat) : Int) - 1))).bind fun x2 => ((N[x2]?).bind fun x3 => (bif (slOk (IntKind.wrap .i64 (((M : Nat) : Int) - 1)) M N.length) then (some (.k0 x3.kind x3.text x3.n x3.kids x3.depth x3.way x3.at_)) else none))) else (bif (O == 0) then (some (.k1)) else ((ixN k (IntKind.wrap .i64 (O - 1))).bind fun x3 => ((i[x3]?).bind fun x4 => (some (.k2 x4.kind x4.text x4.n x4.kids x4.depth x4.way x4.at_))))))
theorem PW (c : BoxD) (j : Nat) (i : Tqq) (o : Bool) (u A k : Nat) (G : Oqq) (D : Iqq) (I E : Int) (B : Bool) (C : Iqq) (H : Bqq) (J : ThingD) (K : Tqq) (L : Nat) (N : Tqq) (M : Nat) (O : Int) {r : R_F46_6} (h : Nm i k N M O = some r) : CS prg 67 [.ptr 12 0, .ptr 13 0, .ptr 6 0] [.cells 28 ((cBx c).map .p), yT j i, .cells 83 [sp o 2 0, .sl 3 u 1 0 A, .sl 1 j 7 0 k, ls 1 Zc G, ls 1 eI64 D, i6 I, i6 E, vb B], yU u C, .row 28 4 0 (ra cBx H), .cells 77 ((Za J).map .p), .cells 73 [.ptr 2 0], .cells 77 ((Za J).map .p), .cells 77 ((Za J).map .p), yT 0 K, yT L N, yT 0 K, .cells 78 [.sl 10 L 7 0 M], .cells 3 [i6 O]] = some (Cw c j i o u A k G D I E B C H J K L N M O r, Cx c j i o u A k G D I E B C H J K L N M O r) := by
 unfold Nm at h
 apply bi h <;> intro h1 h
 ·
  apply bn h; intro x2 h2 h
  have q0 := ((ZP h2) : idxA 7 (.sl 10 L 7 0 M) (i6 (w6 (((M : Nat) : Int) - 1))) = some (.rp 10 L 7 x2 0))
  have k1 := ka [(10, .d true), (14, .v (.rp 10 L 7 x2 0))] (av h1 (apc q0 apn))
  apply bn h; intro x3 h3 h
  have q2 := ((Z6 rfl h3 rfl) : ldA [.cells 28 ((cBx c).map .p), yT j i, .cells 83 [sp o 2 0, .sl 3 u 1 0 A, .sl 1 j 7 0 k, ls 1 Zc G, ls 1 eI64 D, i6 I, i6 E, vb B], yU u C, .row 28 4 0 (ra cBx H), .cells 77 ((Za J).map .p), .cells 73 [.ptr 2 0], .cells 77 ((Za J).map .p), .cells 77 ((Za J).map .p), yT 0 K, yT L N, yT 0 K, .cells 78 [.sl 10 L 7 0 M], .cells 3 [i6 O], .row 28 4 0 (ra cBx []), .cells 77 [i6 0, (vs Eqq), i6 0, .sl 14 0 4 0 0, i6 0, i6 0, i6 0]] .true 7 (.rp 10 L 7 x2 0) = some (.agg ((Za x3).map .p)))
  apply bi h <;> intro h4 h
  ·
   rw [← sj h]
   exact fc ([(15, .v (.agg ((Za x3).map .p))), (19, .v (.sl 10 L 7 0 (Int.toNat (w6 (((M : Nat) : Int) - 1)))))] ++ kH k1) (k1.b (apc q2 (apc ((F1 (e := Za) (xs := N) rfl h4) : slA [.cells 28 ((cBx c).map .p), yT j i, .cells 83 [sp o 2 0, .sl 3 u 1 0 A, .sl 1 j 7 0 k, ls 1 Zc G, ls 1 eI64 D, i6 I, i6 E, vb B], yU u C, .row 28 4 0 (ra cBx H), .cells 77 ((Za J).map .p), .cells 73 [.ptr 2 0], .cells 77 ((Za J).map .p), .cells 77 ((Za J).map .p), yT 0 K, yT L N, yT 0 K, .cells 78 [.sl 10 L 7 0 M], .cells 3 [i6 O], .row 28 4 0 (ra cBx []), .cells 77 [i6 0, (vs Eqq), i6 0, .sl 14 0 4 0 0, i6 0, i6 0, i6 0], .row 28 4 0 (ra cBx []), .cells 77 ((Za x3).map .p)] 7 (.sl 10 L 7 0 M) (some 0) (some (w6 (((M : Nat) : Int) - 1))) = some (.sl 10 L 7 0 (Int.toNat (w6 (((M : Nat) : Int) - 1))))) apn)))
  ·
   cases h
 ·
  apply bi h <;> intro h2 h
  ·
   rw [← sj h]
   exact fc [(10, .d false), (22, .d true)] (av h1 (av h2 apn))
  ·
   apply bn h; intro x3 h3 h
   apply bn h; intro x4 h4 h
   rw [← sj h]
   exact fc [(10, .d false), (22, .d false), (31, .v (.rp 1 j 7 x3 0)), (32, .v (.agg ((Za x4).map .p)))] (av h1 (av h2 (apc ((ZP h3) : idxA 7 (.sl 1 j 7 0 k) (i6 (w6 (O - 1))) = some (.rp 1 j 7 x3 0)) (apc ((Z6 rfl h4 rfl) : ldA [.cells 28 ((cBx c).map .p), yT j i, .cells 83 [sp o 2 0, .sl 3 u 1 0 A, .sl 1 j 7 0 k, ls 1 Zc G, ls 1 eI64 D, i6 I, i6 E, vb B], yU u C, .row 28 4 0 (ra cBx H), .cells 77 ((Za J).map .p), .cells 73 [.ptr 2 0], .cells 77 ((Za J).map .p), .cells 77 ((Za J).map .p), yT 0 K, yT L N, yT 0 K, .cells 78 [.sl 10 L 7 0 M], .cells 3 [(i6 (w6 (O - 1)))], .row 28 4 0 (ra cBx []), .cells 77 [i6 0, (vs Eqq), i6 0, .sl 14 0 4 0 0, i6 0, i6 0, i6 0]] .true 7 (.rp 1 j 7 x3 0) = some (.agg ((Za x4).map .p))) apn))))
def Cy (c : ByteArray) (j : Int) (x0 : Int) : AV := (i6 x0)
def HJ (c : ByteArray) (j : Int) : Option Int :=
  (some (firstIdx c (Int.toNat j).toUInt8))
theorem Fj (c : ByteArray) (j : Int) {r : Int} (h : HJ c j = some r) : PR1 prg 78 [vs c, vi .u8 j] (Cy c j r) := by
 unfold HJ at h
 rw [← sj h]
 exact fq [] apn
def Cz (c : ByteArray) (x0 : Int) : AV := (i6 x0)
def JN (c : ByteArray) : Option Int :=
  (bif ((⟨([10] : List UInt8).toArray⟩ : ByteArray).toList == c.toList) then (some 0) else ((getI (⟨([10] : List UInt8).toArray⟩ : ByteArray).data.toList 0).bind fun x2 => ((HJ c (x2.toNat : Int)).bind fun x3 => (some x3))))
theorem Kx (c : ByteArray) {r : Int} (h : JN c = some r) : PR1 prg 70 [vs c, (vs (⟨([10] : List UInt8).toArray⟩ : ByteArray))] (Cz c r) := by
 unfold JN at h
 apply bi h <;> intro h1 h
 ·
  rw [← sj h]
  exact fq [(22, .d true)] (av h1 apn)
 ·
  apply bn h; intro x2 h2 h
  apply bn h; intro x3 h3 h
  rw [← sj h]
  exact fq [(22, .d false), (29, .v (vi .u8 (x2.toNat : Int))), (30, .v (i6 x3))] (av h1 (apc ((OG h2) : ixS (vs (⟨([10] : List UInt8).toArray⟩ : ByteArray)) (i6 0) = some (vi .u8 (x2.toNat : Int))) (apc (((Fj c (x2.toNat : Int) h3).cp rfl _) : CP prg 78 [vs c, (vi .u8 (x2.toNat : Int))] [] = some (i6 x3)) apn)))
inductive R_F55 where
  | k0 (x0 x1 : ByteArray) (x2 : Bool)
def AE (c : ByteArray) (r : R_F55) : AV := match r with | .k0 x0 x1 x2 => (.tup [vs x0, vs x1, vb x2])
def F55 (c : ByteArray) : Option R_F55 :=
  ((JN c).bind fun x1 => (bif (decide (x1 ≥ 0)) then (bif (PE 0 x1 c.size) then (bif (PE (IntKind.wrap .i64 (x1 + 1)) (c.size : Int) c.size) then (some (.k0 (c.extract (Int.toNat 0) (Int.toNat x1)) (c.extract (Int.toNat (IntKind.wrap .i64 (x1 + 1))) (Int.toNat (c.size : Int))) true)) else none) else none) else (some (.k0 c Eqq false))))
theorem BD (c : ByteArray) {r : R_F55} (h : F55 c = some r) : PR1 prg 77 [vs c, (vs (⟨([10] : List UInt8).toArray⟩ : ByteArray))] (AE c r) := by
 unfold F55 at h
 apply bn h; intro x1 h1 h
 have q0 := (((Kx c h1).cp rfl _) : CP prg 70 [vs c, (vs (⟨([10] : List UInt8).toArray⟩ : ByteArray))] [] = some (i6 x1))
 apply bi h <;> intro h2 h
 ·
  have k1 := ka [(10, .v (i6 x1)), (12, .d true)] (apc q0 (av h2 apn))
  apply bi h <;> intro h3 h
  ·
   have q2 := ((LX h3) : slS (vs c) (some 0) (some x1) = some (vs (c.extract (Int.toNat 0) (Int.toNat x1))))
   have k3 := k1.a [(15, .v (vs (c.extract (Int.toNat 0) (Int.toNat x1))))] (apc q2 apn)
   apply bi h <;> intro h4 h
   ·
    rw [← sj h]
    exact fq ([(21, .v (vs (c.extract (Int.toNat (w6 (x1 + 1))) (Int.toNat (c.size : Int)))))] ++ kH k3) (k3.b (apc ((LX h4) : slS (vs c) (some (w6 (x1 + 1))) (some (c.size : Int)) = some (vs (c.extract (Int.toNat (w6 (x1 + 1))) (Int.toNat (c.size : Int))))) apn))
   ·
    cases h
  ·
   cases h
 ·
  rw [← sj h]
  exact fq [(10, .v (i6 x1)), (12, .d false)] (apc q0 (av h2 apn))
inductive R_F47 where
  | k0 (x0 x1 : ByteArray) (x2 : Bool)
def AF (c : ByteArray) (r : R_F47) : AV := match r with | .k0 x0 x1 x2 => (.tup [vs x0, vs x1, vb x2])
def F47 (c : ByteArray) : Option R_F47 :=
  ((F55 c).bind fun r1 => match r1 with | .k0 ak aj an => (some (.k0 ak aj an)))
theorem El (c : ByteArray) {r : R_F47} (h : F47 c = some r) : PR1 prg 68 [vs c, (vs (⟨([10] : List UInt8).toArray⟩ : ByteArray))] (AF c r) := by
 unfold F47 at h
 apply bn h; intro r1 h1 h
 cases r1 with
 | k0 ak aj an =>
  rw [← sj h]
  exact fq [(9, .v (.tup [vs ak, vs aj, vb an]))] (apc (((BD c h1).cp rfl _) : CP prg 77 [vs c, (vs (⟨([10] : List UInt8).toArray⟩ : ByteArray))] [] = some (.tup [vs ak, vs aj, vb an])) apn)
inductive E_L37_1_12 where
  | k0 (x0 x1 : Nat) (x2 : Tqq)
section
variable (c : Nat) (i o A : Int) (k : ThingD) (G : Int) (D : BoxD) (I : Nat) (E : Tqq) (B : Bool) (C H J : Nat) (K : Oqq) (L : Iqq) (N M : Int) (O : Bool) (P : Iqq) (S : Nat) (T : Bqq) (U Y Z : ThingD) (W : Nat) (V : Tqq) (X : Nat) (aa : Tqq) (ab : Nat) (ad : Int) (af : Nat) (ag : Bqq) (ah : ThingD) (ai : Nat) (al : Bqq) (am : ThingD) (ap : Nat) (au : Bqq) (aw : ThingD)
abbrev X3 (l : List AB) : List AB := .cells 28 ((cBx D).map .p) :: yT I E :: .cells 83 [sp B 2 0, .sl 3 C 1 0 H, .sl 1 I 7 0 J, ls 1 Zc K, ls 1 eI64 L, i6 N, i6 M, vb O] :: yU C P :: .row 28 4 S (ra cBx T) :: .cells 77 ((Za U).map .p) :: .cells 73 [.ptr 2 0] :: .cells 77 ((Za Y).map .p) :: .cells 77 ((Za Z).map .p) :: yT W V :: l
def W0 (w F : Nat) (x R : Int) (Q : Tqq) : Option (E_L37_1_12 ⊕ (Nat × Nat × Int × Int × Tqq)) :=
  (bif (decide (R < G)) then ((getI k.kids R).bind fun x2 => (bif (apOk F 1 Q.length 80) then (bif (decide (F + 1 ≤ Q.length)) then ((getI L x).bind fun x5 => (some (.inr (w, F + 1, (IntKind.wrap .i64 (x + x5)), (IntKind.wrap .i64 (R + 1)), (splice Q F [(⟨x2.kind, x2.text, x2.n, x2.kids, i, o, x⟩ : ThingD)]))))) else ((getI L x).bind fun x5 => (some (.inr ((w + 1), F + 1, (IntKind.wrap .i64 (x + x5)), (IntKind.wrap .i64 (R + 1)), (Q.take F ++ [(⟨x2.kind, x2.text, x2.n, x2.kids, i, o, x⟩ : ThingD)])))))) else none)) else (some (.inl (.k0 w F Q))))
def QB (w F : Nat) (x R : Int) (Q : Tqq) : St := ⟨fr 74 ug [(0, .ptr 2 0), (1, .sl 10 w 7 0 F), (3, i6 i), (4, i6 o), (11, i6 x), (12, i6 A), (24, (.p (.lst 4 (Zb k.kids)))), (25, i6 G), (26, i6 R)], (X3 D I E B C H J K L N M O P S T U Y Z W V [yT w Q, yT X aa, .cells 78 [.sl 10 c 7 0 ab], .cells 3 [i6 ad], .row 28 4 af (ra cBx ag), .cells 77 ((Za ah).map .p), .row 28 4 ai (ra cBx al), .cells 77 ((Za am).map .p), .row 28 4 ap (ra cBx au), .cells 77 ((Za aw).map .p), .cells 77 ((Za k).map .p), yT0])⟩
theorem UP (w F : Nat) (x R : Int) (Q : Tqq) : okT 22 (QB c i o A k G D I E B C H J K L N M O P S T U Y Z W V X aa ab ad af ag ah ai al am ap au aw w F x R Q).h = true := (ZE rfl (ac (ar (Zv (Z8 rfl (Ze rfl (Ze rfl (Ze rfl (Ze rfl (Ze rfl (Ze rfl (Ze rfl rfl)))))))) (ar (ar (ac (ac (ac (ac (ar (ar (ar (ac (ac (ar (ac (ar (ac (ar (ac (ac (ar rfl)))))))))))))))))))))))
abbrev Y2 (w F : Nat) (x R : Int) (Q : Tqq) := evH prg 22 [0, 1, 3, 4, 11, 12, 24, 25, 26, 1000199007707] XL (QB c i o A k G D I E B C H J K L N M O P S T U Y Z W V X aa ab ad af ag ah ai al am ap au aw w F x R Q)
def UQ (e : E_L37_1_12) (r : Option (Out × St)) : Prop := match e with | .k0 x0 x1 x2 => ∃ g, r = some ((.brk 0), ⟨fr 74 g [(1, .sl 10 x0 7 0 x1), (12, i6 A), (24, (.p (.lst 4 (Zb k.kids))))], (X3 D I E B C H J K L N M O P S T U Y Z W V [yT x0 x2, yT X aa, .cells 78 [.sl 10 c 7 0 ab], .cells 3 [i6 ad], .row 28 4 af (ra cBx ag), .cells 77 ((Za ah).map .p), .row 28 4 ai (ra cBx al), .cells 77 ((Za am).map .p), .row 28 4 ap (ra cBx au), .cells 77 ((Za aw).map .p), .cells 77 ((Za k).map .p), yT0])⟩)
abbrev S8 (w : Nat) (Q : Tqq) (F : Nat) (x2 : BoxD) (x : Int) : List AB := (X3 D I E B C H J K L N M O P S T U Y Z W V [yT w (splice Q F [(⟨x2.kind, x2.text, x2.n, x2.kids, i, o, x⟩ : ThingD)]), yT X aa, .cells 78 [.sl 10 c 7 0 ab], .cells 3 [i6 ad], .row 28 4 af (ra cBx ag), .cells 77 ((Za ah).map .p), .row 28 4 ai (ra cBx al), .cells 77 ((Za am).map .p), .row 28 4 ap (ra cBx au), .cells 77 ((Za aw).map .p), .cells 77 ((Za k).map .p), yT0, .row 28 4 0 (ra cBx []), .cells 28 ((cBx x2).map .p), .row 77 7 0 [[i6 x2.kind, vs x2.text, i6 x2.n, (.p (.lst 4 (Zb x2.kids))), i6 i, i6 o, i6 x]]])
abbrev S9 (w : Nat) (Q : Tqq) (x2 : BoxD) (x : Int) : List AB := (X3 D I E B C H J K L N M O P S T U Y Z W V [yT w Q, yT X aa, .cells 78 [.sl 10 c 7 0 ab], .cells 3 [i6 ad], .row 28 4 af (ra cBx ag), .cells 77 ((Za ah).map .p), .row 28 4 ai (ra cBx al), .cells 77 ((Za am).map .p), .row 28 4 ap (ra cBx au), .cells 77 ((Za aw).map .p), .cells 77 ((Za k).map .p), yT0, .row 28 4 0 (ra cBx []), .cells 28 ((cBx x2).map .p), .row 77 7 0 [[i6 x2.kind, vs x2.text, i6 x2.n, (.p (.lst 4 (Zb x2.kids))), i6 i, i6 o, i6 x]]])
abbrev Ra (w : Nat) (Q : Tqq) (F : Nat) (x2 : BoxD) (x : Int) : List AB := (X3 D I E B C H J K L N M O P S T U Y Z W V [yT (w + 1) (Q.take F ++ [(⟨x2.kind, x2.text, x2.n, x2.kids, i, o, x⟩ : ThingD)]), yT X aa, .cells 78 [.sl 10 c 7 0 ab], .cells 3 [i6 ad], .row 28 4 af (ra cBx ag), .cells 77 ((Za ah).map .p), .row 28 4 ai (ra cBx al), .cells 77 ((Za am).map .p), .row 28 4 ap (ra cBx au), .cells 77 ((Za aw).map .p), .cells 77 ((Za k).map .p), yT0, .row 28 4 0 (ra cBx []), .cells 28 ((cBx x2).map .p), .row 77 7 0 [[i6 x2.kind, vs x2.text, i6 x2.n, (.p (.lst 4 (Zb x2.kids))), i6 i, i6 o, i6 x]]])
theorem MW (w F : Nat) (x R : Int) (Q : Tqq) {r : E_L37_1_12 ⊕ (Nat × Nat × Int × Int × Tqq)} (h : W0 i o k G L w F x R Q = some r) : OkR (fun e => UQ c A k D I E B C H J K L N M O P S T U Y Z W V X aa ab ad af ag ah ai al am ap au aw e (Y2 c i o A k G D I E B C H J K L N M O P S T U Y Z W V X aa ab ad af ag ah ai al am ap au aw w F x R Q)) (fun s => Y2 c i o A k G D I E B C H J K L N M O P S T U Y Z W V X aa ab ad af ag ah ai al am ap au aw w F x R Q = Y2 c i o A k G D I E B C H J K L N M O P S T U Y Z W V X aa ab ad af ag ah ai al am ap au aw s.1 s.2.1 s.2.2.1 s.2.2.2.1 s.2.2.2.2) r := by
 unfold W0 at h
 apply bi h <;> intro h1 h
 ·
  apply bn h; intro x2 h2 h
  have q0 := ((igr ZF h2) : idxA 4 (.p (.lst 4 (Zb k.kids))) (i6 R) = some (.ro (cBx x2)))
  have k1 := ka [(27, .d true), (28, .v (.ro (cBx x2)))] (av h1 (apc q0 apn))
  apply bi h <;> intro h3 h
  ·
   apply bi h <;> intro h4 h
   ·
    apply bn h; intro x5 h5 h
    rw [← sj h]
    exact rn ([(37, .r (.sl 10 w 7 0 (F + 1)) (S8 c i o k D I E B C H J K L N M O P S T U Y Z W V X aa ab ad af ag ah ai al am ap au aw w Q F x2 x)), (44, .v (.ro [.val (.int .i64 x5)])), (6000, .d true)] ++ kH k1) (k1.b (apc ((X0 (e := Za) (xs := Q) (news := [(⟨x2.kind, x2.text, x2.n, x2.kids, i, o, x⟩ : ThingD)]) rfl (ZA (e := Za) (xs := [(⟨x2.kind, x2.text, x2.n, x2.kids, i, o, x⟩ : ThingD)]) rfl) rfl h3 h4) : appA (S9 c i o k D I E B C H J K L N M O P S T U Y Z W V X aa ab ad af ag ah ai al am ap au aw w Q x2 x) 77 7 80 (.sl 10 w 7 0 F) (.sl 24 0 7 0 1) = some ((.sl 10 w 7 0 (F + 1)), S8 c i o k D I E B C H J K L N M O P S T U Y Z W V X aa ab ad af ag ah ai al am ap au aw w Q F x2 x)) (apc (ig eI64 1 .i64 h5) (apc (UP c i o A k G D I E B C H J K L N M O P S T U Y Z W V X aa ab ad af ag ah ai al am ap au aw w (F + 1) (w6 (x + x5)) (w6 (R + 1)) (splice Q F [(⟨x2.kind, x2.text, x2.n, x2.kids, i, o, x⟩ : ThingD)])) apn))))
   ·
    apply bn h; intro x5 h5 h
    rw [← sj h]
    exact rn ([(37, .r (.sl 10 (w + 1) 7 0 (F + 1)) (Ra c i o k D I E B C H J K L N M O P S T U Y Z W V X aa ab ad af ag ah ai al am ap au aw w Q F x2 x)), (44, .v (.ro [.val (.int .i64 x5)])), (6000, .d true)] ++ kH k1) (k1.b (apc ((Yk (e := Za) (xs := Q) (news := [(⟨x2.kind, x2.text, x2.n, x2.kids, i, o, x⟩ : ThingD)]) rfl (ZA (e := Za) (xs := [(⟨x2.kind, x2.text, x2.n, x2.kids, i, o, x⟩ : ThingD)]) rfl) rfl h3 h4) : appA (S9 c i o k D I E B C H J K L N M O P S T U Y Z W V X aa ab ad af ag ah ai al am ap au aw w Q x2 x) 77 7 80 (.sl 10 w 7 0 F) (.sl 24 0 7 0 1) = some ((.sl 10 (w + 1) 7 0 (F + 1)), Ra c i o k D I E B C H J K L N M O P S T U Y Z W V X aa ab ad af ag ah ai al am ap au aw w Q F x2 x)) (apc (ig eI64 1 .i64 h5) (apc (UP c i o A k G D I E B C H J K L N M O P S T U Y Z W V X aa ab ad af ag ah ai al am ap au aw (w + 1) (F + 1) (w6 (x + x5)) (w6 (R + 1)) (Q.take F ++ [(⟨x2.kind, x2.text, x2.n, x2.kids, i, o, x⟩ : ThingD)])) apn))))
  ·
   cases h
 ·
  rw [← sj h]
  exact xb [(27, .d false), (6000, .d true)] (av h1 apn)
theorem Nn (s0 : Nat × Nat × Int × Int × Tqq) (e : E_L37_1_12) (h : runL (fun s => W0 i o k G L s.1 s.2.1 s.2.2.1 s.2.2.2.1 s.2.2.2.2) s0 = some e) : UQ c A k D I E B C H J K L N M O P S T U Y Z W V X aa ab ad af ag ah ai al am ap au aw e (Y2 c i o A k G D I E B C H J K L N M O P S T U Y Z W V X aa ab ad af ag ah ai al am ap au aw s0.1 s0.2.1 s0.2.2.1 s0.2.2.2.1 s0.2.2.2.2) := by
  have q := @Zg (Nat × Nat × Int × Int × Tqq) E_L37_1_12 (fun s => W0 i o k G L s.1 s.2.1 s.2.2.1 s.2.2.2.1 s.2.2.2.2) (fun s => Y2 c i o A k G D I E B C H J K L N M O P S T U Y Z W V X aa ab ad af ag ah ai al am ap au aw s.1 s.2.1 s.2.2.1 s.2.2.2.1 s.2.2.2.2) (UQ c A k D I E B C H J K L N M O P S T U Y Z W V X aa ab ad af ag ah ai al am ap au aw) (fun s r h => MW c i o A k G D I E B C H J K L N M O P S T U Y Z W V X aa ab ad af ag ah ai al am ap au aw s.1 s.2.1 s.2.2.1 s.2.2.2.1 s.2.2.2.2 h) s0 e h
  exact q
end
inductive E_L37_0_12 where
  | k0 (x0 : Tqq)
section
variable (c j : Nat) (u : BoxD) (A : Nat) (k : Tqq) (G : Bool) (D I E : Nat) (B : Oqq) (C : Iqq) (H J : Int) (K : Bool) (L : Iqq) (N : Nat) (M : Bqq) (O P S : ThingD) (T : Nat) (U : Tqq) (Z : Nat) (W : Tqq) (V ae : Nat) (X : Int) (aa : Nat) (ab : Bqq) (ad : ThingD) (af : Nat) (ag : Bqq) (ah : ThingD) (ai : Nat) (al : Bqq) (am ap : ThingD)
abbrev X4 (l : List AB) : List AB := .cells 28 ((cBx u).map .p) :: yT A k :: .cells 83 [sp G 2 0, .sl 3 D 1 0 I, .sl 1 A 7 0 E, ls 1 Zc B, ls 1 eI64 C, i6 H, i6 J, vb K] :: yU D L :: .row 28 4 N (ra cBx M) :: .cells 77 ((Za O).map .p) :: .cells 73 [.ptr 2 0] :: .cells 77 ((Za P).map .p) :: .cells 77 ((Za S).map .p) :: yT T U :: l
def W1 (w F : Int) (x : Tqq) : Option (E_L37_0_12 ⊕ (Int × Int × Tqq)) :=
  (bif (decide (w < F)) then ((ixN j F).bind fun x2 => ((x[x2]?).bind fun x3 => ((ixN j w).bind fun x4 => ((x[x4]?).bind fun x5 => (((x.set x4 (⟨x3.kind, x3.text, x3.n, x3.kids, x3.depth, x3.way, x3.at_⟩ : ThingD))[x2]?).bind fun x6 => (some (.inr ((IntKind.wrap .i64 (w + 1)), (IntKind.wrap .i64 (F - 1)), ((x.set x4 (⟨x3.kind, x3.text, x3.n, x3.kids, x3.depth, x3.way, x3.at_⟩ : ThingD)).set x2 (⟨x5.kind, x5.text, x5.n, x5.kids, x5.depth, x5.way, x5.at_⟩ : ThingD)))))))))) else (some (.inl (.k0 x))))
def QC (w F : Int) (x : Tqq) : St := ⟨fr 74 ug [(1, .sl 10 c 7 0 j), (15, i6 w), (16, i6 F)], (X4 u A k G D I E B C H J K L N M O P S T U [yT c x, yT Z W, .cells 78 [.sl 10 V 7 0 ae], .cells 3 [i6 X], .row 28 4 aa (ra cBx ab), .cells 77 ((Za ad).map .p), .row 28 4 af (ra cBx ag), .cells 77 ((Za ah).map .p), .row 28 4 ai (ra cBx al), .cells 77 ((Za am).map .p), .cells 77 ((Za ap).map .p), yT0])⟩
theorem QD (w F : Int) (x : Tqq) : okT 22 (QC c j u A k G D I E B C H J K L N M O P S T U Z W V ae X aa ab ad af ag ah ai al am ap w F x).h = true := (ZE rfl (ac (ar (Zv (Z8 rfl (Ze rfl (Ze rfl (Ze rfl (Ze rfl (Ze rfl (Ze rfl (Ze rfl rfl)))))))) (ar (ar (ac (ac (ac (ac (ar (ar (ar (ac (ac (ar (ac (ar (ac (ar (ac (ac (ar rfl)))))))))))))))))))))))
abbrev Y3 (w F : Int) (x : Tqq) := evH prg 22 [1, 15, 16] XK (QC c j u A k G D I E B C H J K L N M O P S T U Z W V ae X aa ab ad af ag ah ai al am ap w F x)
def UR (e : E_L37_0_12) (r : Option (Out × St)) : Prop := match e with | .k0 x0 => ∃ g, r = some ((.brk 2), ⟨fr 74 g [(1, .sl 10 c 7 0 j)], (X4 u A k G D I E B C H J K L N M O P S T U [yT c x0, yT Z W, .cells 78 [.sl 10 V 7 0 ae], .cells 3 [i6 X], .row 28 4 aa (ra cBx ab), .cells 77 ((Za ad).map .p), .row 28 4 af (ra cBx ag), .cells 77 ((Za ah).map .p), .row 28 4 ai (ra cBx al), .cells 77 ((Za am).map .p), .cells 77 ((Za ap).map .p), yT0])⟩)
abbrev VH (x : Tqq) (x4 : Nat) (x3 : ThingD) : List AB := (X4 u A k G D I E B C H J K L N M O P S T U [yT c (x.set x4 (⟨x3.kind, x3.text, x3.n, x3.kids, x3.depth, x3.way, x3.at_⟩ : ThingD)), yT Z W, .cells 78 [.sl 10 V 7 0 ae], .cells 3 [i6 X], .row 28 4 aa (ra cBx ab), .cells 77 ((Za ad).map .p), .row 28 4 af (ra cBx ag), .cells 77 ((Za ah).map .p), .row 28 4 ai (ra cBx al), .cells 77 ((Za am).map .p), .cells 77 ((Za ap).map .p), yT0])
abbrev Rb (x : Tqq) (x4 : Nat) (x3 : ThingD) (x2 : Nat) (x5 : ThingD) : List AB := (X4 u A k G D I E B C H J K L N M O P S T U [yT c ((x.set x4 (⟨x3.kind, x3.text, x3.n, x3.kids, x3.depth, x3.way, x3.at_⟩ : ThingD)).set x2 (⟨x5.kind, x5.text, x5.n, x5.kids, x5.depth, x5.way, x5.at_⟩ : ThingD)), yT Z W, .cells 78 [.sl 10 V 7 0 ae], .cells 3 [i6 X], .row 28 4 aa (ra cBx ab), .cells 77 ((Za ad).map .p), .row 28 4 af (ra cBx ag), .cells 77 ((Za ah).map .p), .row 28 4 ai (ra cBx al), .cells 77 ((Za am).map .p), .cells 77 ((Za ap).map .p), yT0])
abbrev VI (x : Tqq) : List AB := (X4 u A k G D I E B C H J K L N M O P S T U [yT c x, yT Z W, .cells 78 [.sl 10 V 7 0 ae], .cells 3 [i6 X], .row 28 4 aa (ra cBx ab), .cells 77 ((Za ad).map .p), .row 28 4 af (ra cBx ag), .cells 77 ((Za ah).map .p), .row 28 4 ai (ra cBx al), .cells 77 ((Za am).map .p), .cells 77 ((Za ap).map .p), yT0])
theorem MX (w F : Int) (x : Tqq) {r : E_L37_0_12 ⊕ (Int × Int × Tqq)} (h : W1 j w F x = some r) : OkR (fun e => UR c j u A k G D I E B C H J K L N M O P S T U Z W V ae X aa ab ad af ag ah ai al am ap e (Y3 c j u A k G D I E B C H J K L N M O P S T U Z W V ae X aa ab ad af ag ah ai al am ap w F x)) (fun s => Y3 c j u A k G D I E B C H J K L N M O P S T U Z W V ae X aa ab ad af ag ah ai al am ap w F x = Y3 c j u A k G D I E B C H J K L N M O P S T U Z W V ae X aa ab ad af ag ah ai al am ap s.1 s.2.1 s.2.2) r := by
 unfold W1 at h
 apply bi h <;> intro h1 h
 ·
  apply bn h; intro x2 h2 h
  have q0 := ((ZP h2) : idxA 7 (.sl 10 c 7 0 j) (i6 F) = some (.rp 10 c 7 x2 0))
  apply bn h; intro x3 h3 h
  apply bn h; intro x4 h4 h
  have q1 := ((ZP h4) : idxA 7 (.sl 10 c 7 0 j) (i6 w) = some (.rp 10 c 7 x4 0))
  apply bn h; intro x5 h5 h
  apply bn h; intro x6 h6 h
  rw [← sj h]
  exact rn [(54, .d true), (65, .v (.rp 10 c 7 x2 0)), (66, .v (.agg ((Za x3).map .p))), (69, .v (.rp 10 c 7 x4 0)), (70, .v (.agg ((Za x5).map .p))), (71, .v (.rp 10 c 7 x4 0)), (1071, .r ud (VH c u A k G D I E B C H J K L N M O P S T U Z W V ae X aa ab ad af ag ah ai al am ap x x4 x3)), (72, .v (.rp 10 c 7 x2 0)), (1072, .r ud (Rb c u A k G D I E B C H J K L N M O P S T U Z W V ae X aa ab ad af ag ah ai al am ap x x4 x3 x2 x5)), (6000, .d true)] (av h1 (apc q0 (apc ((Z6 rfl h3 rfl) : ldA (VI c u A k G D I E B C H J K L N M O P S T U Z W V ae X aa ab ad af ag ah ai al am ap x) .true 7 (.rp 10 c 7 x2 0) = some (.agg ((Za x3).map .p))) (apc q1 (apc ((Z6 rfl h5 rfl) : ldA (VI c u A k G D I E B C H J K L N M O P S T U Z W V ae X aa ab ad af ag ah ai al am ap x) .true 7 (.rp 10 c 7 x4 0) = some (.agg ((Za x5).map .p))) (apc q1 (apc (⟨ZZ (v' := (⟨x3.kind, x3.text, x3.n, x3.kids, x3.depth, x3.way, x3.at_⟩ : ThingD)) rfl h5 rfl rfl (Nat.le_of_ble_eq_true rfl) rfl, rfl⟩ : stA (VI c u A k G D I E B C H J K L N M O P S T U Z W V ae X aa ab ad af ag ah ai al am ap x) 7 (.rp 10 c 7 x4 0) (.agg ((Za x3).map .p)) = some (VH c u A k G D I E B C H J K L N M O P S T U Z W V ae X aa ab ad af ag ah ai al am ap x x4 x3) ∧ ud = ud) (apc q0 (apc (⟨ZZ (v' := (⟨x5.kind, x5.text, x5.n, x5.kids, x5.depth, x5.way, x5.at_⟩ : ThingD)) rfl h6 rfl rfl (Nat.le_of_ble_eq_true rfl) rfl, rfl⟩ : stA (VH c u A k G D I E B C H J K L N M O P S T U Z W V ae X aa ab ad af ag ah ai al am ap x x4 x3) 7 (.rp 10 c 7 x2 0) (.agg ((Za x5).map .p)) = some (Rb c u A k G D I E B C H J K L N M O P S T U Z W V ae X aa ab ad af ag ah ai al am ap x x4 x3 x2 x5) ∧ ud = ud) (apc (QD c j u A k G D I E B C H J K L N M O P S T U Z W V ae X aa ab ad af ag ah ai al am ap (w6 (w + 1)) (w6 (F - 1)) ((x.set x4 (⟨x3.kind, x3.text, x3.n, x3.kids, x3.depth, x3.way, x3.at_⟩ : ThingD)).set x2 (⟨x5.kind, x5.text, x5.n, x5.kids, x5.depth, x5.way, x5.at_⟩ : ThingD))) apn))))))))))
 ·
  rw [← sj h]
  exact xb [(54, .d false), (6000, .d true)] (av h1 apn)
theorem Np (s0 : Int × Int × Tqq) (e : E_L37_0_12) (h : runL (fun s => W1 j s.1 s.2.1 s.2.2) s0 = some e) : UR c j u A k G D I E B C H J K L N M O P S T U Z W V ae X aa ab ad af ag ah ai al am ap e (Y3 c j u A k G D I E B C H J K L N M O P S T U Z W V ae X aa ab ad af ag ah ai al am ap s0.1 s0.2.1 s0.2.2) := by
  have q := @Zg (Int × Int × Tqq) E_L37_0_12 (fun s => W1 j s.1 s.2.1 s.2.2) (fun s => Y3 c j u A k G D I E B C H J K L N M O P S T U Z W V ae X aa ab ad af ag ah ai al am ap s.1 s.2.1 s.2.2) (UR c j u A k G D I E B C H J K L N M O P S T U Z W V ae X aa ab ad af ag ah ai al am ap) (fun s r h => MX c j u A k G D I E B C H J K L N M O P S T U Z W V ae X aa ab ad af ag ah ai al am ap s.1 s.2.1 s.2.2 h) s0 e h
  exact q
end
inductive R_F37_12 where
  | k0 (x0 x1 : Nat) (x2 : Tqq)
def Fk (c j : Nat) (i : ThingD) (o u : Int) (A : BoxD) (k : Nat) (G : Tqq) (D : Bool) (I E B : Nat) (C : Oqq) (H : Iqq) (J K : Int) (L : Bool) (N : Iqq) (M : Nat) (O : Bqq) (P S T : ThingD) (U : Nat) (Y Z : Tqq) (W : Nat) (V : Tqq) (ae : Nat) (X : Int) (aa : Nat) (ab : Bqq) (ad : ThingD) (af : Nat) (ag : Bqq) (ah : ThingD) (ai : Nat) (al : Bqq) (am : ThingD) (r : R_F37_12) : AV := match r with | .k0 x0 x1 x2 => (.sl 10 x0 7 0 x1)
def Fl (c j : Nat) (i : ThingD) (o u : Int) (A : BoxD) (k : Nat) (G : Tqq) (D : Bool) (I E B : Nat) (C : Oqq) (H : Iqq) (J K : Int) (L : Bool) (N : Iqq) (M : Nat) (O : Bqq) (P S T : ThingD) (U : Nat) (Y Z : Tqq) (W : Nat) (V : Tqq) (ae : Nat) (X : Int) (aa : Nat) (ab : Bqq) (ad : ThingD) (af : Nat) (ag : Bqq) (ah : ThingD) (ai : Nat) (al : Bqq) (am : ThingD) (r : R_F37_12) : List AB := match r with | .k0 x0 x1 x2 => [.cells 28 ((cBx A).map .p), yT k G, .cells 83 [sp D 2 0, .sl 3 I 1 0 E, .sl 1 k 7 0 B, ls 1 Zc C, ls 1 eI64 H, i6 J, i6 K, vb L], yU I N, .row 28 4 M (ra cBx O), .cells 77 ((Za P).map .p), .cells 73 [.ptr 2 0], .cells 77 ((Za S).map .p), .cells 77 ((Za T).map .p), yT U Y, yT x0 x2, yT W V, .cells 78 [.sl 10 c 7 0 ae], .cells 3 [i6 X], .row 28 4 aa (ra cBx ab), .cells 77 ((Za ad).map .p), .row 28 4 af (ra cBx ag), .cells 77 ((Za ah).map .p), .row 28 4 ai (ra cBx al), .cells 77 ((Za am).map .p), .cells 77 ((Za i).map .p), yT0]
def Rc (c j : Nat) (i : ThingD) (o u : Int) (H : Iqq) (Z : Tqq) : Option R_F37_12 :=
  ((runL (fun s => W0 o u i (i.kids.length : Int) H s.1 s.2.1 s.2.2.1 s.2.2.2.1 s.2.2.2.2) (c, j, (IntKind.wrap .i64 (i.at_ + 1)), 0, Z)).bind fun r1 => match r1 with | .k0 ak aj an => ((runL (fun s => W1 aj s.1 s.2.1 s.2.2) (((j : Nat) : Int), (IntKind.wrap .i64 (((aj : Nat) : Int) - 1)), an)).bind fun r2 => match r2 with | .k0 ao => (some (.k0 ak aj ao))))
abbrev Nq (g1 : Nat → AV) (ak aj j : Nat) (i : ThingD) (A : BoxD) (k : Nat) (G : Tqq) (D : Bool) (I E B : Nat) (C : Oqq) (H : Iqq) (J K : Int) (L : Bool) (N : Iqq) (M : Nat) (O : Bqq) (P S T : ThingD) (U : Nat) (Y an : Tqq) (W : Nat) (V : Tqq) (c ae : Nat) (X : Int) (aa : Nat) (ab : Bqq) (ad : ThingD) (af : Nat) (ag : Bqq) (ah : ThingD) (ai : Nat) (al : Bqq) (am : ThingD) : St := ⟨fr 74 g1 [(1, .sl 10 ak 7 0 aj), (12, (i6 ((j : Nat) : Int))), (24, (.p (.lst 4 (Zb i.kids))))], [.cells 28 ((cBx A).map .p), yT k G, .cells 83 [sp D 2 0, .sl 3 I 1 0 E, .sl 1 k 7 0 B, ls 1 Zc C, ls 1 eI64 H, i6 J, i6 K, vb L], yU I N, .row 28 4 M (ra cBx O), .cells 77 ((Za P).map .p), .cells 73 [.ptr 2 0], .cells 77 ((Za S).map .p), .cells 77 ((Za T).map .p), yT U Y, yT ak an, yT W V, .cells 78 [.sl 10 c 7 0 ae], .cells 3 [i6 X], .row 28 4 aa (ra cBx ab), .cells 77 ((Za ad).map .p), .row 28 4 af (ra cBx ag), .cells 77 ((Za ah).map .p), .row 28 4 ai (ra cBx al), .cells 77 ((Za am).map .p), .cells 77 ((Za i).map .p), yT0]⟩
abbrev Nr (g2 : Nat → AV) (ak aj : Nat) (A : BoxD) (k : Nat) (G : Tqq) (D : Bool) (I E B : Nat) (C : Oqq) (H : Iqq) (J K : Int) (L : Bool) (N : Iqq) (M : Nat) (O : Bqq) (P S T : ThingD) (U : Nat) (Y ao : Tqq) (W : Nat) (V : Tqq) (c ae : Nat) (X : Int) (aa : Nat) (ab : Bqq) (ad : ThingD) (af : Nat) (ag : Bqq) (ah : ThingD) (ai : Nat) (al : Bqq) (am i : ThingD) : St := ⟨fr 74 g2 [(1, .sl 10 ak 7 0 aj)], [.cells 28 ((cBx A).map .p), yT k G, .cells 83 [sp D 2 0, .sl 3 I 1 0 E, .sl 1 k 7 0 B, ls 1 Zc C, ls 1 eI64 H, i6 J, i6 K, vb L], yU I N, .row 28 4 M (ra cBx O), .cells 77 ((Za P).map .p), .cells 73 [.ptr 2 0], .cells 77 ((Za S).map .p), .cells 77 ((Za T).map .p), yT U Y, yT ak ao, yT W V, .cells 78 [.sl 10 c 7 0 ae], .cells 3 [i6 X], .row 28 4 aa (ra cBx ab), .cells 77 ((Za ad).map .p), .row 28 4 af (ra cBx ag), .cells 77 ((Za ah).map .p), .row 28 4 ai (ra cBx al), .cells 77 ((Za am).map .p), .cells 77 ((Za i).map .p), yT0]⟩
theorem Ns (c j : Nat) (i : ThingD) (o u : Int) (A : BoxD) (k : Nat) (G : Tqq) (D : Bool) (I E B : Nat) (C : Oqq) (H : Iqq) (J K : Int) (L : Bool) (N : Iqq) (M : Nat) (O : Bqq) (P S T : ThingD) (U : Nat) (Y Z : Tqq) (W : Nat) (V : Tqq) (ae : Nat) (X : Int) (aa : Nat) (ab : Bqq) (ad : ThingD) (af : Nat) (ag : Bqq) (ah : ThingD) (ai : Nat) (al : Bqq) (am : ThingD) {r : R_F37_12} (h : Rc c j i o u H Z = some r) : CS prg 55 [.ptr 2 0, .sl 10 c 7 0 j, (.agg ((Za i).map .p)), i6 o, i6 u] [.cells 28 ((cBx A).map .p), yT k G, .cells 83 [sp D 2 0, .sl 3 I 1 0 E, .sl 1 k 7 0 B, ls 1 Zc C, ls 1 eI64 H, i6 J, i6 K, vb L], yU I N, .row 28 4 M (ra cBx O), .cells 77 ((Za P).map .p), .cells 73 [.ptr 2 0], .cells 77 ((Za S).map .p), .cells 77 ((Za T).map .p), yT U Y, yT c Z, yT W V, .cells 78 [.sl 10 c 7 0 ae], .cells 3 [i6 X], .row 28 4 aa (ra cBx ab), .cells 77 ((Za ad).map .p), .row 28 4 af (ra cBx ag), .cells 77 ((Za ah).map .p), .row 28 4 ai (ra cBx al), .cells 77 ((Za am).map .p)] = some (Fk c j i o u A k G D I E B C H J K L N M O P S T U Y Z W V ae X aa ab ad af ag ah ai al am r, Fl c j i o u A k G D I E B C H J K L N M O P S T U Y Z W V ae X aa ab ad af ag ah ai al am r) := by
 unfold Rc at h
 apply bn h; intro r1 h1 h
 cases r1 with
 | k0 ak aj an =>
  obtain ⟨g1, e1⟩ := Nn c o u ((j : Nat) : Int) i (i.kids.length : Int) A k G D I E B C H J K L N M O P S T U Y W V ae X aa ab ad af ag ah ai al am (c, j, (w6 (i.at_ + 1)), 0, Z) _ h1
  apply bn h; intro r2 h2 h
  cases r2 with
  | k0 ao =>
   obtain ⟨g2, e2⟩ := Np ak aj A k G D I E B C H J K L N M O P S T U Y W V c ae X aa ab ad af ag ah ai al am i (((j : Nat) : Int), (w6 (((aj : Nat) : Int) - 1)), an) _ h2
   rw [← sj h]
   exact fc [(25, .v (i6 (i.kids.length : Int))), (2000, .l (.brk 0) (Nq g1 ak aj j i A k G D I E B C H J K L N M O P S T U Y an W V c ae X aa ab ad af ag ah ai al am)), (2002, .l (.brk 2) (Nr g2 ak aj A k G D I E B C H J K L N M O P S T U Y ao W V c ae X aa ab ad af ag ah ai al am i)), (6000, .d true)] (apc ((lgr ZF) : lnA (.p (.lst 4 (Zb i.kids))) = some (i6 (i.kids.length : Int))) (apc (UP c o u ((j : Nat) : Int) i (i.kids.length : Int) A k G D I E B C H J K L N M O P S T U Y W V ae X aa ab ad af ag ah ai al am c j (w6 (i.at_ + 1)) 0 Z) (apc (e1 : Y2 c o u ((j : Nat) : Int) i (i.kids.length : Int) A k G D I E B C H J K L N M O P S T U Y W V ae X aa ab ad af ag ah ai al am c j (w6 (i.at_ + 1)) 0 Z = some ((.brk 0), Nq g1 ak aj j i A k G D I E B C H J K L N M O P S T U Y an W V c ae X aa ab ad af ag ah ai al am)) (apc (QD ak aj A k G D I E B C H J K L N M O P S T U Y W V c ae X aa ab ad af ag ah ai al am i ((j : Nat) : Int) (w6 (((aj : Nat) : Int) - 1)) an) (apc (e2 : Y3 ak aj A k G D I E B C H J K L N M O P S T U Y W V c ae X aa ab ad af ag ah ai al am i ((j : Nat) : Int) (w6 (((aj : Nat) : Int) - 1)) an = some ((.brk 2), Nr g2 ak aj A k G D I E B C H J K L N M O P S T U Y ao W V c ae X aa ab ad af ag ah ai al am i)) apn)))))
inductive E_L37_1_13 where
  | k0 (x0 x1 : Nat) (x2 : Tqq)
section
variable (c : Nat) (i o A : Int) (k : ThingD) (G : Int) (D : BoxD) (I : Nat) (E : Tqq) (B : Bool) (C H J : Nat) (K : Oqq) (L : Iqq) (N M : Int) (O : Bool) (P : Iqq) (S : Nat) (T : Bqq) (U Y Z : ThingD) (W : Nat) (V : Tqq) (X : Nat) (aa : Tqq) (ab : Nat) (ad : Int) (af : Nat) (ag : Bqq) (ah : ThingD) (ai : Nat) (al : Bqq) (am : ThingD)
abbrev X5 (l : List AB) : List AB := .cells 28 ((cBx D).map .p) :: yT I E :: .cells 83 [sp B 2 0, .sl 3 C 1 0 H, .sl 1 I 7 0 J, ls 1 Zc K, ls 1 eI64 L, i6 N, i6 M, vb O] :: yU C P :: .row 28 4 S (ra cBx T) :: .cells 77 ((Za U).map .p) :: .cells 73 [.ptr 2 0] :: .cells 77 ((Za Y).map .p) :: .cells 77 ((Za Z).map .p) :: yT W V :: l
def W3 (w F : Nat) (x R : Int) (Q : Tqq) : Option (E_L37_1_13 ⊕ (Nat × Nat × Int × Int × Tqq)) :=
  (bif (decide (R < G)) then ((getI k.kids R).bind fun x2 => (bif (apOk F 1 Q.length 80) then (bif (decide (F + 1 ≤ Q.length)) then ((getI L x).bind fun x5 => (some (.inr (w, F + 1, (IntKind.wrap .i64 (x + x5)), (IntKind.wrap .i64 (R + 1)), (splice Q F [(⟨x2.kind, x2.text, x2.n, x2.kids, i, o, x⟩ : ThingD)]))))) else ((getI L x).bind fun x5 => (some (.inr ((w + 1), F + 1, (IntKind.wrap .i64 (x + x5)), (IntKind.wrap .i64 (R + 1)), (Q.take F ++ [(⟨x2.kind, x2.text, x2.n, x2.kids, i, o, x⟩ : ThingD)])))))) else none)) else (some (.inl (.k0 w F Q))))
def QE (w F : Nat) (x R : Int) (Q : Tqq) : St := ⟨fr 74 ug [(0, .ptr 2 0), (1, .sl 10 w 7 0 F), (3, i6 i), (4, i6 o), (11, i6 x), (12, i6 A), (24, (.p (.lst 4 (Zb k.kids)))), (25, i6 G), (26, i6 R)], (X5 D I E B C H J K L N M O P S T U Y Z W V [yT w Q, yT X aa, .cells 78 [.sl 10 c 7 0 ab], .cells 3 [i6 ad], .row 28 4 af (ra cBx ag), .cells 77 ((Za ah).map .p), .row 28 4 ai (ra cBx al), .cells 77 ((Za am).map .p), .cells 77 ((Za k).map .p), yT0])⟩
theorem US (w F : Nat) (x R : Int) (Q : Tqq) : okT 20 (QE c i o A k G D I E B C H J K L N M O P S T U Y Z W V X aa ab ad af ag ah ai al am w F x R Q).h = true := (ZE rfl (ac (ar (Zv (Z8 rfl (Ze rfl (Ze rfl (Ze rfl (Ze rfl (Ze rfl (Ze rfl (Ze rfl rfl)))))))) (ar (ar (ac (ac (ac (ac (ar (ar (ar (ac (ac (ar (ac (ar (ac (ac (ar rfl)))))))))))))))))))))
abbrev Y4 (w F : Nat) (x R : Int) (Q : Tqq) := evH prg 20 [0, 1, 3, 4, 11, 12, 24, 25, 26, 1000199007707] XL (QE c i o A k G D I E B C H J K L N M O P S T U Y Z W V X aa ab ad af ag ah ai al am w F x R Q)
def UT (e : E_L37_1_13) (r : Option (Out × St)) : Prop := match e with | .k0 x0 x1 x2 => ∃ g, r = some ((.brk 0), ⟨fr 74 g [(1, .sl 10 x0 7 0 x1), (12, i6 A), (24, (.p (.lst 4 (Zb k.kids))))], (X5 D I E B C H J K L N M O P S T U Y Z W V [yT x0 x2, yT X aa, .cells 78 [.sl 10 c 7 0 ab], .cells 3 [i6 ad], .row 28 4 af (ra cBx ag), .cells 77 ((Za ah).map .p), .row 28 4 ai (ra cBx al), .cells 77 ((Za am).map .p), .cells 77 ((Za k).map .p), yT0])⟩)
abbrev Rd (w : Nat) (Q : Tqq) (F : Nat) (x2 : BoxD) (x : Int) : List AB := (X5 D I E B C H J K L N M O P S T U Y Z W V [yT w (splice Q F [(⟨x2.kind, x2.text, x2.n, x2.kids, i, o, x⟩ : ThingD)]), yT X aa, .cells 78 [.sl 10 c 7 0 ab], .cells 3 [i6 ad], .row 28 4 af (ra cBx ag), .cells 77 ((Za ah).map .p), .row 28 4 ai (ra cBx al), .cells 77 ((Za am).map .p), .cells 77 ((Za k).map .p), yT0, .row 28 4 0 (ra cBx []), .cells 28 ((cBx x2).map .p), .row 77 7 0 [[i6 x2.kind, vs x2.text, i6 x2.n, (.p (.lst 4 (Zb x2.kids))), i6 i, i6 o, i6 x]]])
abbrev Re (w : Nat) (Q : Tqq) (x2 : BoxD) (x : Int) : List AB := (X5 D I E B C H J K L N M O P S T U Y Z W V [yT w Q, yT X aa, .cells 78 [.sl 10 c 7 0 ab], .cells 3 [i6 ad], .row 28 4 af (ra cBx ag), .cells 77 ((Za ah).map .p), .row 28 4 ai (ra cBx al), .cells 77 ((Za am).map .p), .cells 77 ((Za k).map .p), yT0, .row 28 4 0 (ra cBx []), .cells 28 ((cBx x2).map .p), .row 77 7 0 [[i6 x2.kind, vs x2.text, i6 x2.n, (.p (.lst 4 (Zb x2.kids))), i6 i, i6 o, i6 x]]])
abbrev Rf (w : Nat) (Q : Tqq) (F : Nat) (x2 : BoxD) (x : Int) : List AB := (X5 D I E B C H J K L N M O P S T U Y Z W V [yT (w + 1) (Q.take F ++ [(⟨x2.kind, x2.text, x2.n, x2.kids, i, o, x⟩ : ThingD)]), yT X aa, .cells 78 [.sl 10 c 7 0 ab], .cells 3 [i6 ad], .row 28 4 af (ra cBx ag), .cells 77 ((Za ah).map .p), .row 28 4 ai (ra cBx al), .cells 77 ((Za am).map .p), .cells 77 ((Za k).map .p), yT0, .row 28 4 0 (ra cBx []), .cells 28 ((cBx x2).map .p), .row 77 7 0 [[i6 x2.kind, vs x2.text, i6 x2.n, (.p (.lst 4 (Zb x2.kids))), i6 i, i6 o, i6 x]]])
theorem MY (w F : Nat) (x R : Int) (Q : Tqq) {r : E_L37_1_13 ⊕ (Nat × Nat × Int × Int × Tqq)} (h : W3 i o k G L w F x R Q = some r) : OkR (fun e => UT c A k D I E B C H J K L N M O P S T U Y Z W V X aa ab ad af ag ah ai al am e (Y4 c i o A k G D I E B C H J K L N M O P S T U Y Z W V X aa ab ad af ag ah ai al am w F x R Q)) (fun s => Y4 c i o A k G D I E B C H J K L N M O P S T U Y Z W V X aa ab ad af ag ah ai al am w F x R Q = Y4 c i o A k G D I E B C H J K L N M O P S T U Y Z W V X aa ab ad af ag ah ai al am s.1 s.2.1 s.2.2.1 s.2.2.2.1 s.2.2.2.2) r := by
 unfold W3 at h
 apply bi h <;> intro h1 h
 ·
  apply bn h; intro x2 h2 h
  have q0 := ((igr ZF h2) : idxA 4 (.p (.lst 4 (Zb k.kids))) (i6 R) = some (.ro (cBx x2)))
  have k1 := ka [(27, .d true), (28, .v (.ro (cBx x2)))] (av h1 (apc q0 apn))
  apply bi h <;> intro h3 h
  ·
   apply bi h <;> intro h4 h
   ·
    apply bn h; intro x5 h5 h
    rw [← sj h]
    exact rn ([(37, .r (.sl 10 w 7 0 (F + 1)) (Rd c i o k D I E B C H J K L N M O P S T U Y Z W V X aa ab ad af ag ah ai al am w Q F x2 x)), (44, .v (.ro [.val (.int .i64 x5)])), (6000, .d true)] ++ kH k1) (k1.b (apc ((X0 (e := Za) (xs := Q) (news := [(⟨x2.kind, x2.text, x2.n, x2.kids, i, o, x⟩ : ThingD)]) rfl (ZA (e := Za) (xs := [(⟨x2.kind, x2.text, x2.n, x2.kids, i, o, x⟩ : ThingD)]) rfl) rfl h3 h4) : appA (Re c i o k D I E B C H J K L N M O P S T U Y Z W V X aa ab ad af ag ah ai al am w Q x2 x) 77 7 80 (.sl 10 w 7 0 F) (.sl 22 0 7 0 1) = some ((.sl 10 w 7 0 (F + 1)), Rd c i o k D I E B C H J K L N M O P S T U Y Z W V X aa ab ad af ag ah ai al am w Q F x2 x)) (apc (ig eI64 1 .i64 h5) (apc (US c i o A k G D I E B C H J K L N M O P S T U Y Z W V X aa ab ad af ag ah ai al am w (F + 1) (w6 (x + x5)) (w6 (R + 1)) (splice Q F [(⟨x2.kind, x2.text, x2.n, x2.kids, i, o, x⟩ : ThingD)])) apn))))
   ·
    apply bn h; intro x5 h5 h
    rw [← sj h]
    exact rn ([(37, .r (.sl 10 (w + 1) 7 0 (F + 1)) (Rf c i o k D I E B C H J K L N M O P S T U Y Z W V X aa ab ad af ag ah ai al am w Q F x2 x)), (44, .v (.ro [.val (.int .i64 x5)])), (6000, .d true)] ++ kH k1) (k1.b (apc ((Yk (e := Za) (xs := Q) (news := [(⟨x2.kind, x2.text, x2.n, x2.kids, i, o, x⟩ : ThingD)]) rfl (ZA (e := Za) (xs := [(⟨x2.kind, x2.text, x2.n, x2.kids, i, o, x⟩ : ThingD)]) rfl) rfl h3 h4) : appA (Re c i o k D I E B C H J K L N M O P S T U Y Z W V X aa ab ad af ag ah ai al am w Q x2 x) 77 7 80 (.sl 10 w 7 0 F) (.sl 22 0 7 0 1) = some ((.sl 10 (w + 1) 7 0 (F + 1)), Rf c i o k D I E B C H J K L N M O P S T U Y Z W V X aa ab ad af ag ah ai al am w Q F x2 x)) (apc (ig eI64 1 .i64 h5) (apc (US c i o A k G D I E B C H J K L N M O P S T U Y Z W V X aa ab ad af ag ah ai al am (w + 1) (F + 1) (w6 (x + x5)) (w6 (R + 1)) (Q.take F ++ [(⟨x2.kind, x2.text, x2.n, x2.kids, i, o, x⟩ : ThingD)])) apn))))
  ·
   cases h
 ·
  rw [← sj h]
  exact xb [(27, .d false), (6000, .d true)] (av h1 apn)
theorem Nt (s0 : Nat × Nat × Int × Int × Tqq) (e : E_L37_1_13) (h : runL (fun s => W3 i o k G L s.1 s.2.1 s.2.2.1 s.2.2.2.1 s.2.2.2.2) s0 = some e) : UT c A k D I E B C H J K L N M O P S T U Y Z W V X aa ab ad af ag ah ai al am e (Y4 c i o A k G D I E B C H J K L N M O P S T U Y Z W V X aa ab ad af ag ah ai al am s0.1 s0.2.1 s0.2.2.1 s0.2.2.2.1 s0.2.2.2.2) := by
  have q := @Zg (Nat × Nat × Int × Int × Tqq) E_L37_1_13 (fun s => W3 i o k G L s.1 s.2.1 s.2.2.1 s.2.2.2.1 s.2.2.2.2) (fun s => Y4 c i o A k G D I E B C H J K L N M O P S T U Y Z W V X aa ab ad af ag ah ai al am s.1 s.2.1 s.2.2.1 s.2.2.2.1 s.2.2.2.2) (UT c A k D I E B C H J K L N M O P S T U Y Z W V X aa ab ad af ag ah ai al am) (fun s r h => MY c i o A k G D I E B C H J K L N M O P S T U Y Z W V X aa ab ad af ag ah ai al am s.1 s.2.1 s.2.2.1 s.2.2.2.1 s.2.2.2.2 h) s0 e h
  exact q
end
inductive E_L37_0_13 where
  | k0 (x0 : Tqq)
section
variable (c j : Nat) (u : BoxD) (A : Nat) (k : Tqq) (G : Bool) (D I E : Nat) (B : Oqq) (C : Iqq) (H J : Int) (K : Bool) (L : Iqq) (N : Nat) (M : Bqq) (O P S : ThingD) (T : Nat) (U : Tqq) (Z : Nat) (W : Tqq) (V ae : Nat) (X : Int) (aa : Nat) (ab : Bqq) (ad : ThingD) (af : Nat) (ag : Bqq) (ah ai : ThingD)
abbrev X6 (l : List AB) : List AB := .cells 28 ((cBx u).map .p) :: yT A k :: .cells 83 [sp G 2 0, .sl 3 D 1 0 I, .sl 1 A 7 0 E, ls 1 Zc B, ls 1 eI64 C, i6 H, i6 J, vb K] :: yU D L :: .row 28 4 N (ra cBx M) :: .cells 77 ((Za O).map .p) :: .cells 73 [.ptr 2 0] :: .cells 77 ((Za P).map .p) :: .cells 77 ((Za S).map .p) :: yT T U :: l
def W4 (w F : Int) (x : Tqq) : Option (E_L37_0_13 ⊕ (Int × Int × Tqq)) :=
  (bif (decide (w < F)) then ((ixN j F).bind fun x2 => ((x[x2]?).bind fun x3 => ((ixN j w).bind fun x4 => ((x[x4]?).bind fun x5 => (((x.set x4 (⟨x3.kind, x3.text, x3.n, x3.kids, x3.depth, x3.way, x3.at_⟩ : ThingD))[x2]?).bind fun x6 => (some (.inr ((IntKind.wrap .i64 (w + 1)), (IntKind.wrap .i64 (F - 1)), ((x.set x4 (⟨x3.kind, x3.text, x3.n, x3.kids, x3.depth, x3.way, x3.at_⟩ : ThingD)).set x2 (⟨x5.kind, x5.text, x5.n, x5.kids, x5.depth, x5.way, x5.at_⟩ : ThingD)))))))))) else (some (.inl (.k0 x))))
def QF (w F : Int) (x : Tqq) : St := ⟨fr 74 ug [(1, .sl 10 c 7 0 j), (15, i6 w), (16, i6 F)], (X6 u A k G D I E B C H J K L N M O P S T U [yT c x, yT Z W, .cells 78 [.sl 10 V 7 0 ae], .cells 3 [i6 X], .row 28 4 aa (ra cBx ab), .cells 77 ((Za ad).map .p), .row 28 4 af (ra cBx ag), .cells 77 ((Za ah).map .p), .cells 77 ((Za ai).map .p), yT0])⟩
theorem QG (w F : Int) (x : Tqq) : okT 20 (QF c j u A k G D I E B C H J K L N M O P S T U Z W V ae X aa ab ad af ag ah ai w F x).h = true := (ZE rfl (ac (ar (Zv (Z8 rfl (Ze rfl (Ze rfl (Ze rfl (Ze rfl (Ze rfl (Ze rfl (Ze rfl rfl)))))))) (ar (ar (ac (ac (ac (ac (ar (ar (ar (ac (ac (ar (ac (ar (ac (ac (ar rfl)))))))))))))))))))))
abbrev Y5 (w F : Int) (x : Tqq) := evH prg 20 [1, 15, 16] XK (QF c j u A k G D I E B C H J K L N M O P S T U Z W V ae X aa ab ad af ag ah ai w F x)
def UU (e : E_L37_0_13) (r : Option (Out × St)) : Prop := match e with | .k0 x0 => ∃ g, r = some ((.brk 2), ⟨fr 74 g [(1, .sl 10 c 7 0 j)], (X6 u A k G D I E B C H J K L N M O P S T U [yT c x0, yT Z W, .cells 78 [.sl 10 V 7 0 ae], .cells 3 [i6 X], .row 28 4 aa (ra cBx ab), .cells 77 ((Za ad).map .p), .row 28 4 af (ra cBx ag), .cells 77 ((Za ah).map .p), .cells 77 ((Za ai).map .p), yT0])⟩)
abbrev VJ (x : Tqq) (x4 : Nat) (x3 : ThingD) : List AB := (X6 u A k G D I E B C H J K L N M O P S T U [yT c (x.set x4 (⟨x3.kind, x3.text, x3.n, x3.kids, x3.depth, x3.way, x3.at_⟩ : ThingD)), yT Z W, .cells 78 [.sl 10 V 7 0 ae], .cells 3 [i6 X], .row 28 4 aa (ra cBx ab), .cells 77 ((Za ad).map .p), .row 28 4 af (ra cBx ag), .cells 77 ((Za ah).map .p), .cells 77 ((Za ai).map .p), yT0])
abbrev Rg (x : Tqq) (x4 : Nat) (x3 : ThingD) (x2 : Nat) (x5 : ThingD) : List AB := (X6 u A k G D I E B C H J K L N M O P S T U [yT c ((x.set x4 (⟨x3.kind, x3.text, x3.n, x3.kids, x3.depth, x3.way, x3.at_⟩ : ThingD)).set x2 (⟨x5.kind, x5.text, x5.n, x5.kids, x5.depth, x5.way, x5.at_⟩ : ThingD)), yT Z W, .cells 78 [.sl 10 V 7 0 ae], .cells 3 [i6 X], .row 28 4 aa (ra cBx ab), .cells 77 ((Za ad).map .p), .row 28 4 af (ra cBx ag), .cells 77 ((Za ah).map .p), .cells 77 ((Za ai).map .p), yT0])
abbrev VK (x : Tqq) : List AB := (X6 u A k G D I E B C H J K L N M O P S T U [yT c x, yT Z W, .cells 78 [.sl 10 V 7 0 ae], .cells 3 [i6 X], .row 28 4 aa (ra cBx ab), .cells 77 ((Za ad).map .p), .row 28 4 af (ra cBx ag), .cells 77 ((Za ah).map .p), .cells 77 ((Za ai).map .p), yT0])
theorem MZ (w F : Int) (x : Tqq) {r : E_L37_0_13 ⊕ (Int × Int × Tqq)} (h : W4 j w F x = some r) : OkR (fun e => UU c j u A k G D I E B C H J K L N M O P S T U Z W V ae X aa ab ad af ag ah ai e (Y5 c j u A k G D I E B C H J K L N M O P S T U Z W V ae X aa ab ad af ag ah ai w F x)) (fun s => Y5 c j u A k G D I E B C H J K L N M O P S T U Z W V ae X aa ab ad af ag ah ai w F x = Y5 c j u A k G D I E B C H J K L N M O P S T U Z W V ae X aa ab ad af ag ah ai s.1 s.2.1 s.2.2) r := by
 unfold W4 at h
 apply bi h <;> intro h1 h
 ·
  apply bn h; intro x2 h2 h
  have q0 := ((ZP h2) : idxA 7 (.sl 10 c 7 0 j) (i6 F) = some (.rp 10 c 7 x2 0))
  apply bn h; intro x3 h3 h
  apply bn h; intro x4 h4 h
  have q1 := ((ZP h4) : idxA 7 (.sl 10 c 7 0 j) (i6 w) = some (.rp 10 c 7 x4 0))
  apply bn h; intro x5 h5 h
  apply bn h; intro x6 h6 h
  rw [← sj h]
  exact rn [(54, .d true), (65, .v (.rp 10 c 7 x2 0)), (66, .v (.agg ((Za x3).map .p))), (69, .v (.rp 10 c 7 x4 0)), (70, .v (.agg ((Za x5).map .p))), (71, .v (.rp 10 c 7 x4 0)), (1071, .r ud (VJ c u A k G D I E B C H J K L N M O P S T U Z W V ae X aa ab ad af ag ah ai x x4 x3)), (72, .v (.rp 10 c 7 x2 0)), (1072, .r ud (Rg c u A k G D I E B C H J K L N M O P S T U Z W V ae X aa ab ad af ag ah ai x x4 x3 x2 x5)), (6000, .d true)] (av h1 (apc q0 (apc ((Z6 rfl h3 rfl) : ldA (VK c u A k G D I E B C H J K L N M O P S T U Z W V ae X aa ab ad af ag ah ai x) .true 7 (.rp 10 c 7 x2 0) = some (.agg ((Za x3).map .p))) (apc q1 (apc ((Z6 rfl h5 rfl) : ldA (VK c u A k G D I E B C H J K L N M O P S T U Z W V ae X aa ab ad af ag ah ai x) .true 7 (.rp 10 c 7 x4 0) = some (.agg ((Za x5).map .p))) (apc q1 (apc (⟨ZZ (v' := (⟨x3.kind, x3.text, x3.n, x3.kids, x3.depth, x3.way, x3.at_⟩ : ThingD)) rfl h5 rfl rfl (Nat.le_of_ble_eq_true rfl) rfl, rfl⟩ : stA (VK c u A k G D I E B C H J K L N M O P S T U Z W V ae X aa ab ad af ag ah ai x) 7 (.rp 10 c 7 x4 0) (.agg ((Za x3).map .p)) = some (VJ c u A k G D I E B C H J K L N M O P S T U Z W V ae X aa ab ad af ag ah ai x x4 x3) ∧ ud = ud) (apc q0 (apc (⟨ZZ (v' := (⟨x5.kind, x5.text, x5.n, x5.kids, x5.depth, x5.way, x5.at_⟩ : ThingD)) rfl h6 rfl rfl (Nat.le_of_ble_eq_true rfl) rfl, rfl⟩ : stA (VJ c u A k G D I E B C H J K L N M O P S T U Z W V ae X aa ab ad af ag ah ai x x4 x3) 7 (.rp 10 c 7 x2 0) (.agg ((Za x5).map .p)) = some (Rg c u A k G D I E B C H J K L N M O P S T U Z W V ae X aa ab ad af ag ah ai x x4 x3 x2 x5) ∧ ud = ud) (apc (QG c j u A k G D I E B C H J K L N M O P S T U Z W V ae X aa ab ad af ag ah ai (w6 (w + 1)) (w6 (F - 1)) ((x.set x4 (⟨x3.kind, x3.text, x3.n, x3.kids, x3.depth, x3.way, x3.at_⟩ : ThingD)).set x2 (⟨x5.kind, x5.text, x5.n, x5.kids, x5.depth, x5.way, x5.at_⟩ : ThingD))) apn))))))))))
 ·
  rw [← sj h]
  exact xb [(54, .d false), (6000, .d true)] (av h1 apn)
theorem Nu (s0 : Int × Int × Tqq) (e : E_L37_0_13) (h : runL (fun s => W4 j s.1 s.2.1 s.2.2) s0 = some e) : UU c j u A k G D I E B C H J K L N M O P S T U Z W V ae X aa ab ad af ag ah ai e (Y5 c j u A k G D I E B C H J K L N M O P S T U Z W V ae X aa ab ad af ag ah ai s0.1 s0.2.1 s0.2.2) := by
  have q := @Zg (Int × Int × Tqq) E_L37_0_13 (fun s => W4 j s.1 s.2.1 s.2.2) (fun s => Y5 c j u A k G D I E B C H J K L N M O P S T U Z W V ae X aa ab ad af ag ah ai s.1 s.2.1 s.2.2) (UU c j u A k G D I E B C H J K L N M O P S T U Z W V ae X aa ab ad af ag ah ai) (fun s r h => MZ c j u A k G D I E B C H J K L N M O P S T U Z W V ae X aa ab ad af ag ah ai s.1 s.2.1 s.2.2 h) s0 e h
  exact q
end
inductive R_F37_13 where
  | k0 (x0 x1 : Nat) (x2 : Tqq)
def Fm (c j : Nat) (i : ThingD) (o u : Int) (A : BoxD) (k : Nat) (G : Tqq) (D : Bool) (I E B : Nat) (C : Oqq) (H : Iqq) (J K : Int) (L : Bool) (N : Iqq) (M : Nat) (O : Bqq) (P S T : ThingD) (U : Nat) (Y Z : Tqq) (W : Nat) (V : Tqq) (ae : Nat) (X : Int) (aa : Nat) (ab : Bqq) (ad : ThingD) (af : Nat) (ag : Bqq) (ah : ThingD) (r : R_F37_13) : AV := match r with | .k0 x0 x1 x2 => (.sl 10 x0 7 0 x1)
def Fn (c j : Nat) (i : ThingD) (o u : Int) (A : BoxD) (k : Nat) (G : Tqq) (D : Bool) (I E B : Nat) (C : Oqq) (H : Iqq) (J K : Int) (L : Bool) (N : Iqq) (M : Nat) (O : Bqq) (P S T : ThingD) (U : Nat) (Y Z : Tqq) (W : Nat) (V : Tqq) (ae : Nat) (X : Int) (aa : Nat) (ab : Bqq) (ad : ThingD) (af : Nat) (ag : Bqq) (ah : ThingD) (r : R_F37_13) : List AB := match r with | .k0 x0 x1 x2 => [.cells 28 ((cBx A).map .p), yT k G, .cells 83 [sp D 2 0, .sl 3 I 1 0 E, .sl 1 k 7 0 B, ls 1 Zc C, ls 1 eI64 H, i6 J, i6 K, vb L], yU I N, .row 28 4 M (ra cBx O), .cells 77 ((Za P).map .p), .cells 73 [.ptr 2 0], .cells 77 ((Za S).map .p), .cells 77 ((Za T).map .p), yT U Y, yT x0 x2, yT W V, .cells 78 [.sl 10 c 7 0 ae], .cells 3 [i6 X], .row 28 4 aa (ra cBx ab), .cells 77 ((Za ad).map .p), .row 28 4 af (ra cBx ag), .cells 77 ((Za ah).map .p), .cells 77 ((Za i).map .p), yT0]
def Rh (c j : Nat) (i : ThingD) (o u : Int) (H : Iqq) (Z : Tqq) : Option R_F37_13 :=
  ((runL (fun s => W3 o u i (i.kids.length : Int) H s.1 s.2.1 s.2.2.1 s.2.2.2.1 s.2.2.2.2) (c, j, (IntKind.wrap .i64 (i.at_ + 1)), 0, Z)).bind fun r1 => match r1 with | .k0 ak aj an => ((runL (fun s => W4 aj s.1 s.2.1 s.2.2) (((j : Nat) : Int), (IntKind.wrap .i64 (((aj : Nat) : Int) - 1)), an)).bind fun r2 => match r2 with | .k0 ao => (some (.k0 ak aj ao))))
abbrev Nv (g1 : Nat → AV) (ak aj j : Nat) (i : ThingD) (A : BoxD) (k : Nat) (G : Tqq) (D : Bool) (I E B : Nat) (C : Oqq) (H : Iqq) (J K : Int) (L : Bool) (N : Iqq) (M : Nat) (O : Bqq) (P S T : ThingD) (U : Nat) (Y an : Tqq) (W : Nat) (V : Tqq) (c ae : Nat) (X : Int) (aa : Nat) (ab : Bqq) (ad : ThingD) (af : Nat) (ag : Bqq) (ah : ThingD) : St := ⟨fr 74 g1 [(1, .sl 10 ak 7 0 aj), (12, (i6 ((j : Nat) : Int))), (24, (.p (.lst 4 (Zb i.kids))))], [.cells 28 ((cBx A).map .p), yT k G, .cells 83 [sp D 2 0, .sl 3 I 1 0 E, .sl 1 k 7 0 B, ls 1 Zc C, ls 1 eI64 H, i6 J, i6 K, vb L], yU I N, .row 28 4 M (ra cBx O), .cells 77 ((Za P).map .p), .cells 73 [.ptr 2 0], .cells 77 ((Za S).map .p), .cells 77 ((Za T).map .p), yT U Y, yT ak an, yT W V, .cells 78 [.sl 10 c 7 0 ae], .cells 3 [i6 X], .row 28 4 aa (ra cBx ab), .cells 77 ((Za ad).map .p), .row 28 4 af (ra cBx ag), .cells 77 ((Za ah).map .p), .cells 77 ((Za i).map .p), yT0]⟩
abbrev Nw (g2 : Nat → AV) (ak aj : Nat) (A : BoxD) (k : Nat) (G : Tqq) (D : Bool) (I E B : Nat) (C : Oqq) (H : Iqq) (J K : Int) (L : Bool) (N : Iqq) (M : Nat) (O : Bqq) (P S T : ThingD) (U : Nat) (Y ao : Tqq) (W : Nat) (V : Tqq) (c ae : Nat) (X : Int) (aa : Nat) (ab : Bqq) (ad : ThingD) (af : Nat) (ag : Bqq) (ah i : ThingD) : St := ⟨fr 74 g2 [(1, .sl 10 ak 7 0 aj)], [.cells 28 ((cBx A).map .p), yT k G, .cells 83 [sp D 2 0, .sl 3 I 1 0 E, .sl 1 k 7 0 B, ls 1 Zc C, ls 1 eI64 H, i6 J, i6 K, vb L], yU I N, .row 28 4 M (ra cBx O), .cells 77 ((Za P).map .p), .cells 73 [.ptr 2 0], .cells 77 ((Za S).map .p), .cells 77 ((Za T).map .p), yT U Y, yT ak ao, yT W V, .cells 78 [.sl 10 c 7 0 ae], .cells 3 [i6 X], .row 28 4 aa (ra cBx ab), .cells 77 ((Za ad).map .p), .row 28 4 af (ra cBx ag), .cells 77 ((Za ah).map .p), .cells 77 ((Za i).map .p), yT0]⟩
theorem Nx (c j : Nat) (i : ThingD) (o u : Int) (A : BoxD) (k : Nat) (G : Tqq) (D : Bool) (I E B : Nat) (C : Oqq) (H : Iqq) (J K : Int) (L : Bool) (N : Iqq) (M : Nat) (O : Bqq) (P S T : ThingD) (U : Nat) (Y Z : Tqq) (W : Nat) (V : Tqq) (ae : Nat) (X : Int) (aa : Nat) (ab : Bqq) (ad : ThingD) (af : Nat) (ag : Bqq) (ah : ThingD) {r : R_F37_13} (h : Rh c j i o u H Z = some r) : CS prg 55 [.ptr 2 0, .sl 10 c 7 0 j, (.agg ((Za i).map .p)), i6 o, i6 u] [.cells 28 ((cBx A).map .p), yT k G, .cells 83 [sp D 2 0, .sl 3 I 1 0 E, .sl 1 k 7 0 B, ls 1 Zc C, ls 1 eI64 H, i6 J, i6 K, vb L], yU I N, .row 28 4 M (ra cBx O), .cells 77 ((Za P).map .p), .cells 73 [.ptr 2 0], .cells 77 ((Za S).map .p), .cells 77 ((Za T).map .p), yT U Y, yT c Z, yT W V, .cells 78 [.sl 10 c 7 0 ae], .cells 3 [i6 X], .row 28 4 aa (ra cBx ab), .cells 77 ((Za ad).map .p), .row 28 4 af (ra cBx ag), .cells 77 ((Za ah).map .p)] = some (Fm c j i o u A k G D I E B C H J K L N M O P S T U Y Z W V ae X aa ab ad af ag ah r, Fn c j i o u A k G D I E B C H J K L N M O P S T U Y Z W V ae X aa ab ad af ag ah r) := by
 unfold Rh at h
 apply bn h; intro r1 h1 h
 cases r1 with
 | k0 ak aj an =>
  obtain ⟨g1, e1⟩ := Nt c o u ((j : Nat) : Int) i (i.kids.length : Int) A k G D I E B C H J K L N M O P S T U Y W V ae X aa ab ad af ag ah (c, j, (w6 (i.at_ + 1)), 0, Z) _ h1
  apply bn h; intro r2 h2 h
  cases r2 with
  | k0 ao =>
   obtain ⟨g2, e2⟩ := Nu ak aj A k G D I E B C H J K L N M O P S T U Y W V c ae X aa ab ad af ag ah i (((j : Nat) : Int), (w6 (((aj : Nat) : Int) - 1)), an) _ h2
   rw [← sj h]
   exact fc [(25, .v (i6 (i.kids.length : Int))), (2000, .l (.brk 0) (Nv g1 ak aj j i A k G D I E B C H J K L N M O P S T U Y an W V c ae X aa ab ad af ag ah)), (2002, .l (.brk 2) (Nw g2 ak aj A k G D I E B C H J K L N M O P S T U Y ao W V c ae X aa ab ad af ag ah i)), (6000, .d true)] (apc ((lgr ZF) : lnA (.p (.lst 4 (Zb i.kids))) = some (i6 (i.kids.length : Int))) (apc (US c o u ((j : Nat) : Int) i (i.kids.length : Int) A k G D I E B C H J K L N M O P S T U Y W V ae X aa ab ad af ag ah c j (w6 (i.at_ + 1)) 0 Z) (apc (e1 : Y4 c o u ((j : Nat) : Int) i (i.kids.length : Int) A k G D I E B C H J K L N M O P S T U Y W V ae X aa ab ad af ag ah c j (w6 (i.at_ + 1)) 0 Z = some ((.brk 0), Nv g1 ak aj j i A k G D I E B C H J K L N M O P S T U Y an W V c ae X aa ab ad af ag ah)) (apc (QG ak aj A k G D I E B C H J K L N M O P S T U Y W V c ae X aa ab ad af ag ah i ((j : Nat) : Int) (w6 (((aj : Nat) : Int) - 1)) an) (apc (e2 : Y5 ak aj A k G D I E B C H J K L N M O P S T U Y W V c ae X aa ab ad af ag ah i ((j : Nat) : Int) (w6 (((aj : Nat) : Int) - 1)) an = some ((.brk 2), Nw g2 ak aj A k G D I E B C H J K L N M O P S T U Y ao W V c ae X aa ab ad af ag ah i)) apn)))))
inductive E_L36_0_3 where
  | k0 (x0 : Int) (x1 : Tqq) (x2 : Nat) (x3 : Tqq) (x4 : Nat) (x5 x6 : Int) (x7 : ByteArray) (x8 : Int) (x9 : Bqq) (x10 x11 x12 : Int)
  | k1 (x0 : Int) (x1 : Tqq) (x2 : Nat) (x3 : Tqq) (x4 : Nat) (x5 : Int)
  | k2 (x0 : Int) (x1 : Tqq) (x2 : Nat) (x3 : Tqq) (x4 : Nat) (x5 x6 : Int) (x7 : ByteArray) (x8 : Int) (x9 : Bqq) (x10 x11 x12 : Int)
  | k3 (x0 : Int) (x1 : Tqq) (x2 : Nat) (x3 : Tqq) (x4 : Nat) (x5 : Int)
section
variable (c : Int) (j : BoxD) (i : Nat) (o : Tqq) (u : Bool) (A k G : Nat) (D : Oqq) (I : Iqq) (E : Int) (B : Bool) (C : Iqq) (H : Bqq) (J : ThingD)
abbrev ZQ (l : List AB) : List AB := .cells 28 ((cBx j).map .p) :: yT i o :: .cells 83 [sp u 2 0, .sl 3 A 1 0 k, .sl 1 i 7 0 G, ls 1 Zc D, ls 1 eI64 I, i6 E, i6 c, vb B] :: yU A C :: .row 28 4 0 (ra cBx H) :: .cells 77 ((Za J).map .p) :: .cells 73 [.ptr 2 0] :: .cells 77 ((Za J).map .p) :: .cells 77 ((Za J).map .p) :: l
def VL (w : Int) (F : Tqq) (x : Nat) (R : Tqq) (Q : Nat) (v6 : Int) : Option (E_L36_0_3 ⊕ (Int × Tqq × Nat × Tqq × Nat × Int)) :=
  (bif (decide (w ≤ E)) then ((Nm o G R Q v6).bind fun r2 => match r2 with | .k0 ao ax az aB aC aA aF => (bif (ao == 0) then ((F47 ax).bind fun r4 => match r4 with | .k0 aO bg aY => (bif aY then (some (.inl (.k0 (IntKind.wrap .i64 (w + (aO.size : Int))) F x R (Int.toNat (IntKind.wrap .i64 (((Q : Nat) : Int) - 1))) v6 ao ax az aB aC aA aF))) else (some (.inr ((IntKind.wrap .i64 (w + (aO.size : Int))), F, x, R, (Int.toNat (IntKind.wrap .i64 (((Q : Nat) : Int) - 1))), v6))))) else (bif (ao == 1) then (bif (aA == 0) then (some (.inl (.k0 w F x R (Int.toNat (IntKind.wrap .i64 (((Q : Nat) : Int) - 1))) v6 ao ax az aB aC aA aF))) else (some (.inr ((IntKind.wrap .i64 (w + az)), F, x, R, (Int.toNat (IntKind.wrap .i64 (((Q : Nat) : Int) - 1))), v6)))) else (bif (ao == 2) then (some (.inl (.k0 w F x R (Int.toNat (IntKind.wrap .i64 (((Q : Nat) : Int) - 1))) v6 ao ax az aB aC aA aF))) else (bif (ao == 4) then ((Rc x (Int.toNat (IntKind.wrap .i64 (((Q : Nat) : Int) - 1))) (⟨ao, ax, az, aB, aC, aA, aF⟩ : ThingD) 0 1 I R).bind fun r7 => match r7 with | .k0 bf bh bj => (some (.inr (w, F, bf, bj, bh, v6)))) else ((Rc x (Int.toNat (IntKind.wrap .i64 (((Q : Nat) : Int) - 1))) (⟨ao, ax, az, aB, aC, aA, aF⟩ : ThingD) 0 aA I R).bind fun r7 => match r7 with | .k0 bf bh bj => (some (.inr (w, F, bf, bj, bh, v6)))))))) | .k1 => (some (.inl (.k1 w F x R Q v6))) | .k2 ao ax az aB aC aA aF => (bif (ao == 0) then ((F47 ax).bind fun r4 => match r4 with | .k0 aO bg aY => (bif aY then (some (.inl (.k2 (IntKind.wrap .i64 (w + (aO.size : Int))) F x R Q (IntKind.wrap .i64 (v6 - 1)) ao ax az aB aC aA aF))) else (some (.inr ((IntKind.wrap .i64 (w + (aO.size : Int))), F, x, R, Q, (IntKind.wrap .i64 (v6 - 1))))))) else (bif (ao == 1) then (bif (aA == 0) then (some (.inl (.k2 w F x R Q (IntKind.wrap .i64 (v6 - 1)) ao ax az aB aC aA aF))) else (some (.inr ((IntKind.wrap .i64 (w + az)), F, x, R, Q, (IntKind.wrap .i64 (v6 - 1)))))) else (bif (ao == 2) then (some (.inl (.k2 w F x R Q (IntKind.wrap .i64 (v6 - 1)) ao ax az aB aC aA aF))) else (bif (ao == 4) then ((Rh x Q (⟨ao, ax, az, aB, aC, aA, aF⟩ : ThingD) 0 1 I R).bind fun r7 => match r7 with | .k0 bf bh bj => (some (.inr (w, F, bf, bj, bh, (IntKind.wrap .i64 (v6 - 1)))))) else ((Rh x Q (⟨ao, ax, az, aB, aC, aA, aF⟩ : ThingD) 0 aA I R).bind fun r7 => match r7 with | .k0 bf bh bj => (some (.inr (w, F, bf, bj, bh, (IntKind.wrap .i64 (v6 - 1))))))))))) else (some (.inl (.k3 w F x R Q v6))))
def Ny (w : Int) (F : Tqq) (x : Nat) (R : Tqq) (Q : Nat) (v6 : Int) : St := ⟨fr 88 ug [(2, .ptr 6 0), (5, i6 w), (6, .ptr 12 0), (8, (.fn 67 [.ptr 12 0, .ptr 13 0, .ptr 6 0]))], (ZQ c j i o u A k G D I E B C H J [yT 0 F, yT x R, yT 0 F, .cells 78 [.sl 10 x 7 0 Q], .cells 3 [i6 v6]])⟩
theorem Yv (w : Int) (F : Tqq) (x : Nat) (R : Tqq) (Q : Nat) (v6 : Int) : okT 14 (Ny c j i o u A k G D I E B C H J w F x R Q v6).h = true := (ZE rfl (ac (ar (Zv (Z8 rfl (Ze rfl (Ze rfl (Ze rfl (Ze rfl (Ze rfl (Ze rfl (Ze rfl rfl)))))))) (ar (ar (ac (ac (ac (ac (ar (ar (ar (ac (ac rfl)))))))))))))))
abbrev Yw (w : Int) (F : Tqq) (x : Nat) (R : Tqq) (Q : Nat) (v6 : Int) := evH prg 14 [2, 5, 6, 8] Hf (Ny c j i o u A k G D I E B C H J w F x R Q v6)
def Ri (e : E_L36_0_3) (r : Option (Out × St)) : Prop := match e with | .k0 x0 x1 x2 x3 x4 x5 x6 x7 x8 x9 x10 x11 x12 => ∃ g, r = some ((.brk 0), ⟨fr 88 g [(2, .ptr 6 0), (5, i6 x0), (6, .ptr 12 0), (8, (.fn 67 [.ptr 12 0, .ptr 13 0, .ptr 6 0]))], (ZQ c j i o u A k G D I E B C H J [yT 0 x1, yT x2 x3, yT 0 x1, .cells 78 [.sl 10 x2 7 0 x4], .cells 3 [i6 x5], .row 28 4 0 (ra cBx []), .cells 77 [i6 x6, vs x7, i6 x8, (.p (.lst 4 (Zb x9))), i6 x10, i6 x11, i6 x12], .row 28 4 0 (ra cBx []), .cells 77 [i6 x6, vs x7, i6 x8, (.p (.lst 4 (Zb x9))), i6 x10, i6 x11, i6 x12], .row 28 4 0 (ra cBx []), .cells 77 [i6 x6, vs x7, i6 x8, (.p (.lst 4 (Zb x9))), i6 x10, i6 x11, i6 x12]])⟩) | .k1 x0 x1 x2 x3 x4 x5 => ∃ g, r = some ((.brk 0), ⟨fr 88 g [(2, .ptr 6 0), (5, i6 x0), (6, .ptr 12 0), (8, (.fn 67 [.ptr 12 0, .ptr 13 0, .ptr 6 0]))], (ZQ c j i o u A k G D I E B C H J [yT 0 x1, yT x2 x3, yT 0 x1, .cells 78 [.sl 10 x2 7 0 x4], .cells 3 [i6 x5], .row 28 4 0 (ra cBx []), .cells 77 [i6 0, (vs Eqq), i6 0, n0, i6 0, i6 0, i6 0], .row 28 4 0 (ra cBx []), .cells 77 [i6 0, (vs Eqq), i6 0, n0, i6 0, i6 0, i6 0]])⟩) | .k2 x0 x1 x2 x3 x4 x5 x6 x7 x8 x9 x10 x11 x12 => ∃ g, r = some ((.brk 0), ⟨fr 88 g [(2, .ptr 6 0), (5, i6 x0), (6, .ptr 12 0), (8, (.fn 67 [.ptr 12 0, .ptr 13 0, .ptr 6 0]))], (ZQ c j i o u A k G D I E B C H J [yT 0 x1, yT x2 x3, yT 0 x1, .cells 78 [.sl 10 x2 7 0 x4], .cells 3 [i6 x5], .row 28 4 0 (ra cBx []), .cells 77 [i6 x6, vs x7, i6 x8, (.p (.lst 4 (Zb x9))), i6 x10, i6 x11, i6 x12], .row 28 4 0 (ra cBx []), .cells 77 [i6 x6, vs x7, i6 x8, (.p (.lst 4 (Zb x9))), i6 x10, i6 x11, i6 x12]])⟩) | .k3 x0 x1 x2 x3 x4 x5 => ∃ g, r = some ((.brk 0), ⟨fr 88 g [(2, .ptr 6 0), (5, i6 x0), (6, .ptr 12 0), (8, (.fn 67 [.ptr 12 0, .ptr 13 0, .ptr 6 0]))], (ZQ c j i o u A k G D I E B C H J [yT 0 x1, yT x2 x3, yT 0 x1, .cells 78 [.sl 10 x2 7 0 x4], .cells 3 [i6 x5]])⟩)
abbrev UV (F : Tqq) (x : Nat) (R : Tqq) (Q : Nat) (v6 : Int) : List AB := (ZQ c j i o u A k G D I E B C H J [yT 0 F, yT x R, yT 0 F, .cells 78 [.sl 10 x 7 0 Q], .cells 3 [i6 v6]])
abbrev QH (F : Tqq) (x : Nat) (R : Tqq) (Q : Nat) (v6 ao : Int) (ax : ByteArray) (az : Int) (aB : Bqq) (aC aA aF : Int) : List AB := (ZQ c j i o u A k G D I E B C H J [yT 0 F, yT x R, yT 0 F, .cells 78 [(.sl 10 x 7 0 (Int.toNat (w6 (((Q : Nat) : Int) - 1))))], .cells 3 [i6 v6], .row 28 4 0 (ra cBx []), .cells 77 [i6 ao, vs ax, i6 az, (.p (.lst 4 (Zb aB))), i6 aC, i6 aA, i6 aF], .row 28 4 0 (ra cBx []), .cells 77 [i6 ao, vs ax, i6 az, (.p (.lst 4 (Zb aB))), i6 aC, i6 aA, i6 aF]])
abbrev UW (F : Tqq) (x : Nat) (R : Tqq) (Q : Nat) (v6 ao : Int) (ax : ByteArray) (az : Int) (aB : Bqq) (aC aA aF : Int) : List AB := (ZQ c j i o u A k G D I E B C H J [yT 0 F, yT x R, yT 0 F, .cells 78 [(.sl 10 x 7 0 (Int.toNat (w6 (((Q : Nat) : Int) - 1))))], .cells 3 [i6 v6], .row 28 4 0 (ra cBx []), .cells 77 [i6 ao, vs ax, i6 az, (.p (.lst 4 (Zb aB))), i6 aC, i6 aA, i6 aF], .row 28 4 0 (ra cBx []), .cells 77 [i6 ao, vs ax, i6 az, (.p (.lst 4 (Zb aB))), i6 aC, i6 aA, i6 aF], .row 28 4 0 (ra cBx []), .cells 77 [i6 ao, vs ax, i6 az, (.p (.lst 4 (Zb aB))), i6 aC, i6 aA, i6 aF]])
abbrev W5 (F : Tqq) (bf : Nat) (bj : Tqq) (x Q : Nat) (v6 ao : Int) (ax : ByteArray) (az : Int) (aB : Bqq) (aC aA aF : Int) : List AB := (ZQ c j i o u A k G D I E B C H J [yT 0 F, yT bf bj, yT 0 F, .cells 78 [(.sl 10 x 7 0 (Int.toNat (w6 (((Q : Nat) : Int) - 1))))], .cells 3 [i6 v6], .row 28 4 0 (ra cBx ([])), .cells 77 [i6 ao, vs ax, i6 az, (.p (.lst 4 (Zb aB))), i6 aC, i6 aA, i6 aF], .row 28 4 0 (ra cBx ([])), .cells 77 [i6 ao, vs ax, i6 az, (.p (.lst 4 (Zb aB))), i6 aC, i6 aA, i6 aF], .row 28 4 0 (ra cBx ([])), .cells 77 [i6 ao, vs ax, i6 az, (.p (.lst 4 (Zb aB))), i6 aC, i6 aA, i6 aF], .cells 77 [i6 ao, vs ax, i6 az, (.p (.lst 4 (Zb aB))), i6 aC, i6 aA, i6 aF], yT0])
abbrev QI (F : Tqq) (x : Nat) (R : Tqq) (Q : Nat) (v6 : Int) : List AB := (ZQ c j i o u A k G D I E B C H J [yT 0 F, yT x R, yT 0 F, .cells 78 [.sl 10 x 7 0 Q], .cells 3 [i6 v6], .row 28 4 0 (ra cBx []), .cells 77 [i6 0, (vs Eqq), i6 0, n0, i6 0, i6 0, i6 0]])
abbrev QJ (F : Tqq) (x : Nat) (R : Tqq) (Q : Nat) (v6 ao : Int) (ax : ByteArray) (az : Int) (aB : Bqq) (aC aA aF : Int) : List AB := (ZQ c j i o u A k G D I E B C H J [yT 0 F, yT x R, yT 0 F, .cells 78 [.sl 10 x 7 0 Q], .cells 3 [(i6 (w6 (v6 - 1)))], .row 28 4 0 (ra cBx []), .cells 77 [i6 ao, vs ax, i6 az, (.p (.lst 4 (Zb aB))), i6 aC, i6 aA, i6 aF]])
abbrev UX (F : Tqq) (x : Nat) (R : Tqq) (Q : Nat) (v6 ao : Int) (ax : ByteArray) (az : Int) (aB : Bqq) (aC aA aF : Int) : List AB := (ZQ c j i o u A k G D I E B C H J [yT 0 F, yT x R, yT 0 F, .cells 78 [.sl 10 x 7 0 Q], .cells 3 [(i6 (w6 (v6 - 1)))], .row 28 4 0 (ra cBx []), .cells 77 [i6 ao, vs ax, i6 az, (.p (.lst 4 (Zb aB))), i6 aC, i6 aA, i6 aF], .row 28 4 0 (ra cBx []), .cells 77 [i6 ao, vs ax, i6 az, (.p (.lst 4 (Zb aB))), i6 aC, i6 aA, i6 aF]])
abbrev W6 (F : Tqq) (bf : Nat) (bj : Tqq) (x Q : Nat) (v6 ao : Int) (ax : ByteArray) (az : Int) (aB : Bqq) (aC aA aF : Int) : List AB := (ZQ c j i o u A k G D I E B C H J [yT 0 F, yT bf bj, yT 0 F, .cells 78 [.sl 10 x 7 0 Q], .cells 3 [(i6 (w6 (v6 - 1)))], .row 28 4 0 (ra cBx ([])), .cells 77 [i6 ao, vs ax, i6 az, (.p (.lst 4 (Zb aB))), i6 aC, i6 aA, i6 aF], .row 28 4 0 (ra cBx ([])), .cells 77 [i6 ao, vs ax, i6 az, (.p (.lst 4 (Zb aB))), i6 aC, i6 aA, i6 aF], .cells 77 [i6 ao, vs ax, i6 az, (.p (.lst 4 (Zb aB))), i6 aC, i6 aA, i6 aF], yT0])
theorem JO (w : Int) (F : Tqq) (x : Nat) (R : Tqq) (Q : Nat) (v6 : Int) {r : E_L36_0_3 ⊕ (Int × Tqq × Nat × Tqq × Nat × Int)} (h : VL o G I E w F x R Q v6 = some r) : OkR (fun e => Ri c j i o u A k G D I E B C H J e (Yw c j i o u A k G D I E B C H J w F x R Q v6)) (fun s => Yw c j i o u A k G D I E B C H J w F x R Q v6 = Yw c j i o u A k G D I E B C H J s.1 s.2.1 s.2.2.1 s.2.2.2.1 s.2.2.2.2.1 s.2.2.2.2.2) r := by
 unfold VL at h
 apply bi h <;> intro h1 h
 ·
  apply bn h; intro r2 h2 h
  cases r2 with
  | k0 ao ax az aB aC aA aF =>
   have q0 := ((PW j i o u A k G D I E c B C H J F x R Q v6 h2) : CS prg 67 [.ptr 12 0, .ptr 13 0, .ptr 6 0] (UV c j i o u A k G D I E B C H J F x R Q v6) = some ((.tup [(.agg [i6 ao, vs ax, i6 az, (.p (.lst 4 (Zb aB))), i6 aC, i6 aA, i6 aF]), vb true]), QH c j i o u A k G D I E B C H J F x R Q v6 ao ax az aB aC aA aF))
   have k1 := ka [(32, .d true), (35, .r (.tup [(.agg [i6 ao, vs ax, i6 az, (.p (.lst 4 (Zb aB))), i6 aC, i6 aA, i6 aF]), vb true]) (QH c j i o u A k G D I E B C H J F x R Q v6 ao ax az aB aC aA aF))] (av h1 (apc q0 apn))
   apply bi h <;> intro h3 h
   ·
    apply bn h; intro r4 h4 h
    cases r4 with
    | k0 aO bg aY =>
     have q2 := (((El ax h4).cp rfl _) : CP prg 68 [vs ax, (vs (⟨([10] : List UInt8).toArray⟩ : ByteArray))] (UW c j i o u A k G D I E B C H J F x R Q v6 ao ax az aB aC aA aF) = some (.tup [vs aO, vs bg, vb aY]))
     have k3 := k1.a [(50, .d true), (55, .v (.tup [vs aO, vs bg, vb aY]))] (av h3 (apc q2 apn))
     apply bi h <;> intro h5 h
     ·
      rw [← sj h]
      exact xb ([(58, .d true), (6000, .d true)] ++ kH k3) (k3.b (av h5 apn))
     ·
      rw [← sj h]
      exact rn ([(58, .d false), (6000, .d true)] ++ kH k3) (k3.b (av h5 (apc (Yv c j i o u A k G D I E B C H J (w6 (w + (aO.size : Int))) F x R (Int.toNat (w6 (((Q : Nat) : Int) - 1))) v6) apn)))
   ·
    apply bi h <;> intro h4 h
    ·
     have k4 := k1.a [(50, .d false), (65, .d true)] (av h3 (av h4 apn))
     apply bi h <;> intro h5 h
     ·
      rw [← sj h]
      exact xb ([(68, .d true), (6000, .d true)] ++ kH k4) (k4.b (av h5 apn))
     ·
      rw [← sj h]
      exact rn ([(68, .d false), (6000, .d true)] ++ kH k4) (k4.b (av h5 (apc (Yv c j i o u A k G D I E B C H J (w6 (w + az)) F x R (Int.toNat (w6 (((Q : Nat) : Int) - 1))) v6) apn)))
    ·
     have k5 := k1.a [(50, .d false), (65, .d false)] (av h3 (av h4 apn))
     apply bi h <;> intro h5 h
     ·
      rw [← sj h]
      exact xb ([(75, .d true), (6000, .d true)] ++ kH k5) (k5.b (av h5 apn))
     ·
      apply bi h <;> intro h6 h
      ·
       apply bn h; intro r7 h7 h
       cases r7 with
       | k0 bf bh bj =>
        rw [← sj h]
        exact rn ([(75, .d false), (77, .d true), (81, .r (.sl 10 bf 7 0 bh) (W5 c j i o u A k G D I E B C H J F bf bj x Q v6 ao ax az aB aC aA aF)), (6000, .d true)] ++ kH k5) (k5.b (av h5 (av h6 (apc ((Ns x (Int.toNat (w6 (((Q : Nat) : Int) - 1))) (⟨ao, ax, az, aB, aC, aA, aF⟩ : ThingD) 0 1 j i o u A k G D I E c B C 0 H J J J 0 F R 0 F (Int.toNat (w6 (((Q : Nat) : Int) - 1))) v6 0 ([]) (⟨ao, ax, az, aB, aC, aA, aF⟩ : ThingD) 0 ([]) (⟨ao, ax, az, aB, aC, aA, aF⟩ : ThingD) 0 ([]) (⟨ao, ax, az, aB, aC, aA, aF⟩ : ThingD) h7) : CS prg 55 [.ptr 2 0, (.sl 10 x 7 0 (Int.toNat (w6 (((Q : Nat) : Int) - 1)))), (.agg [i6 ao, vs ax, i6 az, (.p (.lst 4 (Zb aB))), i6 aC, i6 aA, i6 aF]), i6 0, i6 1] (UW c j i o u A k G D I E B C H J F x R Q v6 ao ax az aB aC aA aF) = some ((.sl 10 bf 7 0 bh), W5 c j i o u A k G D I E B C H J F bf bj x Q v6 ao ax az aB aC aA aF)) (apc (Yv c j i o u A k G D I E B C H J w F bf bj bh v6) apn)))))
      ·
       apply bn h; intro r7 h7 h
       cases r7 with
       | k0 bf bh bj =>
        rw [← sj h]
        exact rn ([(75, .d false), (77, .d false), (48, .r (.sl 10 bf 7 0 bh) (W5 c j i o u A k G D I E B C H J F bf bj x Q v6 ao ax az aB aC aA aF)), (6000, .d true)] ++ kH k5) (k5.b (av h5 (av h6 (apc ((Ns x (Int.toNat (w6 (((Q : Nat) : Int) - 1))) (⟨ao, ax, az, aB, aC, aA, aF⟩ : ThingD) 0 aA j i o u A k G D I E c B C 0 H J J J 0 F R 0 F (Int.toNat (w6 (((Q : Nat) : Int) - 1))) v6 0 ([]) (⟨ao, ax, az, aB, aC, aA, aF⟩ : ThingD) 0 ([]) (⟨ao, ax, az, aB, aC, aA, aF⟩ : ThingD) 0 ([]) (⟨ao, ax, az, aB, aC, aA, aF⟩ : ThingD) h7) : CS prg 55 [.ptr 2 0, (.sl 10 x 7 0 (Int.toNat (w6 (((Q : Nat) : Int) - 1)))), (.agg [i6 ao, vs ax, i6 az, (.p (.lst 4 (Zb aB))), i6 aC, i6 aA, i6 aF]), i6 0, i6 aA] (UW c j i o u A k G D I E B C H J F x R Q v6 ao ax az aB aC aA aF) = some ((.sl 10 bf 7 0 bh), W5 c j i o u A k G D I E B C H J F bf bj x Q v6 ao ax az aB aC aA aF)) (apc (Yv c j i o u A k G D I E B C H J w F bf bj bh v6) apn)))))
  | k1 =>
   rw [← sj h]
   exact xb [(32, .d true), (35, .r (.tup [(.agg [i6 0, (vs Eqq), i6 0, n0, i6 0, i6 0, i6 0]), vb false]) (QI c j i o u A k G D I E B C H J F x R Q v6)), (6000, .d true)] (av h1 (apc ((PW j i o u A k G D I E c B C H J F x R Q v6 h2) : CS prg 67 [.ptr 12 0, .ptr 13 0, .ptr 6 0] (UV c j i o u A k G D I E B C H J F x R Q v6) = some ((.tup [(.agg [i6 0, (vs Eqq), i6 0, n0, i6 0, i6 0, i6 0]), vb false]), QI c j i o u A k G D I E B C H J F x R Q v6)) apn))
  | k2 ao ax az aB aC aA aF =>
   have q6 := ((PW j i o u A k G D I E c B C H J F x R Q v6 h2) : CS prg 67 [.ptr 12 0, .ptr 13 0, .ptr 6 0] (UV c j i o u A k G D I E B C H J F x R Q v6) = some ((.tup [(.agg [i6 ao, vs ax, i6 az, (.p (.lst 4 (Zb aB))), i6 aC, i6 aA, i6 aF]), vb true]), QJ c j i o u A k G D I E B C H J F x R Q v6 ao ax az aB aC aA aF))
   have k7 := ka [(32, .d true), (35, .r (.tup [(.agg [i6 ao, vs ax, i6 az, (.p (.lst 4 (Zb aB))), i6 aC, i6 aA, i6 aF]), vb true]) (QJ c j i o u A k G D I E B C H J F x R Q v6 ao ax az aB aC aA aF))] (av h1 (apc q6 apn))
   apply bi h <;> intro h3 h
   ·
    apply bn h; intro r4 h4 h
    cases r4 with
    | k0 aO bg aY =>
     have q8 := (((El ax h4).cp rfl _) : CP prg 68 [vs ax, (vs (⟨([10] : List UInt8).toArray⟩ : ByteArray))] (UX c j i o u A k G D I E B C H J F x R Q v6 ao ax az aB aC aA aF) = some (.tup [vs aO, vs bg, vb aY]))
     have k9 := k7.a [(50, .d true), (55, .v (.tup [vs aO, vs bg, vb aY]))] (av h3 (apc q8 apn))
     apply bi h <;> intro h5 h
     ·
      rw [← sj h]
      exact xb ([(58, .d true), (6000, .d true)] ++ kH k9) (k9.b (av h5 apn))
     ·
      rw [← sj h]
      exact rn ([(58, .d false), (6000, .d true)] ++ kH k9) (k9.b (av h5 (apc (Yv c j i o u A k G D I E B C H J (w6 (w + (aO.size : Int))) F x R Q (w6 (v6 - 1))) apn)))
   ·
    apply bi h <;> intro h4 h
    ·
     have k10 := k7.a [(50, .d false), (65, .d true)] (av h3 (av h4 apn))
     apply bi h <;> intro h5 h
     ·
      rw [← sj h]
      exact xb ([(68, .d true), (6000, .d true)] ++ kH k10) (k10.b (av h5 apn))
     ·
      rw [← sj h]
      exact rn ([(68, .d false), (6000, .d true)] ++ kH k10) (k10.b (av h5 (apc (Yv c j i o u A k G D I E B C H J (w6 (w + az)) F x R Q (w6 (v6 - 1))) apn)))
    ·
     have k11 := k7.a [(50, .d false), (65, .d false)] (av h3 (av h4 apn))
     apply bi h <;> intro h5 h
     ·
      rw [← sj h]
      exact xb ([(75, .d true), (6000, .d true)] ++ kH k11) (k11.b (av h5 apn))
     ·
      apply bi h <;> intro h6 h
      ·
       apply bn h; intro r7 h7 h
       cases r7 with
       | k0 bf bh bj =>
        rw [← sj h]
        exact rn ([(75, .d false), (77, .d true), (81, .r (.sl 10 bf 7 0 bh) (W6 c j i o u A k G D I E B C H J F bf bj x Q v6 ao ax az aB aC aA aF)), (6000, .d true)] ++ kH k11) (k11.b (av h5 (av h6 (apc ((Nx x Q (⟨ao, ax, az, aB, aC, aA, aF⟩ : ThingD) 0 1 j i o u A k G D I E c B C 0 H J J J 0 F R 0 F Q (w6 (v6 - 1)) 0 ([]) (⟨ao, ax, az, aB, aC, aA, aF⟩ : ThingD) 0 ([]) (⟨ao, ax, az, aB, aC, aA, aF⟩ : ThingD) h7) : CS prg 55 [.ptr 2 0, .sl 10 x 7 0 Q, (.agg [i6 ao, vs ax, i6 az, (.p (.lst 4 (Zb aB))), i6 aC, i6 aA, i6 aF]), i6 0, i6 1] (UX c j i o u A k G D I E B C H J F x R Q v6 ao ax az aB aC aA aF) = some ((.sl 10 bf 7 0 bh), W6 c j i o u A k G D I E B C H J F bf bj x Q v6 ao ax az aB aC aA aF)) (apc (Yv c j i o u A k G D I E B C H J w F bf bj bh (w6 (v6 - 1))) apn)))))
      ·
       apply bn h; intro r7 h7 h
       cases r7 with
       | k0 bf bh bj =>
        rw [← sj h]
        exact rn ([(75, .d false), (77, .d false), (48, .r (.sl 10 bf 7 0 bh) (W6 c j i o u A k G D I E B C H J F bf bj x Q v6 ao ax az aB aC aA aF)), (6000, .d true)] ++ kH k11) (k11.b (av h5 (av h6 (apc ((Nx x Q (⟨ao, ax, az, aB, aC, aA, aF⟩ : ThingD) 0 aA j i o u A k G D I E c B C 0 H J J J 0 F R 0 F Q (w6 (v6 - 1)) 0 ([]) (⟨ao, ax, az, aB, aC, aA, aF⟩ : ThingD) 0 ([]) (⟨ao, ax, az, aB, aC, aA, aF⟩ : ThingD) h7) : CS prg 55 [.ptr 2 0, .sl 10 x 7 0 Q, (.agg [i6 ao, vs ax, i6 az, (.p (.lst 4 (Zb aB))), i6 aC, i6 aA, i6 aF]), i6 0, i6 aA] (UX c j i o u A k G D I E B C H J F x R Q v6 ao ax az aB aC aA aF) = some ((.sl 10 bf 7 0 bh), W6 c j i o u A k G D I E B C H J F bf bj x Q v6 ao ax az aB aC aA aF)) (apc (Yv c j i o u A k G D I E B C H J w F bf bj bh (w6 (v6 - 1))) apn)))))
 ·
  rw [← sj h]
  exact xb [(32, .d false), (6000, .d true)] (av h1 apn)
theorem Wn (s0 : Int × Tqq × Nat × Tqq × Nat × Int) (e : E_L36_0_3) (h : runL (fun s => VL o G I E s.1 s.2.1 s.2.2.1 s.2.2.2.1 s.2.2.2.2.1 s.2.2.2.2.2) s0 = some e) : Ri c j i o u A k G D I E B C H J e (Yw c j i o u A k G D I E B C H J s0.1 s0.2.1 s0.2.2.1 s0.2.2.2.1 s0.2.2.2.2.1 s0.2.2.2.2.2) := by
  have q := @Zg (Int × Tqq × Nat × Tqq × Nat × Int) E_L36_0_3 (fun s => VL o G I E s.1 s.2.1 s.2.2.1 s.2.2.2.1 s.2.2.2.2.1 s.2.2.2.2.2) (fun s => Yw c j i o u A k G D I E B C H J s.1 s.2.1 s.2.2.1 s.2.2.2.1 s.2.2.2.2.1 s.2.2.2.2.2) (Ri c j i o u A k G D I E B C H J) (fun s r h => JO c j i o u A k G D I E B C H J s.1 s.2.1 s.2.2.1 s.2.2.2.1 s.2.2.2.2.1 s.2.2.2.2.2 h) s0 e h
  exact q
end
inductive E_L36_1_3 where
  | k0 (x0 : Bool) (x1 : Tqq) (x2 : Nat) (x3 : Tqq) (x4 : Nat) (x5 x6 : Int) (x7 : ByteArray) (x8 : Int) (x9 : Bqq) (x10 x11 x12 : Int)
  | k1 (x0 : Bool) (x1 : Tqq) (x2 : Nat) (x3 : Tqq) (x4 : Nat) (x5 : Int)
  | k2 (x0 : Bool) (x1 : Tqq) (x2 : Nat) (x3 : Tqq) (x4 : Nat) (x5 x6 : Int) (x7 : ByteArray) (x8 : Int) (x9 : Bqq) (x10 x11 x12 : Int)
  | k3 (x0 : Bool) (x1 : Tqq) (x2 : Nat) (x3 : Tqq) (x4 : Nat) (x5 : Int)
section
variable (c : Int) (j : BoxD) (i : Nat) (o : Tqq) (u : Bool) (A k G : Nat) (D : Oqq) (I : Iqq) (E : Int) (B : Bool) (C : Iqq) (H : Bqq) (J : ThingD) (K : Nat) (L : Tqq) (N : Nat) (M : Int)
abbrev Yx (l : List AB) : List AB := .cells 28 ((cBx j).map .p) :: yT i o :: .cells 83 [sp u 2 0, .sl 3 A 1 0 k, .sl 1 i 7 0 G, ls 1 Zc D, ls 1 eI64 I, i6 E, i6 c, vb B] :: yU A C :: .row 28 4 0 (ra cBx H) :: .cells 77 ((Za J).map .p) :: .cells 73 [.ptr 2 0] :: .cells 77 ((Za J).map .p) :: .cells 77 ((Za J).map .p) :: l
def VM : Option (E_L36_1_3 ⊕ (Unit)) :=
  ((runL (fun s => VL o G I E s.1 s.2.1 s.2.2.1 s.2.2.2.1 s.2.2.2.2.1 s.2.2.2.2.2) (c, [], K, L, N, M)).bind fun r1 => match r1 with | .k0 ak aj an aX ba bc bk bl br bN bO bP bQ => (some (.inl (.k0 (decide (ak ≤ E)) aj an aX ba bc bk bl br bN bO bP bQ))) | .k1 ak aj an aX ba bc => (some (.inl (.k1 (decide (ak ≤ E)) aj an aX ba bc))) | .k2 ak aj an aX ba bc bk bl br bN bO bP bQ => (some (.inl (.k2 (decide (ak ≤ E)) aj an aX ba bc bk bl br bN bO bP bQ))) | .k3 ak aj an aX ba bc => (some (.inl (.k3 (decide (ak ≤ E)) aj an aX ba bc))))
def Nz : St := ⟨fr 88 ug [(2, .ptr 6 0), (5, i6 c), (6, .ptr 12 0), (8, (.fn 67 [.ptr 12 0, .ptr 13 0, .ptr 6 0]))], (Yx c j i o u A k G D I E B C H J [yT0, yT K L, yT0, .cells 78 [.sl 10 K 7 0 N], .cells 3 [i6 M]])⟩
theorem HK : okT 14 (Nz c j i o u A k G D I E B C H J K L N M).h = true := (ZE rfl (ac (ar (Zv (Z8 rfl (Ze rfl (Ze rfl (Ze rfl (Ze rfl (Ze rfl (Ze rfl (Ze rfl rfl)))))))) (ar (ar (ac (ac (ac (ac (ar (ar (ar (ac (ac rfl)))))))))))))))
abbrev Yy := evH prg 14 [2, 5, 6, 8] Hg (Nz c j i o u A k G D I E B C H J K L N M)
def Rj (e : E_L36_1_3) (r : Option (Out × St)) : Prop := match e with | .k0 x0 x1 x2 x3 x4 x5 x6 x7 x8 x9 x10 x11 x12 => ∃ g, r = some (.ret, ⟨fr 88 g [(4, vb x0)], (Yx c j i o u A k G D I E B C H J [yT 0 x1, yT x2 x3, yT 0 x1, .cells 78 [.sl 10 x2 7 0 x4], .cells 3 [i6 x5], .row 28 4 0 (ra cBx []), .cells 77 [i6 x6, vs x7, i6 x8, (.p (.lst 4 (Zb x9))), i6 x10, i6 x11, i6 x12], .row 28 4 0 (ra cBx []), .cells 77 [i6 x6, vs x7, i6 x8, (.p (.lst 4 (Zb x9))), i6 x10, i6 x11, i6 x12], .row 28 4 0 (ra cBx []), .cells 77 [i6 x6, vs x7, i6 x8, (.p (.lst 4 (Zb x9))), i6 x10, i6 x11, i6 x12]])⟩) | .k1 x0 x1 x2 x3 x4 x5 => ∃ g, r = some (.ret, ⟨fr 88 g [(4, vb x0)], (Yx c j i o u A k G D I E B C H J [yT 0 x1, yT x2 x3, yT 0 x1, .cells 78 [.sl 10 x2 7 0 x4], .cells 3 [i6 x5], .row 28 4 0 (ra cBx []), .cells 77 [i6 0, (vs Eqq), i6 0, n0, i6 0, i6 0, i6 0], .row 28 4 0 (ra cBx []), .cells 77 [i6 0, (vs Eqq), i6 0, n0, i6 0, i6 0, i6 0]])⟩) | .k2 x0 x1 x2 x3 x4 x5 x6 x7 x8 x9 x10 x11 x12 => ∃ g, r = some (.ret, ⟨fr 88 g [(4, vb x0)], (Yx c j i o u A k G D I E B C H J [yT 0 x1, yT x2 x3, yT 0 x1, .cells 78 [.sl 10 x2 7 0 x4], .cells 3 [i6 x5], .row 28 4 0 (ra cBx []), .cells 77 [i6 x6, vs x7, i6 x8, (.p (.lst 4 (Zb x9))), i6 x10, i6 x11, i6 x12], .row 28 4 0 (ra cBx []), .cells 77 [i6 x6, vs x7, i6 x8, (.p (.lst 4 (Zb x9))), i6 x10, i6 x11, i6 x12]])⟩) | .k3 x0 x1 x2 x3 x4 x5 => ∃ g, r = some (.ret, ⟨fr 88 g [(4, vb x0)], (Yx c j i o u A k G D I E B C H J [yT 0 x1, yT x2 x3, yT 0 x1, .cells 78 [.sl 10 x2 7 0 x4], .cells 3 [i6 x5]])⟩)
abbrev QK (g1 : Nat → AV) (ak : Int) (aj : Tqq) (an : Nat) (aX : Tqq) (ba : Nat) (bc bk : Int) (bl : ByteArray) (br : Int) (bN : Bqq) (bO bP bQ : Int) : St := ⟨fr 88 g1 [(2, .ptr 6 0), (5, i6 ak), (6, .ptr 12 0), (8, (.fn 67 [.ptr 12 0, .ptr 13 0, .ptr 6 0]))], (Yx c j i o u A k G D I E B C H J [yT 0 aj, yT an aX, yT 0 aj, .cells 78 [.sl 10 an 7 0 ba], .cells 3 [i6 bc], .row 28 4 0 (ra cBx []), .cells 77 [i6 bk, vs bl, i6 br, (.p (.lst 4 (Zb bN))), i6 bO, i6 bP, i6 bQ], .row 28 4 0 (ra cBx []), .cells 77 [i6 bk, vs bl, i6 br, (.p (.lst 4 (Zb bN))), i6 bO, i6 bP, i6 bQ], .row 28 4 0 (ra cBx []), .cells 77 [i6 bk, vs bl, i6 br, (.p (.lst 4 (Zb bN))), i6 bO, i6 bP, i6 bQ]])⟩
abbrev QL (g1 : Nat → AV) (ak : Int) (aj : Tqq) (an : Nat) (aX : Tqq) (ba : Nat) (bc : Int) : St := ⟨fr 88 g1 [(2, .ptr 6 0), (5, i6 ak), (6, .ptr 12 0), (8, (.fn 67 [.ptr 12 0, .ptr 13 0, .ptr 6 0]))], (Yx c j i o u A k G D I E B C H J [yT 0 aj, yT an aX, yT 0 aj, .cells 78 [.sl 10 an 7 0 ba], .cells 3 [i6 bc], .row 28 4 0 (ra cBx []), .cells 77 [i6 0, (vs Eqq), i6 0, n0, i6 0, i6 0, i6 0], .row 28 4 0 (ra cBx []), .cells 77 [i6 0, (vs Eqq), i6 0, n0, i6 0, i6 0, i6 0]])⟩
abbrev QM (g1 : Nat → AV) (ak : Int) (aj : Tqq) (an : Nat) (aX : Tqq) (ba : Nat) (bc bk : Int) (bl : ByteArray) (br : Int) (bN : Bqq) (bO bP bQ : Int) : St := ⟨fr 88 g1 [(2, .ptr 6 0), (5, i6 ak), (6, .ptr 12 0), (8, (.fn 67 [.ptr 12 0, .ptr 13 0, .ptr 6 0]))], (Yx c j i o u A k G D I E B C H J [yT 0 aj, yT an aX, yT 0 aj, .cells 78 [.sl 10 an 7 0 ba], .cells 3 [i6 bc], .row 28 4 0 (ra cBx []), .cells 77 [i6 bk, vs bl, i6 br, (.p (.lst 4 (Zb bN))), i6 bO, i6 bP, i6 bQ], .row 28 4 0 (ra cBx []), .cells 77 [i6 bk, vs bl, i6 br, (.p (.lst 4 (Zb bN))), i6 bO, i6 bP, i6 bQ]])⟩
abbrev QN (g1 : Nat → AV) (ak : Int) (aj : Tqq) (an : Nat) (aX : Tqq) (ba : Nat) (bc : Int) : St := ⟨fr 88 g1 [(2, .ptr 6 0), (5, i6 ak), (6, .ptr 12 0), (8, (.fn 67 [.ptr 12 0, .ptr 13 0, .ptr 6 0]))], (Yx c j i o u A k G D I E B C H J [yT 0 aj, yT an aX, yT 0 aj, .cells 78 [.sl 10 an 7 0 ba], .cells 3 [i6 bc]])⟩
theorem JP {r : E_L36_1_3 ⊕ (Unit)} (h : VM c o G I E K L N M = some r) : OkR (fun e => Rj c j i o u A k G D I E B C H J e (Yy c j i o u A k G D I E B C H J K L N M)) (fun s => Yy c j i o u A k G D I E B C H J K L N M = Yy c j i o u A k G D I E B C H J K L N M) r := by
 unfold VM at h
 have q0 := (Yv c j i o u A k G D I E B C H J c ([]) K L N M)
 apply bn h; intro r1 h1 h
 cases r1 with
 | k0 ak aj an aX ba bc bk bl br bN bO bP bQ =>
  obtain ⟨g1, e1⟩ := Wn c j i o u A k G D I E B C H J (c, [], K, L, N, M) _ h1
  rw [← sj h]
  exact xr [(2000, .l (.brk 0) (QK c j i o u A k G D I E B C H J g1 ak aj an aX ba bc bk bl br bN bO bP bQ)), (6000, .d true)] (apc q0 (apc (e1 : Yw c j i o u A k G D I E B C H J c ([]) K L N M = some ((.brk 0), QK c j i o u A k G D I E B C H J g1 ak aj an aX ba bc bk bl br bN bO bP bQ)) apn))
 | k1 ak aj an aX ba bc =>
  obtain ⟨g1, e1⟩ := Wn c j i o u A k G D I E B C H J (c, [], K, L, N, M) _ h1
  rw [← sj h]
  exact xr [(2000, .l (.brk 0) (QL c j i o u A k G D I E B C H J g1 ak aj an aX ba bc)), (6000, .d true)] (apc q0 (apc (e1 : Yw c j i o u A k G D I E B C H J c ([]) K L N M = some ((.brk 0), QL c j i o u A k G D I E B C H J g1 ak aj an aX ba bc)) apn))
 | k2 ak aj an aX ba bc bk bl br bN bO bP bQ =>
  obtain ⟨g1, e1⟩ := Wn c j i o u A k G D I E B C H J (c, [], K, L, N, M) _ h1
  rw [← sj h]
  exact xr [(2000, .l (.brk 0) (QM c j i o u A k G D I E B C H J g1 ak aj an aX ba bc bk bl br bN bO bP bQ)), (6000, .d true)] (apc q0 (apc (e1 : Yw c j i o u A k G D I E B C H J c ([]) K L N M = some ((.brk 0), QM c j i o u A k G D I E B C H J g1 ak aj an aX ba bc bk bl br bN bO bP bQ)) apn))
 | k3 ak aj an aX ba bc =>
  obtain ⟨g1, e1⟩ := Wn c j i o u A k G D I E B C H J (c, [], K, L, N, M) _ h1
  rw [← sj h]
  exact xr [(2000, .l (.brk 0) (QN c j i o u A k G D I E B C H J g1 ak aj an aX ba bc)), (6000, .d true)] (apc q0 (apc (e1 : Yw c j i o u A k G D I E B C H J c ([]) K L N M = some ((.brk 0), QN c j i o u A k G D I E B C H J g1 ak aj an aX ba bc)) apn))
theorem Wo (s0 : Unit) (e : E_L36_1_3) (h : runL (fun s => VM c o G I E K L N M) s0 = some e) : Rj c j i o u A k G D I E B C H J e (Yy c j i o u A k G D I E B C H J K L N M) := by
  have q := @Zg (Unit) E_L36_1_3 (fun s => VM c o G I E K L N M) (fun s => Yy c j i o u A k G D I E B C H J K L N M) (Rj c j i o u A k G D I E B C H J) (fun s r h => JP c j i o u A k G D I E B C H J K L N M h) s0 e h
  exact q
end
inductive R_F36_3 where
  | k0 (x0 : Bool) (x1 : Tqq) (x2 : Nat) (x3 : Tqq) (x4 : Nat) (x5 x6 : Int) (x7 : ByteArray) (x8 : Int) (x9 : Bqq) (x10 x11 x12 : Int)
  | k1 (x0 : Bool) (x1 : Tqq) (x2 : Nat) (x3 : Tqq) (x4 : Nat) (x5 : Int)
  | k2 (x0 : Bool) (x1 : Tqq) (x2 : Nat) (x3 : Tqq) (x4 : Nat) (x5 x6 : Int) (x7 : ByteArray) (x8 : Int) (x9 : Bqq) (x10 x11 x12 : Int)
  | k3 (x0 : Bool) (x1 : Tqq) (x2 : Nat) (x3 : Tqq) (x4 : Nat) (x5 : Int)
def CA (c : ThingD) (j : BoxD) (i : Nat) (o : Tqq) (u : Bool) (A k G : Nat) (D : Oqq) (I : Iqq) (E B : Int) (C : Bool) (H : Iqq) (r : R_F36_3) : AV := match r with | .k0 x0 x1 x2 x3 x4 x5 x6 x7 x8 x9 x10 x11 x12 => (vb x0) | .k1 x0 x1 x2 x3 x4 x5 => (vb x0) | .k2 x0 x1 x2 x3 x4 x5 x6 x7 x8 x9 x10 x11 x12 => (vb x0) | .k3 x0 x1 x2 x3 x4 x5 => (vb x0)
def CC (c : ThingD) (j : BoxD) (i : Nat) (o : Tqq) (u : Bool) (A k G : Nat) (D : Oqq) (I : Iqq) (E B : Int) (C : Bool) (H : Iqq) (r : R_F36_3) : List AB := match r with | .k0 x0 x1 x2 x3 x4 x5 x6 x7 x8 x9 x10 x11 x12 => [.cells 28 ((cBx j).map .p), yT i o, .cells 83 [sp u 2 0, .sl 3 A 1 0 k, .sl 1 i 7 0 G, ls 1 Zc D, ls 1 eI64 I, i6 E, i6 B, vb C], yU A H, .row 28 4 0 (ra cBx ([])), .cells 77 ((Za c).map .p), .cells 73 [.ptr 2 0], .cells 77 ((Za c).map .p), .cells 77 ((Za c).map .p), yT 0 x1, yT x2 x3, yT 0 x1, .cells 78 [.sl 10 x2 7 0 x4], .cells 3 [i6 x5], .row 28 4 0 (ra cBx []), .cells 77 [i6 x6, vs x7, i6 x8, (.p (.lst 4 (Zb x9))), i6 x10, i6 x11, i6 x12], .row 28 4 0 (ra cBx []), .cells 77 [i6 x6, vs x7, i6 x8, (.p (.lst 4 (Zb x9))), i6 x10, i6 x11, i6 x12], .row 28 4 0 (ra cBx []), .cells 77 [i6 x6, vs x7, i6 x8, (.p (.lst 4 (Zb x9))), i6 x10, i6 x11, i6 x12]] | .k1 x0 x1 x2 x3 x4 x5 => [.cells 28 ((cBx j).map .p), yT i o, .cells 83 [sp u 2 0, .sl 3 A 1 0 k, .sl 1 i 7 0 G, ls 1 Zc D, ls 1 eI64 I, i6 E, i6 B, vb C], yU A H, .row 28 4 0 (ra cBx ([])), .cells 77 ((Za c).map .p), .cells 73 [.ptr 2 0], .cells 77 ((Za c).map .p), .cells 77 ((Za c).map .p), yT 0 x1, yT x2 x3, yT 0 x1, .cells 78 [.sl 10 x2 7 0 x4], .cells 3 [i6 x5], .row 28 4 0 (ra cBx []), .cells 77 [i6 0, (vs Eqq), i6 0, n0, i6 0, i6 0, i6 0], .row 28 4 0 (ra cBx []), .cells 77 [i6 0, (vs Eqq), i6 0, n0, i6 0, i6 0, i6 0]] | .k2 x0 x1 x2 x3 x4 x5 x6 x7 x8 x9 x10 x11 x12 => [.cells 28 ((cBx j).map .p), yT i o, .cells 83 [sp u 2 0, .sl 3 A 1 0 k, .sl 1 i 7 0 G, ls 1 Zc D, ls 1 eI64 I, i6 E, i6 B, vb C], yU A H, .row 28 4 0 (ra cBx ([])), .cells 77 ((Za c).map .p), .cells 73 [.ptr 2 0], .cells 77 ((Za c).map .p), .cells 77 ((Za c).map .p), yT 0 x1, yT x2 x3, yT 0 x1, .cells 78 [.sl 10 x2 7 0 x4], .cells 3 [i6 x5], .row 28 4 0 (ra cBx []), .cells 77 [i6 x6, vs x7, i6 x8, (.p (.lst 4 (Zb x9))), i6 x10, i6 x11, i6 x12], .row 28 4 0 (ra cBx []), .cells 77 [i6 x6, vs x7, i6 x8, (.p (.lst 4 (Zb x9))), i6 x10, i6 x11, i6 x12]] | .k3 x0 x1 x2 x3 x4 x5 => [.cells 28 ((cBx j).map .p), yT i o, .cells 83 [sp u 2 0, .sl 3 A 1 0 k, .sl 1 i 7 0 G, ls 1 Zc D, ls 1 eI64 I, i6 E, i6 B, vb C], yU A H, .row 28 4 0 (ra cBx ([])), .cells 77 ((Za c).map .p), .cells 73 [.ptr 2 0], .cells 77 ((Za c).map .p), .cells 77 ((Za c).map .p), yT 0 x1, yT x2 x3, yT 0 x1, .cells 78 [.sl 10 x2 7 0 x4], .cells 3 [i6 x5]]
def HL (c : ThingD) (o : Tqq) (G : Nat) (I : Iqq) (E B : Int) : Option R_F36_3 :=
  ((Nj c 0 1 I).bind fun r1 => match r1 with | .k0 ak aj an => ((runL (fun s => VM B o G I E ak an aj ((G : Nat) : Int)) ()).bind fun r2 => match r2 with | .k0 ao ax az aB aC aA aF bR bS bT bU bV bW => (some (.k0 ao ax az aB aC aA aF bR bS bT bU bV bW)) | .k1 ao ax az aB aC aA => (some (.k1 ao ax az aB aC aA)) | .k2 ao ax az aB aC aA aF bR bS bT bU bV bW => (some (.k2 ao ax az aB aC aA aF bR bS bT bU bV bW)) | .k3 ao ax az aB aC aA => (some (.k3 ao ax az aB aC aA))))
abbrev Ky (j : BoxD) (i : Nat) (o : Tqq) (u : Bool) (A k G : Nat) (D : Oqq) (I : Iqq) (E B : Int) (C : Bool) (H : Iqq) (c : ThingD) (ak : Nat) (an : Tqq) : List AB := [.cells 28 ((cBx j).map .p), yT i o, .cells 83 [sp u 2 0, .sl 3 A 1 0 k, .sl 1 i 7 0 G, ls 1 Zc D, ls 1 eI64 I, i6 E, i6 B, vb C], yU A H, .row 28 4 0 (ra cBx ([])), .cells 77 ((Za c).map .p), .cells 73 [.ptr 2 0], .cells 77 ((Za c).map .p), .cells 77 ((Za c).map .p), yT0, yT ak an]
abbrev Kz (g2 : Nat → AV) (ao : Bool) (j : BoxD) (i : Nat) (o : Tqq) (u : Bool) (A k G : Nat) (D : Oqq) (I : Iqq) (E B : Int) (C : Bool) (H : Iqq) (c : ThingD) (ax : Tqq) (az : Nat) (aB : Tqq) (aC : Nat) (aA aF : Int) (bR : ByteArray) (bS : Int) (bT : Bqq) (bU bV bW : Int) : St := ⟨fr 88 g2 [(4, vb ao)], [.cells 28 ((cBx j).map .p), yT i o, .cells 83 [sp u 2 0, .sl 3 A 1 0 k, .sl 1 i 7 0 G, ls 1 Zc D, ls 1 eI64 I, i6 E, i6 B, vb C], yU A H, .row 28 4 0 (ra cBx ([])), .cells 77 ((Za c).map .p), .cells 73 [.ptr 2 0], .cells 77 ((Za c).map .p), .cells 77 ((Za c).map .p), yT 0 ax, yT az aB, yT 0 ax, .cells 78 [.sl 10 az 7 0 aC], .cells 3 [i6 aA], .row 28 4 0 (ra cBx []), .cells 77 [i6 aF, vs bR, i6 bS, (.p (.lst 4 (Zb bT))), i6 bU, i6 bV, i6 bW], .row 28 4 0 (ra cBx []), .cells 77 [i6 aF, vs bR, i6 bS, (.p (.lst 4 (Zb bT))), i6 bU, i6 bV, i6 bW], .row 28 4 0 (ra cBx []), .cells 77 [i6 aF, vs bR, i6 bS, (.p (.lst 4 (Zb bT))), i6 bU, i6 bV, i6 bW]]⟩
abbrev KA (g2 : Nat → AV) (ao : Bool) (j : BoxD) (i : Nat) (o : Tqq) (u : Bool) (A k G : Nat) (D : Oqq) (I : Iqq) (E B : Int) (C : Bool) (H : Iqq) (c : ThingD) (ax : Tqq) (az : Nat) (aB : Tqq) (aC : Nat) (aA : Int) : St := ⟨fr 88 g2 [(4, vb ao)], [.cells 28 ((cBx j).map .p), yT i o, .cells 83 [sp u 2 0, .sl 3 A 1 0 k, .sl 1 i 7 0 G, ls 1 Zc D, ls 1 eI64 I, i6 E, i6 B, vb C], yU A H, .row 28 4 0 (ra cBx ([])), .cells 77 ((Za c).map .p), .cells 73 [.ptr 2 0], .cells 77 ((Za c).map .p), .cells 77 ((Za c).map .p), yT 0 ax, yT az aB, yT 0 ax, .cells 78 [.sl 10 az 7 0 aC], .cells 3 [i6 aA], .row 28 4 0 (ra cBx []), .cells 77 [i6 0, (vs Eqq), i6 0, n0, i6 0, i6 0, i6 0], .row 28 4 0 (ra cBx []), .cells 77 [i6 0, (vs Eqq), i6 0, n0, i6 0, i6 0, i6 0]]⟩
abbrev KB (g2 : Nat → AV) (ao : Bool) (j : BoxD) (i : Nat) (o : Tqq) (u : Bool) (A k G : Nat) (D : Oqq) (I : Iqq) (E B : Int) (C : Bool) (H : Iqq) (c : ThingD) (ax : Tqq) (az : Nat) (aB : Tqq) (aC : Nat) (aA aF : Int) (bR : ByteArray) (bS : Int) (bT : Bqq) (bU bV bW : Int) : St := ⟨fr 88 g2 [(4, vb ao)], [.cells 28 ((cBx j).map .p), yT i o, .cells 83 [sp u 2 0, .sl 3 A 1 0 k, .sl 1 i 7 0 G, ls 1 Zc D, ls 1 eI64 I, i6 E, i6 B, vb C], yU A H, .row 28 4 0 (ra cBx ([])), .cells 77 ((Za c).map .p), .cells 73 [.ptr 2 0], .cells 77 ((Za c).map .p), .cells 77 ((Za c).map .p), yT 0 ax, yT az aB, yT 0 ax, .cells 78 [.sl 10 az 7 0 aC], .cells 3 [i6 aA], .row 28 4 0 (ra cBx []), .cells 77 [i6 aF, vs bR, i6 bS, (.p (.lst 4 (Zb bT))), i6 bU, i6 bV, i6 bW], .row 28 4 0 (ra cBx []), .cells 77 [i6 aF, vs bR, i6 bS, (.p (.lst 4 (Zb bT))), i6 bU, i6 bV, i6 bW]]⟩
abbrev KC (g2 : Nat → AV) (ao : Bool) (j : BoxD) (i : Nat) (o : Tqq) (u : Bool) (A k G : Nat) (D : Oqq) (I : Iqq) (E B : Int) (C : Bool) (H : Iqq) (c : ThingD) (ax : Tqq) (az : Nat) (aB : Tqq) (aC : Nat) (aA : Int) : St := ⟨fr 88 g2 [(4, vb ao)], [.cells 28 ((cBx j).map .p), yT i o, .cells 83 [sp u 2 0, .sl 3 A 1 0 k, .sl 1 i 7 0 G, ls 1 Zc D, ls 1 eI64 I, i6 E, i6 B, vb C], yU A H, .row 28 4 0 (ra cBx ([])), .cells 77 ((Za c).map .p), .cells 73 [.ptr 2 0], .cells 77 ((Za c).map .p), .cells 77 ((Za c).map .p), yT 0 ax, yT az aB, yT 0 ax, .cells 78 [.sl 10 az 7 0 aC], .cells 3 [i6 aA]]⟩
theorem XD (c : ThingD) (j : BoxD) (i : Nat) (o : Tqq) (u : Bool) (A k G : Nat) (D : Oqq) (I : Iqq) (E B : Int) (C : Bool) (H : Iqq) {r : R_F36_3} (h : HL c o G I E B = some r) : CS prg 54 [.ptr 2 0, (.agg ((Za c).map .p))] [.cells 28 ((cBx j).map .p), yT i o, .cells 83 [sp u 2 0, .sl 3 A 1 0 k, .sl 1 i 7 0 G, ls 1 Zc D, ls 1 eI64 I, i6 E, i6 B, vb C], yU A H, .row 28 4 0 (ra cBx []), .cells 77 ((Za c).map .p)] = some (CA c j i o u A k G D I E B C H r, CC c j i o u A k G D I E B C H r) := by
 unfold HL at h
 apply bn h; intro r1 h1 h
 cases r1 with
 | k0 ak aj an =>
  have q0 := ((HI c 0 1 j i o u A k G D I E B C H 0 ([]) c c h1) : CS prg 55 [.ptr 2 0, n0, (.agg ((Za c).map .p)), i6 0, i6 1] [.cells 28 ((cBx j).map .p), yT i o, .cells 83 [sp u 2 0, .sl 3 A 1 0 k, .sl 1 i 7 0 G, ls 1 Zc D, ls 1 eI64 I, i6 E, i6 B, vb C], yU A H, .row 28 4 0 (ra cBx []), .cells 77 ((Za c).map .p), .cells 73 [.ptr 2 0], .cells 77 ((Za c).map .p)] = some ((.sl 10 ak 7 0 aj), Ky j i o u A k G D I E B C H c ak an))
  have q1 := (HK B j i o u A k G D I E C H ([]) c ak an aj ((G : Nat) : Int))
  have k2 := ka [(20, .r (.sl 10 ak 7 0 aj) (Ky j i o u A k G D I E B C H c ak an))] (apc q0 apn)
  apply bn h; intro r2 h2 h
  cases r2 with
  | k0 ao ax az aB aC aA aF bR bS bT bU bV bW =>
   obtain ⟨g2, e2⟩ := Wo B j i o u A k G D I E C H ([]) c ak an aj ((G : Nat) : Int) () _ h2
   rw [← sj h]
   exact fc ([(2002000, .l .ret (Kz g2 ao j i o u A k G D I E B C H c ax az aB aC aA aF bR bS bT bU bV bW)), (6000, .d true)] ++ kH k2) (k2.b (apc q1 (apc (e2 : Yy B j i o u A k G D I E C H ([]) c ak an aj ((G : Nat) : Int) = some (.ret, Kz g2 ao j i o u A k G D I E B C H c ax az aB aC aA aF bR bS bT bU bV bW)) apn)))
  | k1 ao ax az aB aC aA =>
   obtain ⟨g2, e2⟩ := Wo B j i o u A k G D I E C H ([]) c ak an aj ((G : Nat) : Int) () _ h2
   rw [← sj h]
   exact fc ([(2002000, .l .ret (KA g2 ao j i o u A k G D I E B C H c ax az aB aC aA)), (6000, .d true)] ++ kH k2) (k2.b (apc q1 (apc (e2 : Yy B j i o u A k G D I E C H ([]) c ak an aj ((G : Nat) : Int) = some (.ret, KA g2 ao j i o u A k G D I E B C H c ax az aB aC aA)) apn)))
  | k2 ao ax az aB aC aA aF bR bS bT bU bV bW =>
   obtain ⟨g2, e2⟩ := Wo B j i o u A k G D I E C H ([]) c ak an aj ((G : Nat) : Int) () _ h2
   rw [← sj h]
   exact fc ([(2002000, .l .ret (KB g2 ao j i o u A k G D I E B C H c ax az aB aC aA aF bR bS bT bU bV bW)), (6000, .d true)] ++ kH k2) (k2.b (apc q1 (apc (e2 : Yy B j i o u A k G D I E C H ([]) c ak an aj ((G : Nat) : Int) = some (.ret, KB g2 ao j i o u A k G D I E B C H c ax az aB aC aA aF bR bS bT bU bV bW)) apn)))
  | k3 ao ax az aB aC aA =>
   obtain ⟨g2, e2⟩ := Wo B j i o u A k G D I E C H ([]) c ak an aj ((G : Nat) : Int) () _ h2
   rw [← sj h]
   exact fc ([(2002000, .l .ret (KC g2 ao j i o u A k G D I E B C H c ax az aB aC aA)), (6000, .d true)] ++ kH k2) (k2.b (apc q1 (apc (e2 : Yy B j i o u A k G D I E C H ([]) c ak an aj ((G : Nat) : Int) = some (.ret, KC g2 ao j i o u A k G D I E B C H c ax az aB aC aA)) apn)))
inductive E_L37_1_14 where
  | k0 (x0 x1 : Nat) (x2 : Tqq)
section
variable (c : Nat) (i o A : Int) (k : ThingD) (G : Int) (D : BoxD) (E : Bool) (B C H : Nat) (J : Oqq) (K : Iqq) (L N : Int) (M : Bool) (O : Iqq) (P : Nat) (S : Bqq) (T U Y : ThingD) (Z : Nat) (W : Tqq) (V : Nat) (ae : Tqq) (X : Nat) (aa : Tqq) (ab : Nat) (ad : Int) (af : Nat) (ag : Bqq) (ah : ThingD) (ai : Nat) (al : Bqq) (am : ThingD) (ap : Nat) (au : Bqq) (aw : ThingD)
def W7 (w F : Nat) (x R : Int) (Q : Tqq) : Option (E_L37_1_14 ⊕ (Nat × Nat × Int × Int × Tqq)) :=
  (bif (decide (R < G)) then ((getI k.kids R).bind fun x2 => (bif (apOk F 1 Q.length 80) then (bif (decide (F + 1 ≤ Q.length)) then ((getI K x).bind fun x5 => (some (.inr (w, F + 1, (IntKind.wrap .i64 (x + x5)), (IntKind.wrap .i64 (R + 1)), (splice Q F [(⟨x2.kind, x2.text, x2.n, x2.kids, i, o, x⟩ : ThingD)]))))) else ((getI K x).bind fun x5 => (some (.inr ((w + 1), F + 1, (IntKind.wrap .i64 (x + x5)), (IntKind.wrap .i64 (R + 1)), (Q.take F ++ [(⟨x2.kind, x2.text, x2.n, x2.kids, i, o, x⟩ : ThingD)])))))) else none)) else (some (.inl (.k0 w F Q))))
def QO (w F : Nat) (x R : Int) (Q : Tqq) : St := ⟨fr 74 ug [(0, .ptr 2 0), (1, .sl 1 w 7 0 F), (3, i6 i), (4, i6 o), (11, i6 x), (12, i6 A), (24, (.p (.lst 4 (Zb k.kids)))), (25, i6 G), (26, i6 R)], [.cells 28 ((cBx D).map .p), yT w Q, .cells 83 [sp E 2 0, .sl 3 B 1 0 C, .sl 1 c 7 0 H, ls 1 Zc J, ls 1 eI64 K, i6 L, i6 N, vb M], yU B O, .row 28 4 P (ra cBx S), .cells 77 ((Za T).map .p), .cells 73 [.ptr 2 0], .cells 77 ((Za U).map .p), .cells 77 ((Za Y).map .p), yT Z W, yT V ae, yT X aa, .cells 78 [.sl 10 V 7 0 ab], .cells 3 [i6 ad], .row 28 4 af (ra cBx ag), .cells 77 ((Za ah).map .p), .row 28 4 ai (ra cBx al), .cells 77 ((Za am).map .p), .row 28 4 ap (ra cBx au), .cells 77 ((Za aw).map .p), .cells 77 ((Za k).map .p), yT0]⟩
theorem UY (w F : Nat) (x R : Int) (Q : Tqq) : okT 22 (QO c i o A k G D E B C H J K L N M O P S T U Y Z W V ae X aa ab ad af ag ah ai al am ap au aw w F x R Q).h = true := (ZE rfl (ac (ar (Zv (Z8 rfl (Ze rfl (Ze rfl (Ze rfl (Ze rfl (Ze rfl (Ze rfl (Ze rfl rfl)))))))) (ar (ar (ac (ac (ac (ac (ar (ar (ar (ac (ac (ar (ac (ar (ac (ar (ac (ac (ar rfl)))))))))))))))))))))))
abbrev Y6 (w F : Nat) (x R : Int) (Q : Tqq) := evH prg 22 [0, 1, 3, 4, 11, 12, 24, 25, 26, 1000199007707] XL (QO c i o A k G D E B C H J K L N M O P S T U Y Z W V ae X aa ab ad af ag ah ai al am ap au aw w F x R Q)
def UZ (e : E_L37_1_14) (r : Option (Out × St)) : Prop := match e with | .k0 x0 x1 x2 => ∃ g, r = some ((.brk 0), ⟨fr 74 g [(1, .sl 1 x0 7 0 x1), (12, i6 A), (24, (.p (.lst 4 (Zb k.kids))))], [.cells 28 ((cBx D).map .p), yT x0 x2, .cells 83 [sp E 2 0, .sl 3 B 1 0 C, .sl 1 c 7 0 H, ls 1 Zc J, ls 1 eI64 K, i6 L, i6 N, vb M], yU B O, .row 28 4 P (ra cBx S), .cells 77 ((Za T).map .p), .cells 73 [.ptr 2 0], .cells 77 ((Za U).map .p), .cells 77 ((Za Y).map .p), yT Z W, yT V ae, yT X aa, .cells 78 [.sl 10 V 7 0 ab], .cells 3 [i6 ad], .row 28 4 af (ra cBx ag), .cells 77 ((Za ah).map .p), .row 28 4 ai (ra cBx al), .cells 77 ((Za am).map .p), .row 28 4 ap (ra cBx au), .cells 77 ((Za aw).map .p), .cells 77 ((Za k).map .p), yT0]⟩)
abbrev Rk (w : Nat) (Q : Tqq) (F : Nat) (x2 : BoxD) (x : Int) : List AB := [.cells 28 ((cBx D).map .p), yT w (splice Q F [(⟨x2.kind, x2.text, x2.n, x2.kids, i, o, x⟩ : ThingD)]), .cells 83 [sp E 2 0, .sl 3 B 1 0 C, .sl 1 c 7 0 H, ls 1 Zc J, ls 1 eI64 K, i6 L, i6 N, vb M], yU B O, .row 28 4 P (ra cBx S), .cells 77 ((Za T).map .p), .cells 73 [.ptr 2 0], .cells 77 ((Za U).map .p), .cells 77 ((Za Y).map .p), yT Z W, yT V ae, yT X aa, .cells 78 [.sl 10 V 7 0 ab], .cells 3 [i6 ad], .row 28 4 af (ra cBx ag), .cells 77 ((Za ah).map .p), .row 28 4 ai (ra cBx al), .cells 77 ((Za am).map .p), .row 28 4 ap (ra cBx au), .cells 77 ((Za aw).map .p), .cells 77 ((Za k).map .p), yT0, .row 28 4 0 (ra cBx []), .cells 28 ((cBx x2).map .p), .row 77 7 0 [[i6 x2.kind, vs x2.text, i6 x2.n, (.p (.lst 4 (Zb x2.kids))), i6 i, i6 o, i6 x]]]
abbrev Rl (w : Nat) (Q : Tqq) (x2 : BoxD) (x : Int) : List AB := [.cells 28 ((cBx D).map .p), yT w Q, .cells 83 [sp E 2 0, .sl 3 B 1 0 C, .sl 1 c 7 0 H, ls 1 Zc J, ls 1 eI64 K, i6 L, i6 N, vb M], yU B O, .row 28 4 P (ra cBx S), .cells 77 ((Za T).map .p), .cells 73 [.ptr 2 0], .cells 77 ((Za U).map .p), .cells 77 ((Za Y).map .p), yT Z W, yT V ae, yT X aa, .cells 78 [.sl 10 V 7 0 ab], .cells 3 [i6 ad], .row 28 4 af (ra cBx ag), .cells 77 ((Za ah).map .p), .row 28 4 ai (ra cBx al), .cells 77 ((Za am).map .p), .row 28 4 ap (ra cBx au), .cells 77 ((Za aw).map .p), .cells 77 ((Za k).map .p), yT0, .row 28 4 0 (ra cBx []), .cells 28 ((cBx x2).map .p), .row 77 7 0 [[i6 x2.kind, vs x2.text, i6 x2.n, (.p (.lst 4 (Zb x2.kids))), i6 i, i6 o, i6 x]]]
abbrev Rm (w : Nat) (Q : Tqq) (F : Nat) (x2 : BoxD) (x : Int) : List AB := [.cells 28 ((cBx D).map .p), yT (w + 1) (Q.take F ++ [(⟨x2.kind, x2.text, x2.n, x2.kids, i, o, x⟩ : ThingD)]), .cells 83 [sp E 2 0, .sl 3 B 1 0 C, .sl 1 c 7 0 H, ls 1 Zc J, ls 1 eI64 K, i6 L, i6 N, vb M], yU B O, .row 28 4 P (ra cBx S), .cells 77 ((Za T).map .p), .cells 73 [.ptr 2 0], .cells 77 ((Za U).map .p), .cells 77 ((Za Y).map .p), yT Z W, yT V ae, yT X aa, .cells 78 [.sl 10 V 7 0 ab], .cells 3 [i6 ad], .row 28 4 af (ra cBx ag), .cells 77 ((Za ah).map .p), .row 28 4 ai (ra cBx al), .cells 77 ((Za am).map .p), .row 28 4 ap (ra cBx au), .cells 77 ((Za aw).map .p), .cells 77 ((Za k).map .p), yT0, .row 28 4 0 (ra cBx []), .cells 28 ((cBx x2).map .p), .row 77 7 0 [[i6 x2.kind, vs x2.text, i6 x2.n, (.p (.lst 4 (Zb x2.kids))), i6 i, i6 o, i6 x]]]
theorem M0 (w F : Nat) (x R : Int) (Q : Tqq) {r : E_L37_1_14 ⊕ (Nat × Nat × Int × Int × Tqq)} (h : W7 i o k G K w F x R Q = some r) : OkR (fun e => UZ c A k D E B C H J K L N M O P S T U Y Z W V ae X aa ab ad af ag ah ai al am ap au aw e (Y6 c i o A k G D E B C H J K L N M O P S T U Y Z W V ae X aa ab ad af ag ah ai al am ap au aw w F x R Q)) (fun s => Y6 c i o A k G D E B C H J K L N M O P S T U Y Z W V ae X aa ab ad af ag ah ai al am ap au aw w F x R Q = Y6 c i o A k G D E B C H J K L N M O P S T U Y Z W V ae X aa ab ad af ag ah ai al am ap au aw s.1 s.2.1 s.2.2.1 s.2.2.2.1 s.2.2.2.2) r := by
 unfold W7 at h
 apply bi h <;> intro h1 h
 ·
  apply bn h; intro x2 h2 h
  have q0 := ((igr ZF h2) : idxA 4 (.p (.lst 4 (Zb k.kids))) (i6 R) = some (.ro (cBx x2)))
  have k1 := ka [(27, .d true), (28, .v (.ro (cBx x2)))] (av h1 (apc q0 apn))
  apply bi h <;> intro h3 h
  ·
   apply bi h <;> intro h4 h
   ·
    apply bn h; intro x5 h5 h
    rw [← sj h]
    exact rn ([(37, .r (.sl 1 w 7 0 (F + 1)) (Rk c i o k D E B C H J K L N M O P S T U Y Z W V ae X aa ab ad af ag ah ai al am ap au aw w Q F x2 x)), (44, .v (.ro [.val (.int .i64 x5)])), (6000, .d true)] ++ kH k1) (k1.b (apc ((X0 (e := Za) (xs := Q) (news := [(⟨x2.kind, x2.text, x2.n, x2.kids, i, o, x⟩ : ThingD)]) rfl (ZA (e := Za) (xs := [(⟨x2.kind, x2.text, x2.n, x2.kids, i, o, x⟩ : ThingD)]) rfl) rfl h3 h4) : appA (Rl c i o k D E B C H J K L N M O P S T U Y Z W V ae X aa ab ad af ag ah ai al am ap au aw w Q x2 x) 77 7 80 (.sl 1 w 7 0 F) (.sl 24 0 7 0 1) = some ((.sl 1 w 7 0 (F + 1)), Rk c i o k D E B C H J K L N M O P S T U Y Z W V ae X aa ab ad af ag ah ai al am ap au aw w Q F x2 x)) (apc (ig eI64 1 .i64 h5) (apc (UY c i o A k G D E B C H J K L N M O P S T U Y Z W V ae X aa ab ad af ag ah ai al am ap au aw w (F + 1) (w6 (x + x5)) (w6 (R + 1)) (splice Q F [(⟨x2.kind, x2.text, x2.n, x2.kids, i, o, x⟩ : ThingD)])) apn))))
   ·
    apply bn h; intro x5 h5 h
    rw [← sj h]
    exact rn ([(37, .r (.sl 1 (w + 1) 7 0 (F + 1)) (Rm c i o k D E B C H J K L N M O P S T U Y Z W V ae X aa ab ad af ag ah ai al am ap au aw w Q F x2 x)), (44, .v (.ro [.val (.int .i64 x5)])), (6000, .d true)] ++ kH k1) (k1.b (apc ((Yk (e := Za) (xs := Q) (news := [(⟨x2.kind, x2.text, x2.n, x2.kids, i, o, x⟩ : ThingD)]) rfl (ZA (e := Za) (xs := [(⟨x2.kind, x2.text, x2.n, x2.kids, i, o, x⟩ : ThingD)]) rfl) rfl h3 h4) : appA (Rl c i o k D E B C H J K L N M O P S T U Y Z W V ae X aa ab ad af ag ah ai al am ap au aw w Q x2 x) 77 7 80 (.sl 1 w 7 0 F) (.sl 24 0 7 0 1) = some ((.sl 1 (w + 1) 7 0 (F + 1)), Rm c i o k D E B C H J K L N M O P S T U Y Z W V ae X aa ab ad af ag ah ai al am ap au aw w Q F x2 x)) (apc (ig eI64 1 .i64 h5) (apc (UY c i o A k G D E B C H J K L N M O P S T U Y Z W V ae X aa ab ad af ag ah ai al am ap au aw (w + 1) (F + 1) (w6 (x + x5)) (w6 (R + 1)) (Q.take F ++ [(⟨x2.kind, x2.text, x2.n, x2.kids, i, o, x⟩ : ThingD)])) apn))))
  ·
   cases h
 ·
  rw [← sj h]
  exact xb [(27, .d false), (6000, .d true)] (av h1 apn)
theorem NA (s0 : Nat × Nat × Int × Int × Tqq) (e : E_L37_1_14) (h : runL (fun s => W7 i o k G K s.1 s.2.1 s.2.2.1 s.2.2.2.1 s.2.2.2.2) s0 = some e) : UZ c A k D E B C H J K L N M O P S T U Y Z W V ae X aa ab ad af ag ah ai al am ap au aw e (Y6 c i o A k G D E B C H J K L N M O P S T U Y Z W V ae X aa ab ad af ag ah ai al am ap au aw s0.1 s0.2.1 s0.2.2.1 s0.2.2.2.1 s0.2.2.2.2) := by
  have q := @Zg (Nat × Nat × Int × Int × Tqq) E_L37_1_14 (fun s => W7 i o k G K s.1 s.2.1 s.2.2.1 s.2.2.2.1 s.2.2.2.2) (fun s => Y6 c i o A k G D E B C H J K L N M O P S T U Y Z W V ae X aa ab ad af ag ah ai al am ap au aw s.1 s.2.1 s.2.2.1 s.2.2.2.1 s.2.2.2.2) (UZ c A k D E B C H J K L N M O P S T U Y Z W V ae X aa ab ad af ag ah ai al am ap au aw) (fun s r h => M0 c i o A k G D E B C H J K L N M O P S T U Y Z W V ae X aa ab ad af ag ah ai al am ap au aw s.1 s.2.1 s.2.2.1 s.2.2.2.1 s.2.2.2.2 h) s0 e h
  exact q
end
inductive E_L37_0_14 where
  | k0 (x0 : Tqq)
section
variable (c j : Nat) (u : BoxD) (k : Bool) (G D I E : Nat) (B : Oqq) (C : Iqq) (H J : Int) (K : Bool) (L : Iqq) (N : Nat) (M : Bqq) (O P S : ThingD) (T : Nat) (U : Tqq) (Y : Nat) (Z : Tqq) (W : Nat) (V : Tqq) (ae : Nat) (X : Int) (aa : Nat) (ab : Bqq) (ad : ThingD) (af : Nat) (ag : Bqq) (ah : ThingD) (ai : Nat) (al : Bqq) (am ap : ThingD)
def W8 (w F : Int) (x : Tqq) : Option (E_L37_0_14 ⊕ (Int × Int × Tqq)) :=
  (bif (decide (w < F)) then ((ixN j F).bind fun x2 => ((x[x2]?).bind fun x3 => ((ixN j w).bind fun x4 => ((x[x4]?).bind fun x5 => (((x.set x4 (⟨x3.kind, x3.text, x3.n, x3.kids, x3.depth, x3.way, x3.at_⟩ : ThingD))[x2]?).bind fun x6 => (some (.inr ((IntKind.wrap .i64 (w + 1)), (IntKind.wrap .i64 (F - 1)), ((x.set x4 (⟨x3.kind, x3.text, x3.n, x3.kids, x3.depth, x3.way, x3.at_⟩ : ThingD)).set x2 (⟨x5.kind, x5.text, x5.n, x5.kids, x5.depth, x5.way, x5.at_⟩ : ThingD)))))))))) else (some (.inl (.k0 x))))
def QP (w F : Int) (x : Tqq) : St := ⟨fr 74 ug [(1, .sl 1 c 7 0 j), (15, i6 w), (16, i6 F)], [.cells 28 ((cBx u).map .p), yT c x, .cells 83 [sp k 2 0, .sl 3 G 1 0 D, .sl 1 I 7 0 E, ls 1 Zc B, ls 1 eI64 C, i6 H, i6 J, vb K], yU G L, .row 28 4 N (ra cBx M), .cells 77 ((Za O).map .p), .cells 73 [.ptr 2 0], .cells 77 ((Za P).map .p), .cells 77 ((Za S).map .p), yT T U, yT Y Z, yT W V, .cells 78 [.sl 10 Y 7 0 ae], .cells 3 [i6 X], .row 28 4 aa (ra cBx ab), .cells 77 ((Za ad).map .p), .row 28 4 af (ra cBx ag), .cells 77 ((Za ah).map .p), .row 28 4 ai (ra cBx al), .cells 77 ((Za am).map .p), .cells 77 ((Za ap).map .p), yT0]⟩
theorem QQ (w F : Int) (x : Tqq) : okT 22 (QP c j u k G D I E B C H J K L N M O P S T U Y Z W V ae X aa ab ad af ag ah ai al am ap w F x).h = true := (ZE rfl (ac (ar (Zv (Z8 rfl (Ze rfl (Ze rfl (Ze rfl (Ze rfl (Ze rfl (Ze rfl (Ze rfl rfl)))))))) (ar (ar (ac (ac (ac (ac (ar (ar (ar (ac (ac (ar (ac (ar (ac (ar (ac (ac (ar rfl)))))))))))))))))))))))
abbrev Y7 (w F : Int) (x : Tqq) := evH prg 22 [1, 15, 16] XK (QP c j u k G D I E B C H J K L N M O P S T U Y Z W V ae X aa ab ad af ag ah ai al am ap w F x)
def U0 (e : E_L37_0_14) (r : Option (Out × St)) : Prop := match e with | .k0 x0 => ∃ g, r = some ((.brk 2), ⟨fr 74 g [(1, .sl 1 c 7 0 j)], [.cells 28 ((cBx u).map .p), yT c x0, .cells 83 [sp k 2 0, .sl 3 G 1 0 D, .sl 1 I 7 0 E, ls 1 Zc B, ls 1 eI64 C, i6 H, i6 J, vb K], yU G L, .row 28 4 N (ra cBx M), .cells 77 ((Za O).map .p), .cells 73 [.ptr 2 0], .cells 77 ((Za P).map .p), .cells 77 ((Za S).map .p), yT T U, yT Y Z, yT W V, .cells 78 [.sl 10 Y 7 0 ae], .cells 3 [i6 X], .row 28 4 aa (ra cBx ab), .cells 77 ((Za ad).map .p), .row 28 4 af (ra cBx ag), .cells 77 ((Za ah).map .p), .row 28 4 ai (ra cBx al), .cells 77 ((Za am).map .p), .cells 77 ((Za ap).map .p), yT0]⟩)
abbrev VN (x : Tqq) (x4 : Nat) (x3 : ThingD) : List AB := [.cells 28 ((cBx u).map .p), yT c (x.set x4 (⟨x3.kind, x3.text, x3.n, x3.kids, x3.depth, x3.way, x3.at_⟩ : ThingD)), .cells 83 [sp k 2 0, .sl 3 G 1 0 D, .sl 1 I 7 0 E, ls 1 Zc B, ls 1 eI64 C, i6 H, i6 J, vb K], yU G L, .row 28 4 N (ra cBx M), .cells 77 ((Za O).map .p), .cells 73 [.ptr 2 0], .cells 77 ((Za P).map .p), .cells 77 ((Za S).map .p), yT T U, yT Y Z, yT W V, .cells 78 [.sl 10 Y 7 0 ae], .cells 3 [i6 X], .row 28 4 aa (ra cBx ab), .cells 77 ((Za ad).map .p), .row 28 4 af (ra cBx ag), .cells 77 ((Za ah).map .p), .row 28 4 ai (ra cBx al), .cells 77 ((Za am).map .p), .cells 77 ((Za ap).map .p), yT0]
abbrev Rn (x : Tqq) (x4 : Nat) (x3 : ThingD) (x2 : Nat) (x5 : ThingD) : List AB := [.cells 28 ((cBx u).map .p), yT c ((x.set x4 (⟨x3.kind, x3.text, x3.n, x3.kids, x3.depth, x3.way, x3.at_⟩ : ThingD)).set x2 (⟨x5.kind, x5.text, x5.n, x5.kids, x5.depth, x5.way, x5.at_⟩ : ThingD)), .cells 83 [sp k 2 0, .sl 3 G 1 0 D, .sl 1 I 7 0 E, ls 1 Zc B, ls 1 eI64 C, i6 H, i6 J, vb K], yU G L, .row 28 4 N (ra cBx M), .cells 77 ((Za O).map .p), .cells 73 [.ptr 2 0], .cells 77 ((Za P).map .p), .cells 77 ((Za S).map .p), yT T U, yT Y Z, yT W V, .cells 78 [.sl 10 Y 7 0 ae], .cells 3 [i6 X], .row 28 4 aa (ra cBx ab), .cells 77 ((Za ad).map .p), .row 28 4 af (ra cBx ag), .cells 77 ((Za ah).map .p), .row 28 4 ai (ra cBx al), .cells 77 ((Za am).map .p), .cells 77 ((Za ap).map .p), yT0]
abbrev VO (x : Tqq) : List AB := [.cells 28 ((cBx u).map .p), yT c x, .cells 83 [sp k 2 0, .sl 3 G 1 0 D, .sl 1 I 7 0 E, ls 1 Zc B, ls 1 eI64 C, i6 H, i6 J, vb K], yU G L, .row 28 4 N (ra cBx M), .cells 77 ((Za O).map .p), .cells 73 [.ptr 2 0], .cells 77 ((Za P).map .p), .cells 77 ((Za S).map .p), yT T U, yT Y Z, yT W V, .cells 78 [.sl 10 Y 7 0 ae], .cells 3 [i6 X], .row 28 4 aa (ra cBx ab), .cells 77 ((Za ad).map .p), .row 28 4 af (ra cBx ag), .cells 77 ((Za ah).map .p), .row 28 4 ai (ra cBx al), .cells 77 ((Za am).map .p), .cells 77 ((Za ap).map .p), yT0]
theorem M2 (w F : Int) (x : Tqq) {r : E_L37_0_14 ⊕ (Int × Int × Tqq)} (h : W8 j w F x = some r) : OkR (fun e => U0 c j u k G D I E B C H J K L N M O P S T U Y Z W V ae X aa ab ad af ag ah ai al am ap e (Y7 c j u k G D I E B C H J K L N M O P S T U Y Z W V ae X aa ab ad af ag ah ai al am ap w F x)) (fun s => Y7 c j u k G D I E B C H J K L N M O P S T U Y Z W V ae X aa ab ad af ag ah ai al am ap w F x = Y7 c j u k G D I E B C H J K L N M O P S T U Y Z W V ae X aa ab ad af ag ah ai al am ap s.1 s.2.1 s.2.2) r := by
 unfold W8 at h
 apply bi h <;> intro h1 h
 ·
  apply bn h; intro x2 h2 h
  have q0 := ((ZP h2) : idxA 7 (.sl 1 c 7 0 j) (i6 F) = some (.rp 1 c 7 x2 0))
  apply bn h; intro x3 h3 h
  apply bn h; intro x4 h4 h
  have q1 := ((ZP h4) : idxA 7 (.sl 1 c 7 0 j) (i6 w) = some (.rp 1 c 7 x4 0))
  apply bn h; intro x5 h5 h
  apply bn h; intro x6 h6 h
  rw [← sj h]
  exact rn [(54, .d true), (65, .v (.rp 1 c 7 x2 0)), (66, .v (.agg ((Za x3).map .p))), (69, .v (.rp 1 c 7 x4 0)), (70, .v (.agg ((Za x5).map .p))), (71, .v (.rp 1 c 7 x4 0)), (1071, .r ud (VN c u k G D I E B C H J K L N M O P S T U Y Z W V ae X aa ab ad af ag ah ai al am ap x x4 x3)), (72, .v (.rp 1 c 7 x2 0)), (1072, .r ud (Rn c u k G D I E B C H J K L N M O P S T U Y Z W V ae X aa ab ad af ag ah ai al am ap x x4 x3 x2 x5)), (6000, .d true)] (av h1 (apc q0 (apc ((Z6 rfl h3 rfl) : ldA (VO c u k G D I E B C H J K L N M O P S T U Y Z W V ae X aa ab ad af ag ah ai al am ap x) .true 7 (.rp 1 c 7 x2 0) = some (.agg ((Za x3).map .p))) (apc q1 (apc ((Z6 rfl h5 rfl) : ldA (VO c u k G D I E B C H J K L N M O P S T U Y Z W V ae X aa ab ad af ag ah ai al am ap x) .true 7 (.rp 1 c 7 x4 0) = some (.agg ((Za x5).map .p))) (apc q1 (apc (⟨ZZ (v' := (⟨x3.kind, x3.text, x3.n, x3.kids, x3.depth, x3.way, x3.at_⟩ : ThingD)) rfl h5 rfl rfl (Nat.le_of_ble_eq_true rfl) rfl, rfl⟩ : stA (VO c u k G D I E B C H J K L N M O P S T U Y Z W V ae X aa ab ad af ag ah ai al am ap x) 7 (.rp 1 c 7 x4 0) (.agg ((Za x3).map .p)) = some (VN c u k G D I E B C H J K L N M O P S T U Y Z W V ae X aa ab ad af ag ah ai al am ap x x4 x3) ∧ ud = ud) (apc q0 (apc (⟨ZZ (v' := (⟨x5.kind, x5.text, x5.n, x5.kids, x5.depth, x5.way, x5.at_⟩ : ThingD)) rfl h6 rfl rfl (Nat.le_of_ble_eq_true rfl) rfl, rfl⟩ : stA (VN c u k G D I E B C H J K L N M O P S T U Y Z W V ae X aa ab ad af ag ah ai al am ap x x4 x3) 7 (.rp 1 c 7 x2 0) (.agg ((Za x5).map .p)) = some (Rn c u k G D I E B C H J K L N M O P S T U Y Z W V ae X aa ab ad af ag ah ai al am ap x x4 x3 x2 x5) ∧ ud = ud) (apc (QQ c j u k G D I E B C H J K L N M O P S T U Y Z W V ae X aa ab ad af ag ah ai al am ap (w6 (w + 1)) (w6 (F - 1)) ((x.set x4 (⟨x3.kind, x3.text, x3.n, x3.kids, x3.depth, x3.way, x3.at_⟩ : ThingD)).set x2 (⟨x5.kind, x5.text, x5.n, x5.kids, x5.depth, x5.way, x5.at_⟩ : ThingD))) apn))))))))))
 ·
  rw [← sj h]
  exact xb [(54, .d false), (6000, .d true)] (av h1 apn)
theorem NB (s0 : Int × Int × Tqq) (e : E_L37_0_14) (h : runL (fun s => W8 j s.1 s.2.1 s.2.2) s0 = some e) : U0 c j u k G D I E B C H J K L N M O P S T U Y Z W V ae X aa ab ad af ag ah ai al am ap e (Y7 c j u k G D I E B C H J K L N M O P S T U Y Z W V ae X aa ab ad af ag ah ai al am ap s0.1 s0.2.1 s0.2.2) := by
  have q := @Zg (Int × Int × Tqq) E_L37_0_14 (fun s => W8 j s.1 s.2.1 s.2.2) (fun s => Y7 c j u k G D I E B C H J K L N M O P S T U Y Z W V ae X aa ab ad af ag ah ai al am ap s.1 s.2.1 s.2.2) (U0 c j u k G D I E B C H J K L N M O P S T U Y Z W V ae X aa ab ad af ag ah ai al am ap) (fun s r h => M2 c j u k G D I E B C H J K L N M O P S T U Y Z W V ae X aa ab ad af ag ah ai al am ap s.1 s.2.1 s.2.2 h) s0 e h
  exact q
end
inductive R_F37_14 where
  | k0 (x0 x1 : Nat) (x2 : Tqq)
def Fo (c j : Nat) (i : ThingD) (o u : Int) (A : BoxD) (k : Tqq) (G : Bool) (D I E : Nat) (B : Oqq) (C : Iqq) (H J : Int) (K : Bool) (L : Iqq) (N : Nat) (M : Bqq) (O P S : ThingD) (T : Nat) (U : Tqq) (Y : Nat) (Z : Tqq) (W : Nat) (V : Tqq) (ae : Nat) (X : Int) (aa : Nat) (ab : Bqq) (ad : ThingD) (af : Nat) (ag : Bqq) (ah : ThingD) (ai : Nat) (al : Bqq) (am : ThingD) (r : R_F37_14) : AV := match r with | .k0 x0 x1 x2 => (.sl 1 x0 7 0 x1)
def Fp (c j : Nat) (i : ThingD) (o u : Int) (A : BoxD) (k : Tqq) (G : Bool) (D I E : Nat) (B : Oqq) (C : Iqq) (H J : Int) (K : Bool) (L : Iqq) (N : Nat) (M : Bqq) (O P S : ThingD) (T : Nat) (U : Tqq) (Y : Nat) (Z : Tqq) (W : Nat) (V : Tqq) (ae : Nat) (X : Int) (aa : Nat) (ab : Bqq) (ad : ThingD) (af : Nat) (ag : Bqq) (ah : ThingD) (ai : Nat) (al : Bqq) (am : ThingD) (r : R_F37_14) : List AB := match r with | .k0 x0 x1 x2 => [.cells 28 ((cBx A).map .p), yT x0 x2, .cells 83 [sp G 2 0, .sl 3 D 1 0 I, .sl 1 c 7 0 E, ls 1 Zc B, ls 1 eI64 C, i6 H, i6 J, vb K], yU D L, .row 28 4 N (ra cBx M), .cells 77 ((Za O).map .p), .cells 73 [.ptr 2 0], .cells 77 ((Za P).map .p), .cells 77 ((Za S).map .p), yT T U, yT Y Z, yT W V, .cells 78 [.sl 10 Y 7 0 ae], .cells 3 [i6 X], .row 28 4 aa (ra cBx ab), .cells 77 ((Za ad).map .p), .row 28 4 af (ra cBx ag), .cells 77 ((Za ah).map .p), .row 28 4 ai (ra cBx al), .cells 77 ((Za am).map .p), .cells 77 ((Za i).map .p), yT0]
def QR (c j : Nat) (i : ThingD) (o u : Int) (k : Tqq) (C : Iqq) : Option R_F37_14 :=
  ((runL (fun s => W7 o u i (i.kids.length : Int) C s.1 s.2.1 s.2.2.1 s.2.2.2.1 s.2.2.2.2) (c, j, (IntKind.wrap .i64 (i.at_ + 1)), 0, k)).bind fun r1 => match r1 with | .k0 ak aj an => ((runL (fun s => W8 aj s.1 s.2.1 s.2.2) (((j : Nat) : Int), (IntKind.wrap .i64 (((aj : Nat) : Int) - 1)), an)).bind fun r2 => match r2 with | .k0 ao => (some (.k0 ak aj ao))))
abbrev NC (g1 : Nat → AV) (ak aj j : Nat) (i : ThingD) (A : BoxD) (an : Tqq) (G : Bool) (D I c E : Nat) (B : Oqq) (C : Iqq) (H J : Int) (K : Bool) (L : Iqq) (N : Nat) (M : Bqq) (O P S : ThingD) (T : Nat) (U : Tqq) (Y : Nat) (Z : Tqq) (W : Nat) (V : Tqq) (ae : Nat) (X : Int) (aa : Nat) (ab : Bqq) (ad : ThingD) (af : Nat) (ag : Bqq) (ah : ThingD) (ai : Nat) (al : Bqq) (am : ThingD) : St := ⟨fr 74 g1 [(1, .sl 1 ak 7 0 aj), (12, (i6 ((j : Nat) : Int))), (24, (.p (.lst 4 (Zb i.kids))))], [.cells 28 ((cBx A).map .p), yT ak an, .cells 83 [sp G 2 0, .sl 3 D 1 0 I, .sl 1 c 7 0 E, ls 1 Zc B, ls 1 eI64 C, i6 H, i6 J, vb K], yU D L, .row 28 4 N (ra cBx M), .cells 77 ((Za O).map .p), .cells 73 [.ptr 2 0], .cells 77 ((Za P).map .p), .cells 77 ((Za S).map .p), yT T U, yT Y Z, yT W V, .cells 78 [.sl 10 Y 7 0 ae], .cells 3 [i6 X], .row 28 4 aa (ra cBx ab), .cells 77 ((Za ad).map .p), .row 28 4 af (ra cBx ag), .cells 77 ((Za ah).map .p), .row 28 4 ai (ra cBx al), .cells 77 ((Za am).map .p), .cells 77 ((Za i).map .p), yT0]⟩
abbrev ND (g2 : Nat → AV) (ak aj : Nat) (A : BoxD) (ao : Tqq) (G : Bool) (D I c E : Nat) (B : Oqq) (C : Iqq) (H J : Int) (K : Bool) (L : Iqq) (N : Nat) (M : Bqq) (O P S : ThingD) (T : Nat) (U : Tqq) (Y : Nat) (Z : Tqq) (W : Nat) (V : Tqq) (ae : Nat) (X : Int) (aa : Nat) (ab : Bqq) (ad : ThingD) (af : Nat) (ag : Bqq) (ah : ThingD) (ai : Nat) (al : Bqq) (am i : ThingD) : St := ⟨fr 74 g2 [(1, .sl 1 ak 7 0 aj)], [.cells 28 ((cBx A).map .p), yT ak ao, .cells 83 [sp G 2 0, .sl 3 D 1 0 I, .sl 1 c 7 0 E, ls 1 Zc B, ls 1 eI64 C, i6 H, i6 J, vb K], yU D L, .row 28 4 N (ra cBx M), .cells 77 ((Za O).map .p), .cells 73 [.ptr 2 0], .cells 77 ((Za P).map .p), .cells 77 ((Za S).map .p), yT T U, yT Y Z, yT W V, .cells 78 [.sl 10 Y 7 0 ae], .cells 3 [i6 X], .row 28 4 aa (ra cBx ab), .cells 77 ((Za ad).map .p), .row 28 4 af (ra cBx ag), .cells 77 ((Za ah).map .p), .row 28 4 ai (ra cBx al), .cells 77 ((Za am).map .p), .cells 77 ((Za i).map .p), yT0]⟩
theorem NE (c j : Nat) (i : ThingD) (o u : Int) (A : BoxD) (k : Tqq) (G : Bool) (D I E : Nat) (B : Oqq) (C : Iqq) (H J : Int) (K : Bool) (L : Iqq) (N : Nat) (M : Bqq) (O P S : ThingD) (T : Nat) (U : Tqq) (Y : Nat) (Z : Tqq) (W : Nat) (V : Tqq) (ae : Nat) (X : Int) (aa : Nat) (ab : Bqq) (ad : ThingD) (af : Nat) (ag : Bqq) (ah : ThingD) (ai : Nat) (al : Bqq) (am : ThingD) {r : R_F37_14} (h : QR c j i o u k C = some r) : CS prg 55 [.ptr 2 0, .sl 1 c 7 0 j, (.agg ((Za i).map .p)), i6 o, i6 u] [.cells 28 ((cBx A).map .p), yT c k, .cells 83 [sp G 2 0, .sl 3 D 1 0 I, .sl 1 c 7 0 E, ls 1 Zc B, ls 1 eI64 C, i6 H, i6 J, vb K], yU D L, .row 28 4 N (ra cBx M), .cells 77 ((Za O).map .p), .cells 73 [.ptr 2 0], .cells 77 ((Za P).map .p), .cells 77 ((Za S).map .p), yT T U, yT Y Z, yT W V, .cells 78 [.sl 10 Y 7 0 ae], .cells 3 [i6 X], .row 28 4 aa (ra cBx ab), .cells 77 ((Za ad).map .p), .row 28 4 af (ra cBx ag), .cells 77 ((Za ah).map .p), .row 28 4 ai (ra cBx al), .cells 77 ((Za am).map .p)] = some (Fo c j i o u A k G D I E B C H J K L N M O P S T U Y Z W V ae X aa ab ad af ag ah ai al am r, Fp c j i o u A k G D I E B C H J K L N M O P S T U Y Z W V ae X aa ab ad af ag ah ai al am r) := by
 unfold QR at h
 apply bn h; intro r1 h1 h
 cases r1 with
 | k0 ak aj an =>
  obtain ⟨g1, e1⟩ := NA c o u ((j : Nat) : Int) i (i.kids.length : Int) A G D I E B C H J K L N M O P S T U Y Z W V ae X aa ab ad af ag ah ai al am (c, j, (w6 (i.at_ + 1)), 0, k) _ h1
  apply bn h; intro r2 h2 h
  cases r2 with
  | k0 ao =>
   obtain ⟨g2, e2⟩ := NB ak aj A G D I c E B C H J K L N M O P S T U Y Z W V ae X aa ab ad af ag ah ai al am i (((j : Nat) : Int), (w6 (((aj : Nat) : Int) - 1)), an) _ h2
   rw [← sj h]
   exact fc [(25, .v (i6 (i.kids.length : Int))), (2000, .l (.brk 0) (NC g1 ak aj j i A an G D I c E B C H J K L N M O P S T U Y Z W V ae X aa ab ad af ag ah ai al am)), (2002, .l (.brk 2) (ND g2 ak aj A ao G D I c E B C H J K L N M O P S T U Y Z W V ae X aa ab ad af ag ah ai al am i)), (6000, .d true)] (apc ((lgr ZF) : lnA (.p (.lst 4 (Zb i.kids))) = some (i6 (i.kids.length : Int))) (apc (UY c o u ((j : Nat) : Int) i (i.kids.length : Int) A G D I E B C H J K L N M O P S T U Y Z W V ae X aa ab ad af ag ah ai al am c j (w6 (i.at_ + 1)) 0 k) (apc (e1 : Y6 c o u ((j : Nat) : Int) i (i.kids.length : Int) A G D I E B C H J K L N M O P S T U Y Z W V ae X aa ab ad af ag ah ai al am c j (w6 (i.at_ + 1)) 0 k = some ((.brk 0), NC g1 ak aj j i A an G D I c E B C H J K L N M O P S T U Y Z W V ae X aa ab ad af ag ah ai al am)) (apc (QQ ak aj A G D I c E B C H J K L N M O P S T U Y Z W V ae X aa ab ad af ag ah ai al am i ((j : Nat) : Int) (w6 (((aj : Nat) : Int) - 1)) an) (apc (e2 : Y7 ak aj A G D I c E B C H J K L N M O P S T U Y Z W V ae X aa ab ad af ag ah ai al am i ((j : Nat) : Int) (w6 (((aj : Nat) : Int) - 1)) an = some ((.brk 2), ND g2 ak aj A ao G D I c E B C H J K L N M O P S T U Y Z W V ae X aa ab ad af ag ah ai al am i)) apn)))))
end
end Go.Proofs.Tryd
