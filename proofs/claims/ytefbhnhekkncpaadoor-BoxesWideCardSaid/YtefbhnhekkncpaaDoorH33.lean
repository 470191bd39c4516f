/- Decompiled by a program: functions as plain data see them, part 3. -/
import Derived.Test.YtefbhnhekkncpaaDoorH32
namespace Go.Proofs.Tryd
set_option linter.unusedSimpArgs false
set_option linter.unusedVariables false
set_option maxHeartbeats 4000000
open Go Go.Vs
noncomputable section
inductive E_L37_1_15 where
  | k0 (x0 x1 : Nat) (x2 : Tqq)
section
variable (c : Nat) (i o A : Int) (k : ThingD) (G : Int) (D : BoxD) (E : Bool) (B C H : Nat) (J : Oqq) (K : Iqq) (L N : Int) (M : Bool) (O : Iqq) (P : Nat) (S : Bqq) (T U Y : ThingD) (Z : Nat) (W : Tqq) (V : Nat) (ae : Tqq) (X : Nat) (aa : Tqq) (ab : Nat) (ad : Int) (af : Nat) (ag : Bqq) (ah : Int) (ai : ByteArray) (al am ap au : Int) (aw : Nat) (aP : Bqq) (aQ : Int) (aR : ByteArray) (aS aZ bz bA : Int)
def W9 (w F : Nat) (x R : Int) (Q : Tqq) : Option (E_L37_1_15 ⊕ (Nat × Nat × Int × Int × Tqq)) :=
  (bif (decide (R < G)) then ((getI k.kids R).bind fun x2 => (bif (apOk F 1 Q.length 80) then (bif (decide (F + 1 ≤ Q.length)) then ((getI K x).bind fun x5 => (some (.inr (w, F + 1, (IntKind.wrap .i64 (x + x5)), (IntKind.wrap .i64 (R + 1)), (splice Q F [(⟨x2.kind, x2.text, x2.n, x2.kids, i, o, x⟩ : ThingD)]))))) else ((getI K x).bind fun x5 => (some (.inr ((w + 1), F + 1, (IntKind.wrap .i64 (x + x5)), (IntKind.wrap .i64 (R + 1)), (Q.take F ++ [(⟨x2.kind, x2.text, x2.n, x2.kids, i, o, x⟩ : ThingD)])))))) else none)) else (some (.inl (.k0 w F Q))))
def QS (w F : Nat) (x R : Int) (Q : Tqq) : St := ⟨fr 74 ug [(0, .ptr 2 0), (1, .sl 1 w 7 0 F), (3, i6 i), (4, i6 o), (11, i6 x), (12, i6 A), (24, (.p (.lst 4 (Zb k.kids)))), (25, i6 G), (26, i6 R)], [.cells 28 ((cBx D).map .p), yT w Q, .cells 83 [sp E 2 0, .sl 3 B 1 0 C, .sl 1 c 7 0 H, ls 1 Zc J, ls 1 eI64 K, i6 L, i6 N, vb M], yU B O, .row 28 4 P (ra cBx S), .cells 77 ((Za T).map .p), .cells 73 [.ptr 2 0], .cells 77 ((Za U).map .p), .cells 77 ((Za Y).map .p), yT Z W, yT V ae, yT X aa, .cells 78 [.sl 10 V 7 0 ab], .cells 3 [i6 ad], .row 28 4 af (ra cBx ag), .cells 77 [i6 ah, vs ai, i6 al, n0, i6 am, i6 ap, i6 au], .row 28 4 aw (ra cBx aP), .cells 77 [i6 aQ, vs aR, i6 aS, n0, i6 aZ, i6 bz, i6 bA], .cells 77 ((Za k).map .p), yT0]⟩
theorem U1 (w F : Nat) (x R : Int) (Q : Tqq) : okT 20 (QS c i o A k G D E B C H J K L N M O P S T U Y Z W V ae X aa ab ad af ag ah ai al am ap au aw aP aQ aR aS aZ bz bA w F x R Q).h = true := (ZE rfl (ac (ar (Zv (Z8 rfl (Ze rfl (Ze rfl (Ze rfl (Ze rfl (Ze rfl (Ze rfl (Ze rfl rfl)))))))) (ar (ar (ac (ac (ac (ac (ar (ar (ar (ac (ac (ar (ac (ar (ac (ac (ar rfl)))))))))))))))))))))
abbrev Y8 (w F : Nat) (x R : Int) (Q : Tqq) := evH prg 20 [0, 1, 3, 4, 11, 12, 24, 25, 26, 1000199007707] XL (QS c i o A k G D E B C H J K L N M O P S T U Y Z W V ae X aa ab ad af ag ah ai al am ap au aw aP aQ aR aS aZ bz bA w F x R Q)
def U2 (e : E_L37_1_15) (r : Option (Out × St)) : Prop := match e with | .k0 x0 x1 x2 => ∃ g, r = some ((.brk 0), ⟨fr 74 g [(1, .sl 1 x0 7 0 x1), (12, i6 A), (24, (.p (.lst 4 (Zb k.kids))))], [.cells 28 ((cBx D).map .p), yT x0 x2, .cells 83 [sp E 2 0, .sl 3 B 1 0 C, .sl 1 c 7 0 H, ls 1 Zc J, ls 1 eI64 K, i6 L, i6 N, vb M], yU B O, .row 28 4 P (ra cBx S), .cells 77 ((Za T).map .p), .cells 73 [.ptr 2 0], .cells 77 ((Za U).map .p), .cells 77 ((Za Y).map .p), yT Z W, yT V ae, yT X aa, .cells 78 [.sl 10 V 7 0 ab], .cells 3 [i6 ad], .row 28 4 af (ra cBx ag), .cells 77 [i6 ah, vs ai, i6 al, n0, i6 am, i6 ap, i6 au], .row 28 4 aw (ra cBx aP), .cells 77 [i6 aQ, vs aR, i6 aS, n0, i6 aZ, i6 bz, i6 bA], .cells 77 ((Za k).map .p), yT0]⟩)
abbrev Ro (w : Nat) (Q : Tqq) (F : Nat) (x2 : BoxD) (x : Int) : List AB := [.cells 28 ((cBx D).map .p), yT w (splice Q F [(⟨x2.kind, x2.text, x2.n, x2.kids, i, o, x⟩ : ThingD)]), .cells 83 [sp E 2 0, .sl 3 B 1 0 C, .sl 1 c 7 0 H, ls 1 Zc J, ls 1 eI64 K, i6 L, i6 N, vb M], yU B O, .row 28 4 P (ra cBx S), .cells 77 ((Za T).map .p), .cells 73 [.ptr 2 0], .cells 77 ((Za U).map .p), .cells 77 ((Za Y).map .p), yT Z W, yT V ae, yT X aa, .cells 78 [.sl 10 V 7 0 ab], .cells 3 [i6 ad], .row 28 4 af (ra cBx ag), .cells 77 [i6 ah, vs ai, i6 al, n0, i6 am, i6 ap, i6 au], .row 28 4 aw (ra cBx aP), .cells 77 [i6 aQ, vs aR, i6 aS, n0, i6 aZ, i6 bz, i6 bA], .cells 77 ((Za k).map .p), yT0, .row 28 4 0 (ra cBx []), .cells 28 ((cBx x2).map .p), .row 77 7 0 [[i6 x2.kind, vs x2.text, i6 x2.n, (.p (.lst 4 (Zb x2.kids))), i6 i, i6 o, i6 x]]]
abbrev Rp (w : Nat) (Q : Tqq) (x2 : BoxD) (x : Int) : List AB := [.cells 28 ((cBx D).map .p), yT w Q, .cells 83 [sp E 2 0, .sl 3 B 1 0 C, .sl 1 c 7 0 H, ls 1 Zc J, ls 1 eI64 K, i6 L, i6 N, vb M], yU B O, .row 28 4 P (ra cBx S), .cells 77 ((Za T).map .p), .cells 73 [.ptr 2 0], .cells 77 ((Za U).map .p), .cells 77 ((Za Y).map .p), yT Z W, yT V ae, yT X aa, .cells 78 [.sl 10 V 7 0 ab], .cells 3 [i6 ad], .row 28 4 af (ra cBx ag), .cells 77 [i6 ah, vs ai, i6 al, n0, i6 am, i6 ap, i6 au], .row 28 4 aw (ra cBx aP), .cells 77 [i6 aQ, vs aR, i6 aS, n0, i6 aZ, i6 bz, i6 bA], .cells 77 ((Za k).map .p), yT0, .row 28 4 0 (ra cBx []), .cells 28 ((cBx x2).map .p), .row 77 7 0 [[i6 x2.kind, vs x2.text, i6 x2.n, (.p (.lst 4 (Zb x2.kids))), i6 i, i6 o, i6 x]]]
abbrev Rq (w : Nat) (Q : Tqq) (F : Nat) (x2 : BoxD) (x : Int) : List AB := [.cells 28 ((cBx D).map .p), yT (w + 1) (Q.take F ++ [(⟨x2.kind, x2.text, x2.n, x2.kids, i, o, x⟩ : ThingD)]), .cells 83 [sp E 2 0, .sl 3 B 1 0 C, .sl 1 c 7 0 H, ls 1 Zc J, ls 1 eI64 K, i6 L, i6 N, vb M], yU B O, .row 28 4 P (ra cBx S), .cells 77 ((Za T).map .p), .cells 73 [.ptr 2 0], .cells 77 ((Za U).map .p), .cells 77 ((Za Y).map .p), yT Z W, yT V ae, yT X aa, .cells 78 [.sl 10 V 7 0 ab], .cells 3 [i6 ad], .row 28 4 af (ra cBx ag), .cells 77 [i6 ah, vs ai, i6 al, n0, i6 am, i6 ap, i6 au], .row 28 4 aw (ra cBx aP), .cells 77 [i6 aQ, vs aR, i6 aS, n0, i6 aZ, i6 bz, i6 bA], .cells 77 ((Za k).map .p), yT0, .row 28 4 0 (ra cBx []), .cells 28 ((cBx x2).map .p), .row 77 7 0 [[i6 x2.kind, vs x2.text, i6 x2.n, (.p (.lst 4 (Zb x2.kids))), i6 i, i6 o, i6 x]]]
theorem M3 (w F : Nat) (x R : Int) (Q : Tqq) {r : E_L37_1_15 ⊕ (Nat × Nat × Int × Int × Tqq)} (h : W9 i o k G K w F x R Q = some r) : OkR (fun e => U2 c A k D E B C H J K L N M O P S T U Y Z W V ae X aa ab ad af ag ah ai al am ap au aw aP aQ aR aS aZ bz bA e (Y8 c i o A k G D E B C H J K L N M O P S T U Y Z W V ae X aa ab ad af ag ah ai al am ap au aw aP aQ aR aS aZ bz bA w F x R Q)) (fun s => Y8 c i o A k G D E B C H J K L N M O P S T U Y Z W V ae X aa ab ad af ag ah ai al am ap au aw aP aQ aR aS aZ bz bA w F x R Q = Y8 c i o A k G D E B C H J K L N M O P S T U Y Z W V ae X aa ab ad af ag ah ai al am ap au aw aP aQ aR aS aZ bz bA s.1 s.2.1 s.2.2.1 s.2.2.2.1 s.2.2.2.2) r := by
 unfold W9 at h
 apply bi h <;> intro h1 h
 ·
  apply bn h; intro x2 h2 h
  have q0 := ((igr ZF h2) : idxA 4 (.p (.lst 4 (Zb k.kids))) (i6 R) = some (.ro (cBx x2)))
  have k1 := ka [(27, .d true), (28, .v (.ro (cBx x2)))] (av h1 (apc q0 apn))
  apply bi h <;> intro h3 h
  ·
   apply bi h <;> intro h4 h
   ·
    apply bn h; intro x5 h5 h
    rw [← sj h]
    exact rn ([(37, .r (.sl 1 w 7 0 (F + 1)) (Ro c i o k D E B C H J K L N M O P S T U Y Z W V ae X aa ab ad af ag ah ai al am ap au aw aP aQ aR aS aZ bz bA w Q F x2 x)), (44, .v (.ro [.val (.int .i64 x5)])), (6000, .d true)] ++ kH k1) (k1.b (apc ((X0 (e := Za) (xs := Q) (news := [(⟨x2.kind, x2.text, x2.n, x2.kids, i, o, x⟩ : ThingD)]) rfl (ZA (e := Za) (xs := [(⟨x2.kind, x2.text, x2.n, x2.kids, i, o, x⟩ : ThingD)]) rfl) rfl h3 h4) : appA (Rp c i o k D E B C H J K L N M O P S T U Y Z W V ae X aa ab ad af ag ah ai al am ap au aw aP aQ aR aS aZ bz bA w Q x2 x) 77 7 80 (.sl 1 w 7 0 F) (.sl 22 0 7 0 1) = some ((.sl 1 w 7 0 (F + 1)), Ro c i o k D E B C H J K L N M O P S T U Y Z W V ae X aa ab ad af ag ah ai al am ap au aw aP aQ aR aS aZ bz bA w Q F x2 x)) (apc (ig eI64 1 .i64 h5) (apc (U1 c i o A k G D E B C H J K L N M O P S T U Y Z W V ae X aa ab ad af ag ah ai al am ap au aw aP aQ aR aS aZ bz bA w (F + 1) (w6 (x + x5)) (w6 (R + 1)) (splice Q F [(⟨x2.kind, x2.text, x2.n, x2.kids, i, o, x⟩ : ThingD)])) apn))))
   ·
    apply bn h; intro x5 h5 h
    rw [← sj h]
    exact rn ([(37, .r (.sl 1 (w + 1) 7 0 (F + 1)) (Rq c i o k D E B C H J K L N M O P S T U Y Z W V ae X aa ab ad af ag ah ai al am ap au aw aP aQ aR aS aZ bz bA w Q F x2 x)), (44, .v (.ro [.val (.int .i64 x5)])), (6000, .d true)] ++ kH k1) (k1.b (apc ((Yk (e := Za) (xs := Q) (news := [(⟨x2.kind, x2.text, x2.n, x2.kids, i, o, x⟩ : ThingD)]) rfl (ZA (e := Za) (xs := [(⟨x2.kind, x2.text, x2.n, x2.kids, i, o, x⟩ : ThingD)]) rfl) rfl h3 h4) : appA (Rp c i o k D E B C H J K L N M O P S T U Y Z W V ae X aa ab ad af ag ah ai al am ap au aw aP aQ aR aS aZ bz bA w Q x2 x) 77 7 80 (.sl 1 w 7 0 F) (.sl 22 0 7 0 1) = some ((.sl 1 (w + 1) 7 0 (F + 1)), Rq c i o k D E B C H J K L N M O P S T U Y Z W V ae X aa ab ad af ag ah ai al am ap au aw aP aQ aR aS aZ bz bA w Q F x2 x)) (apc (ig eI64 1 .i64 h5) (apc (U1 c i o A k G D E B C H J K L N M O P S T U Y Z W V ae X aa ab ad af ag ah ai al am ap au aw aP aQ aR aS aZ bz bA (w + 1) (F + 1) (w6 (x + x5)) (w6 (R + 1)) (Q.take F ++ [(⟨x2.kind, x2.text, x2.n, x2.kids, i, o, x⟩ : ThingD)])) apn))))
  ·
   cases h
 ·
  rw [← sj h]
  exact xb [(27, .d false), (6000, .d true)] (av h1 apn)
theorem NF (s0 : Nat × Nat × Int × Int × Tqq) (e : E_L37_1_15) (h : runL (fun s => W9 i o k G K s.1 s.2.1 s.2.2.1 s.2.2.2.1 s.2.2.2.2) s0 = some e) : U2 c A k D E B C H J K L N M O P S T U Y Z W V ae X aa ab ad af ag ah ai al am ap au aw aP aQ aR aS aZ bz bA e (Y8 c i o A k G D E B C H J K L N M O P S T U Y Z W V ae X aa ab ad af ag ah ai al am ap au aw aP aQ aR aS aZ bz bA s0.1 s0.2.1 s0.2.2.1 s0.2.2.2.1 s0.2.2.2.2) := by
  have q := @Zg (Nat × Nat × Int × Int × Tqq) E_L37_1_15 (fun s => W9 i o k G K s.1 s.2.1 s.2.2.1 s.2.2.2.1 s.2.2.2.2) (fun s => Y8 c i o A k G D E B C H J K L N M O P S T U Y Z W V ae X aa ab ad af ag ah ai al am ap au aw aP aQ aR aS aZ bz bA s.1 s.2.1 s.2.2.1 s.2.2.2.1 s.2.2.2.2) (U2 c A k D E B C H J K L N M O P S T U Y Z W V ae X aa ab ad af ag ah ai al am ap au aw aP aQ aR aS aZ bz bA) (fun s r h => M3 c i o A k G D E B C H J K L N M O P S T U Y Z W V ae X aa ab ad af ag ah ai al am ap au aw aP aQ aR aS aZ bz bA s.1 s.2.1 s.2.2.1 s.2.2.2.1 s.2.2.2.2 h) s0 e h
  exact q
end
inductive E_L37_0_15 where
  | k0 (x0 : Tqq)
section
variable (c j : Nat) (u : BoxD) (k : Bool) (G D I E : Nat) (B : Oqq) (C : Iqq) (H J : Int) (K : Bool) (L : Iqq) (N : Nat) (M : Bqq) (O P S : ThingD) (T : Nat) (U : Tqq) (Y : Nat) (Z : Tqq) (W : Nat) (V : Tqq) (ae : Nat) (X : Int) (aa : Nat) (ab : Bqq) (ad : Int) (af : ByteArray) (ag ah ai al : Int) (am : Nat) (ap : Bqq) (au : Int) (aw : ByteArray) (aP aQ aR aS : Int) (aZ : ThingD)
def Va (w F : Int) (x : Tqq) : Option (E_L37_0_15 ⊕ (Int × Int × Tqq)) :=
  (bif (decide (w < F)) then ((ixN j F).bind fun x2 => ((x[x2]?).bind fun x3 => ((ixN j w).bind fun x4 => ((x[x4]?).bind fun x5 => (((x.set x4 (⟨x3.kind, x3.text, x3.n, x3.kids, x3.depth, x3.way, x3.at_⟩ : ThingD))[x2]?).bind fun x6 => (some (.inr ((IntKind.wrap .i64 (w + 1)), (IntKind.wrap .i64 (F - 1)), ((x.set x4 (⟨x3.kind, x3.text, x3.n, x3.kids, x3.depth, x3.way, x3.at_⟩ : ThingD)).set x2 (⟨x5.kind, x5.text, x5.n, x5.kids, x5.depth, x5.way, x5.at_⟩ : ThingD)))))))))) else (some (.inl (.k0 x))))
def QT (w F : Int) (x : Tqq) : St := ⟨fr 74 ug [(1, .sl 1 c 7 0 j), (15, i6 w), (16, i6 F)], [.cells 28 ((cBx u).map .p), yT c x, .cells 83 [sp k 2 0, .sl 3 G 1 0 D, .sl 1 I 7 0 E, ls 1 Zc B, ls 1 eI64 C, i6 H, i6 J, vb K], yU G L, .row 28 4 N (ra cBx M), .cells 77 ((Za O).map .p), .cells 73 [.ptr 2 0], .cells 77 ((Za P).map .p), .cells 77 ((Za S).map .p), yT T U, yT Y Z, yT W V, .cells 78 [.sl 10 Y 7 0 ae], .cells 3 [i6 X], .row 28 4 aa (ra cBx ab), .cells 77 [i6 ad, vs af, i6 ag, n0, i6 ah, i6 ai, i6 al], .row 28 4 am (ra cBx ap), .cells 77 [i6 au, vs aw, i6 aP, n0, i6 aQ, i6 aR, i6 aS], .cells 77 ((Za aZ).map .p), yT0]⟩
theorem QU (w F : Int) (x : Tqq) : okT 20 (QT c j u k G D I E B C H J K L N M O P S T U Y Z W V ae X aa ab ad af ag ah ai al am ap au aw aP aQ aR aS aZ w F x).h = true := (ZE rfl (ac (ar (Zv (Z8 rfl (Ze rfl (Ze rfl (Ze rfl (Ze rfl (Ze rfl (Ze rfl (Ze rfl rfl)))))))) (ar (ar (ac (ac (ac (ac (ar (ar (ar (ac (ac (ar (ac (ar (ac (ac (ar rfl)))))))))))))))))))))
abbrev Y9 (w F : Int) (x : Tqq) := evH prg 20 [1, 15, 16] XK (QT c j u k G D I E B C H J K L N M O P S T U Y Z W V ae X aa ab ad af ag ah ai al am ap au aw aP aQ aR aS aZ w F x)
def U3 (e : E_L37_0_15) (r : Option (Out × St)) : Prop := match e with | .k0 x0 => ∃ g, r = some ((.brk 2), ⟨fr 74 g [(1, .sl 1 c 7 0 j)], [.cells 28 ((cBx u).map .p), yT c x0, .cells 83 [sp k 2 0, .sl 3 G 1 0 D, .sl 1 I 7 0 E, ls 1 Zc B, ls 1 eI64 C, i6 H, i6 J, vb K], yU G L, .row 28 4 N (ra cBx M), .cells 77 ((Za O).map .p), .cells 73 [.ptr 2 0], .cells 77 ((Za P).map .p), .cells 77 ((Za S).map .p), yT T U, yT Y Z, yT W V, .cells 78 [.sl 10 Y 7 0 ae], .cells 3 [i6 X], .row 28 4 aa (ra cBx ab), .cells 77 [i6 ad, vs af, i6 ag, n0, i6 ah, i6 ai, i6 al], .row 28 4 am (ra cBx ap), .cells 77 [i6 au, vs aw, i6 aP, n0, i6 aQ, i6 aR, i6 aS], .cells 77 ((Za aZ).map .p), yT0]⟩)
abbrev VP (x : Tqq) (x4 : Nat) (x3 : ThingD) : List AB := [.cells 28 ((cBx u).map .p), yT c (x.set x4 (⟨x3.kind, x3.text, x3.n, x3.kids, x3.depth, x3.way, x3.at_⟩ : ThingD)), .cells 83 [sp k 2 0, .sl 3 G 1 0 D, .sl 1 I 7 0 E, ls 1 Zc B, ls 1 eI64 C, i6 H, i6 J, vb K], yU G L, .row 28 4 N (ra cBx M), .cells 77 ((Za O).map .p), .cells 73 [.ptr 2 0], .cells 77 ((Za P).map .p), .cells 77 ((Za S).map .p), yT T U, yT Y Z, yT W V, .cells 78 [.sl 10 Y 7 0 ae], .cells 3 [i6 X], .row 28 4 aa (ra cBx ab), .cells 77 [i6 ad, vs af, i6 ag, n0, i6 ah, i6 ai, i6 al], .row 28 4 am (ra cBx ap), .cells 77 [i6 au, vs aw, i6 aP, n0, i6 aQ, i6 aR, i6 aS], .cells 77 ((Za aZ).map .p), yT0]
abbrev Rr (x : Tqq) (x4 : Nat) (x3 : ThingD) (x2 : Nat) (x5 : ThingD) : List AB := [.cells 28 ((cBx u).map .p), yT c ((x.set x4 (⟨x3.kind, x3.text, x3.n, x3.kids, x3.depth, x3.way, x3.at_⟩ : ThingD)).set x2 (⟨x5.kind, x5.text, x5.n, x5.kids, x5.depth, x5.way, x5.at_⟩ : ThingD)), .cells 83 [sp k 2 0, .sl 3 G 1 0 D, .sl 1 I 7 0 E, ls 1 Zc B, ls 1 eI64 C, i6 H, i6 J, vb K], yU G L, .row 28 4 N (ra cBx M), .cells 77 ((Za O).map .p), .cells 73 [.ptr 2 0], .cells 77 ((Za P).map .p), .cells 77 ((Za S).map .p), yT T U, yT Y Z, yT W V, .cells 78 [.sl 10 Y 7 0 ae], .cells 3 [i6 X], .row 28 4 aa (ra cBx ab), .cells 77 [i6 ad, vs af, i6 ag, n0, i6 ah, i6 ai, i6 al], .row 28 4 am (ra cBx ap), .cells 77 [i6 au, vs aw, i6 aP, n0, i6 aQ, i6 aR, i6 aS], .cells 77 ((Za aZ).map .p), yT0]
abbrev VQ (x : Tqq) : List AB := [.cells 28 ((cBx u).map .p), yT c x, .cells 83 [sp k 2 0, .sl 3 G 1 0 D, .sl 1 I 7 0 E, ls 1 Zc B, ls 1 eI64 C, i6 H, i6 J, vb K], yU G L, .row 28 4 N (ra cBx M), .cells 77 ((Za O).map .p), .cells 73 [.ptr 2 0], .cells 77 ((Za P).map .p), .cells 77 ((Za S).map .p), yT T U, yT Y Z, yT W V, .cells 78 [.sl 10 Y 7 0 ae], .cells 3 [i6 X], .row 28 4 aa (ra cBx ab), .cells 77 [i6 ad, vs af, i6 ag, n0, i6 ah, i6 ai, i6 al], .row 28 4 am (ra cBx ap), .cells 77 [i6 au, vs aw, i6 aP, n0, i6 aQ, i6 aR, i6 aS], .cells 77 ((Za aZ).map .p), yT0]
theorem M4 (w F : Int) (x : Tqq) {r : E_L37_0_15 ⊕ (Int × Int × Tqq)} (h : Va j w F x = some r) : OkR (fun e => U3 c j u k G D I E B C H J K L N M O P S T U Y Z W V ae X aa ab ad af ag ah ai al am ap au aw aP aQ aR aS aZ e (Y9 c j u k G D I E B C H J K L N M O P S T U Y Z W V ae X aa ab ad af ag ah ai al am ap au aw aP aQ aR aS aZ w F x)) (fun s => Y9 c j u k G D I E B C H J K L N M O P S T U Y Z W V ae X aa ab ad af ag ah ai al am ap au aw aP aQ aR aS aZ w F x = Y9 c j u k G D I E B C H J K L N M O P S T U Y Z W V ae X aa ab ad af ag ah ai al am ap au aw aP aQ aR aS aZ s.1 s.2.1 s.2.2) r := by
 unfold Va at h
 apply bi h <;> intro h1 h
 ·
  apply bn h; intro x2 h2 h
  have q0 := ((ZP h2) : idxA 7 (.sl 1 c 7 0 j) (i6 F) = some (.rp 1 c 7 x2 0))
  apply bn h; intro x3 h3 h
  apply bn h; intro x4 h4 h
  have q1 := ((ZP h4) : idxA 7 (.sl 1 c 7 0 j) (i6 w) = some (.rp 1 c 7 x4 0))
  apply bn h; intro x5 h5 h
  apply bn h; intro x6 h6 h
  rw [← sj h]
  exact rn [(54, .d true), (65, .v (.rp 1 c 7 x2 0)), (66, .v (.agg ((Za x3).map .p))), (69, .v (.rp 1 c 7 x4 0)), (70, .v (.agg ((Za x5).map .p))), (71, .v (.rp 1 c 7 x4 0)), (1071, .r ud (VP c u k G D I E B C H J K L N M O P S T U Y Z W V ae X aa ab ad af ag ah ai al am ap au aw aP aQ aR aS aZ x x4 x3)), (72, .v (.rp 1 c 7 x2 0)), (1072, .r ud (Rr c u k G D I E B C H J K L N M O P S T U Y Z W V ae X aa ab ad af ag ah ai al am ap au aw aP aQ aR aS aZ x x4 x3 x2 x5)), (6000, .d true)] (av h1 (apc q0 (apc ((Z6 rfl h3 rfl) : ldA (VQ c u k G D I E B C H J K L N M O P S T U Y Z W V ae X aa ab ad af ag ah ai al am ap au aw aP aQ aR aS aZ x) .true 7 (.rp 1 c 7 x2 0) = some (.agg ((Za x3).map .p))) (apc q1 (apc ((Z6 rfl h5 rfl) : ldA (VQ c u k G D I E B C H J K L N M O P S T U Y Z W V ae X aa ab ad af ag ah ai al am ap au aw aP aQ aR aS aZ x) .true 7 (.rp 1 c 7 x4 0) = some (.agg ((Za x5).map .p))) (apc q1 (apc (⟨ZZ (v' := (⟨x3.kind, x3.text, x3.n, x3.kids, x3.depth, x3.way, x3.at_⟩ : ThingD)) rfl h5 rfl rfl (Nat.le_of_ble_eq_true rfl) rfl, rfl⟩ : stA (VQ c u k G D I E B C H J K L N M O P S T U Y Z W V ae X aa ab ad af ag ah ai al am ap au aw aP aQ aR aS aZ x) 7 (.rp 1 c 7 x4 0) (.agg ((Za x3).map .p)) = some (VP c u k G D I E B C H J K L N M O P S T U Y Z W V ae X aa ab ad af ag ah ai al am ap au aw aP aQ aR aS aZ x x4 x3) ∧ ud = ud) (apc q0 (apc (⟨ZZ (v' := (⟨x5.kind, x5.text, x5.n, x5.kids, x5.depth, x5.way, x5.at_⟩ : ThingD)) rfl h6 rfl rfl (Nat.le_of_ble_eq_true rfl) rfl, rfl⟩ : stA (VP c u k G D I E B C H J K L N M O P S T U Y Z W V ae X aa ab ad af ag ah ai al am ap au aw aP aQ aR aS aZ x x4 x3) 7 (.rp 1 c 7 x2 0) (.agg ((Za x5).map .p)) = some (Rr c u k G D I E B C H J K L N M O P S T U Y Z W V ae X aa ab ad af ag ah ai al am ap au aw aP aQ aR aS aZ x x4 x3 x2 x5) ∧ ud = ud) (apc (QU c j u k G D I E B C H J K L N M O P S T U Y Z W V ae X aa ab ad af ag ah ai al am ap au aw aP aQ aR aS aZ (w6 (w + 1)) (w6 (F - 1)) ((x.set x4 (⟨x3.kind, x3.text, x3.n, x3.kids, x3.depth, x3.way, x3.at_⟩ : ThingD)).set x2 (⟨x5.kind, x5.text, x5.n, x5.kids, x5.depth, x5.way, x5.at_⟩ : ThingD))) apn))))))))))
 ·
  rw [← sj h]
  exact xb [(54, .d false), (6000, .d true)] (av h1 apn)
theorem NG (s0 : Int × Int × Tqq) (e : E_L37_0_15) (h : runL (fun s => Va j s.1 s.2.1 s.2.2) s0 = some e) : U3 c j u k G D I E B C H J K L N M O P S T U Y Z W V ae X aa ab ad af ag ah ai al am ap au aw aP aQ aR aS aZ e (Y9 c j u k G D I E B C H J K L N M O P S T U Y Z W V ae X aa ab ad af ag ah ai al am ap au aw aP aQ aR aS aZ s0.1 s0.2.1 s0.2.2) := by
  have q := @Zg (Int × Int × Tqq) E_L37_0_15 (fun s => Va j s.1 s.2.1 s.2.2) (fun s => Y9 c j u k G D I E B C H J K L N M O P S T U Y Z W V ae X aa ab ad af ag ah ai al am ap au aw aP aQ aR aS aZ s.1 s.2.1 s.2.2) (U3 c j u k G D I E B C H J K L N M O P S T U Y Z W V ae X aa ab ad af ag ah ai al am ap au aw aP aQ aR aS aZ) (fun s r h => M4 c j u k G D I E B C H J K L N M O P S T U Y Z W V ae X aa ab ad af ag ah ai al am ap au aw aP aQ aR aS aZ s.1 s.2.1 s.2.2 h) s0 e h
  exact q
end
inductive R_F37_15 where
  | k0 (x0 x1 : Nat) (x2 : Tqq)
def Fq (c j : Nat) (i : ThingD) (o u : Int) (A : BoxD) (k : Tqq) (G : Bool) (D I E : Nat) (B : Oqq) (C : Iqq) (H J : Int) (K : Bool) (L : Iqq) (N : Nat) (M : Bqq) (O P S : ThingD) (T : Nat) (U : Tqq) (Y : Nat) (Z : Tqq) (W : Nat) (V : Tqq) (ae : Nat) (X : Int) (aa : Nat) (ab : Bqq) (ad : Int) (af : ByteArray) (ag ah ai al : Int) (am : Nat) (ap : Bqq) (au : Int) (aw : ByteArray) (aP aQ aR aS : Int) (r : R_F37_15) : AV := match r with | .k0 x0 x1 x2 => (.sl 1 x0 7 0 x1)
def Fr (c j : Nat) (i : ThingD) (o u : Int) (A : BoxD) (k : Tqq) (G : Bool) (D I E : Nat) (B : Oqq) (C : Iqq) (H J : Int) (K : Bool) (L : Iqq) (N : Nat) (M : Bqq) (O P S : ThingD) (T : Nat) (U : Tqq) (Y : Nat) (Z : Tqq) (W : Nat) (V : Tqq) (ae : Nat) (X : Int) (aa : Nat) (ab : Bqq) (ad : Int) (af : ByteArray) (ag ah ai al : Int) (am : Nat) (ap : Bqq) (au : Int) (aw : ByteArray) (aP aQ aR aS : Int) (r : R_F37_15) : List AB := match r with | .k0 x0 x1 x2 => [.cells 28 ((cBx A).map .p), yT x0 x2, .cells 83 [sp G 2 0, .sl 3 D 1 0 I, .sl 1 c 7 0 E, ls 1 Zc B, ls 1 eI64 C, i6 H, i6 J, vb K], yU D L, .row 28 4 N (ra cBx M), .cells 77 ((Za O).map .p), .cells 73 [.ptr 2 0], .cells 77 ((Za P).map .p), .cells 77 ((Za S).map .p), yT T U, yT Y Z, yT W V, .cells 78 [.sl 10 Y 7 0 ae], .cells 3 [i6 X], .row 28 4 aa (ra cBx ab), .cells 77 [i6 ad, vs af, i6 ag, n0, i6 ah, i6 ai, i6 al], .row 28 4 am (ra cBx ap), .cells 77 [i6 au, vs aw, i6 aP, n0, i6 aQ, i6 aR, i6 aS], .cells 77 ((Za i).map .p), yT0]
def QV (c j : Nat) (i : ThingD) (o u : Int) (k : Tqq) (C : Iqq) : Option R_F37_15 :=
  ((runL (fun s => W9 o u i (i.kids.length : Int) C s.1 s.2.1 s.2.2.1 s.2.2.2.1 s.2.2.2.2) (c, j, (IntKind.wrap .i64 (i.at_ + 1)), 0, k)).bind fun r1 => match r1 with | .k0 ak aj an => ((runL (fun s => Va aj s.1 s.2.1 s.2.2) (((j : Nat) : Int), (IntKind.wrap .i64 (((aj : Nat) : Int) - 1)), an)).bind fun r2 => match r2 with | .k0 ao => (some (.k0 ak aj ao))))
abbrev NH (g1 : Nat → AV) (ak aj j : Nat) (i : ThingD) (A : BoxD) (an : Tqq) (G : Bool) (D I c E : Nat) (B : Oqq) (C : Iqq) (H J : Int) (K : Bool) (L : Iqq) (N : Nat) (M : Bqq) (O P S : ThingD) (T : Nat) (U : Tqq) (Y : Nat) (Z : Tqq) (W : Nat) (V : Tqq) (ae : Nat) (X : Int) (aa : Nat) (ab : Bqq) (ad : Int) (af : ByteArray) (ag ah ai al : Int) (am : Nat) (ap : Bqq) (au : Int) (aw : ByteArray) (aP aQ aR aS : Int) : St := ⟨fr 74 g1 [(1, .sl 1 ak 7 0 aj), (12, (i6 ((j : Nat) : Int))), (24, (.p (.lst 4 (Zb i.kids))))], [.cells 28 ((cBx A).map .p), yT ak an, .cells 83 [sp G 2 0, .sl 3 D 1 0 I, .sl 1 c 7 0 E, ls 1 Zc B, ls 1 eI64 C, i6 H, i6 J, vb K], yU D L, .row 28 4 N (ra cBx M), .cells 77 ((Za O).map .p), .cells 73 [.ptr 2 0], .cells 77 ((Za P).map .p), .cells 77 ((Za S).map .p), yT T U, yT Y Z, yT W V, .cells 78 [.sl 10 Y 7 0 ae], .cells 3 [i6 X], .row 28 4 aa (ra cBx ab), .cells 77 [i6 ad, vs af, i6 ag, n0, i6 ah, i6 ai, i6 al], .row 28 4 am (ra cBx ap), .cells 77 [i6 au, vs aw, i6 aP, n0, i6 aQ, i6 aR, i6 aS], .cells 77 ((Za i).map .p), yT0]⟩
abbrev NI (g2 : Nat → AV) (ak aj : Nat) (A : BoxD) (ao : Tqq) (G : Bool) (D I c E : Nat) (B : Oqq) (C : Iqq) (H J : Int) (K : Bool) (L : Iqq) (N : Nat) (M : Bqq) (O P S : ThingD) (T : Nat) (U : Tqq) (Y : Nat) (Z : Tqq) (W : Nat) (V : Tqq) (ae : Nat) (X : Int) (aa : Nat) (ab : Bqq) (ad : Int) (af : ByteArray) (ag ah ai al : Int) (am : Nat) (ap : Bqq) (au : Int) (aw : ByteArray) (aP aQ aR aS : Int) (i : ThingD) : St := ⟨fr 74 g2 [(1, .sl 1 ak 7 0 aj)], [.cells 28 ((cBx A).map .p), yT ak ao, .cells 83 [sp G 2 0, .sl 3 D 1 0 I, .sl 1 c 7 0 E, ls 1 Zc B, ls 1 eI64 C, i6 H, i6 J, vb K], yU D L, .row 28 4 N (ra cBx M), .cells 77 ((Za O).map .p), .cells 73 [.ptr 2 0], .cells 77 ((Za P).map .p), .cells 77 ((Za S).map .p), yT T U, yT Y Z, yT W V, .cells 78 [.sl 10 Y 7 0 ae], .cells 3 [i6 X], .row 28 4 aa (ra cBx ab), .cells 77 [i6 ad, vs af, i6 ag, n0, i6 ah, i6 ai, i6 al], .row 28 4 am (ra cBx ap), .cells 77 [i6 au, vs aw, i6 aP, n0, i6 aQ, i6 aR, i6 aS], .cells 77 ((Za i).map .p), yT0]⟩
theorem NJ (c j : Nat) (i : ThingD) (o u : Int) (A : BoxD) (k : Tqq) (G : Bool) (D I E : Nat) (B : Oqq) (C : Iqq) (H J : Int) (K : Bool) (L : Iqq) (N : Nat) (M : Bqq) (O P S : ThingD) (T : Nat) (U : Tqq) (Y : Nat) (Z : Tqq) (W : Nat) (V : Tqq) (ae : Nat) (X : Int) (aa : Nat) (ab : Bqq) (ad : Int) (af : ByteArray) (ag ah ai al : Int) (am : Nat) (ap : Bqq) (au : Int) (aw : ByteArray) (aP aQ aR aS : Int) {r : R_F37_15} (h : QV c j i o u k C = some r) : CS prg 55 [.ptr 2 0, .sl 1 c 7 0 j, (.agg ((Za i).map .p)), i6 o, i6 u] [.cells 28 ((cBx A).map .p), yT c k, .cells 83 [sp G 2 0, .sl 3 D 1 0 I, .sl 1 c 7 0 E, ls 1 Zc B, ls 1 eI64 C, i6 H, i6 J, vb K], yU D L, .row 28 4 N (ra cBx M), .cells 77 ((Za O).map .p), .cells 73 [.ptr 2 0], .cells 77 ((Za P).map .p), .cells 77 ((Za S).map .p), yT T U, yT Y Z, yT W V, .cells 78 [.sl 10 Y 7 0 ae], .cells 3 [i6 X], .row 28 4 aa (ra cBx ab), .cells 77 [i6 ad, vs af, i6 ag, n0, i6 ah, i6 ai, i6 al], .row 28 4 am (ra cBx ap), .cells 77 [i6 au, vs aw, i6 aP, n0, i6 aQ, i6 aR, i6 aS]] = some (Fq c j i o u A k G D I E B C H J K L N M O P S T U Y Z W V ae X aa ab ad af ag ah ai al am ap au aw aP aQ aR aS r, Fr c j i o u A k G D I E B C H J K L N M O P S T U Y Z W V ae X aa ab ad af ag ah ai al am ap au aw aP aQ aR aS r) := by
 unfold QV at h
 apply bn h; intro r1 h1 h
 cases r1 with
 | k0 ak aj an =>
  obtain ⟨g1, e1⟩ := NF c o u ((j : Nat) : Int) i (i.kids.length : Int) A G D I E B C H J K L N M O P S T U Y Z W V ae X aa ab ad af ag ah ai al am ap au aw aP aQ aR aS (c, j, (w6 (i.at_ + 1)), 0, k) _ h1
  apply bn h; intro r2 h2 h
  cases r2 with
  | k0 ao =>
   obtain ⟨g2, e2⟩ := NG ak aj A G D I c E B C H J K L N M O P S T U Y Z W V ae X aa ab ad af ag ah ai al am ap au aw aP aQ aR aS i (((j : Nat) : Int), (w6 (((aj : Nat) : Int) - 1)), an) _ h2
   rw [← sj h]
   exact fc [(25, .v (i6 (i.kids.length : Int))), (2000, .l (.brk 0) (NH g1 ak aj j i A an G D I c E B C H J K L N M O P S T U Y Z W V ae X aa ab ad af ag ah ai al am ap au aw aP aQ aR aS)), (2002, .l (.brk 2) (NI g2 ak aj A ao G D I c E B C H J K L N M O P S T U Y Z W V ae X aa ab ad af ag ah ai al am ap au aw aP aQ aR aS i)), (6000, .d true)] (apc ((lgr ZF) : lnA (.p (.lst 4 (Zb i.kids))) = some (i6 (i.kids.length : Int))) (apc (U1 c o u ((j : Nat) : Int) i (i.kids.length : Int) A G D I E B C H J K L N M O P S T U Y Z W V ae X aa ab ad af ag ah ai al am ap au aw aP aQ aR aS c j (w6 (i.at_ + 1)) 0 k) (apc (e1 : Y8 c o u ((j : Nat) : Int) i (i.kids.length : Int) A G D I E B C H J K L N M O P S T U Y Z W V ae X aa ab ad af ag ah ai al am ap au aw aP aQ aR aS c j (w6 (i.at_ + 1)) 0 k = some ((.brk 0), NH g1 ak aj j i A an G D I c E B C H J K L N M O P S T U Y Z W V ae X aa ab ad af ag ah ai al am ap au aw aP aQ aR aS)) (apc (QU ak aj A G D I c E B C H J K L N M O P S T U Y Z W V ae X aa ab ad af ag ah ai al am ap au aw aP aQ aR aS i ((j : Nat) : Int) (w6 (((aj : Nat) : Int) - 1)) an) (apc (e2 : Y9 ak aj A G D I c E B C H J K L N M O P S T U Y Z W V ae X aa ab ad af ag ah ai al am ap au aw aP aQ aR aS i ((j : Nat) : Int) (w6 (((aj : Nat) : Int) - 1)) an = some ((.brk 2), NI g2 ak aj A ao G D I c E B C H J K L N M O P S T U Y Z W V ae X aa ab ad af ag ah ai al am ap au aw aP aQ aR aS i)) apn)))))
inductive E_L37_1_16 where
  | k0 (x0 x1 : Nat) (x2 : Tqq)
section
variable (c : Nat) (i o A : Int) (k : ThingD) (G : Int) (D : BoxD) (E : Bool) (B C H : Nat) (J : Oqq) (K : Iqq) (L N : Int) (M : Bool) (O : Iqq) (P : Nat) (S : Bqq) (T U Y : ThingD) (Z : Nat) (W : Tqq) (V : Nat) (ae : Tqq) (X : Nat) (aa : Tqq) (ab : Nat) (ad : Int) (af : Nat) (ag : Bqq) (ah : ThingD) (ai : Nat) (al : Bqq) (am : ThingD)
def Vb (w F : Nat) (x R : Int) (Q : Tqq) : Option (E_L37_1_16 ⊕ (Nat × Nat × Int × Int × Tqq)) :=
  (bif (decide (R < G)) then ((getI k.kids R).bind fun x2 => (bif (apOk F 1 Q.length 80) then (bif (decide (F + 1 ≤ Q.length)) then ((getI K x).bind fun x5 => (some (.inr (w, F + 1, (IntKind.wrap .i64 (x + x5)), (IntKind.wrap .i64 (R + 1)), (splice Q F [(⟨x2.kind, x2.text, x2.n, x2.kids, i, o, x⟩ : ThingD)]))))) else ((getI K x).bind fun x5 => (some (.inr ((w + 1), F + 1, (IntKind.wrap .i64 (x + x5)), (IntKind.wrap .i64 (R + 1)), (Q.take F ++ [(⟨x2.kind, x2.text, x2.n, x2.kids, i, o, x⟩ : ThingD)])))))) else none)) else (some (.inl (.k0 w F Q))))
def QW (w F : Nat) (x R : Int) (Q : Tqq) : St := ⟨fr 74 ug [(0, .ptr 2 0), (1, .sl 1 w 7 0 F), (3, i6 i), (4, i6 o), (11, i6 x), (12, i6 A), (24, (.p (.lst 4 (Zb k.kids)))), (25, i6 G), (26, i6 R)], [.cells 28 ((cBx D).map .p), yT w Q, .cells 83 [sp E 2 0, .sl 3 B 1 0 C, .sl 1 c 7 0 H, ls 1 Zc J, ls 1 eI64 K, i6 L, i6 N, vb M], yU B O, .row 28 4 P (ra cBx S), .cells 77 ((Za T).map .p), .cells 73 [.ptr 2 0], .cells 77 ((Za U).map .p), .cells 77 ((Za Y).map .p), yT Z W, yT V ae, yT X aa, .cells 78 [.sl 10 V 7 0 ab], .cells 3 [i6 ad], .row 28 4 af (ra cBx ag), .cells 77 ((Za ah).map .p), .row 28 4 ai (ra cBx al), .cells 77 ((Za am).map .p), .cells 77 ((Za k).map .p), yT0]⟩
theorem U4 (w F : Nat) (x R : Int) (Q : Tqq) : okT 20 (QW c i o A k G D E B C H J K L N M O P S T U Y Z W V ae X aa ab ad af ag ah ai al am w F x R Q).h = true := (ZE rfl (ac (ar (Zv (Z8 rfl (Ze rfl (Ze rfl (Ze rfl (Ze rfl (Ze rfl (Ze rfl (Ze rfl rfl)))))))) (ar (ar (ac (ac (ac (ac (ar (ar (ar (ac (ac (ar (ac (ar (ac (ac (ar rfl)))))))))))))))))))))
abbrev Xa (w F : Nat) (x R : Int) (Q : Tqq) := evH prg 20 [0, 1, 3, 4, 11, 12, 24, 25, 26, 1000199007707] XL (QW c i o A k G D E B C H J K L N M O P S T U Y Z W V ae X aa ab ad af ag ah ai al am w F x R Q)
def U5 (e : E_L37_1_16) (r : Option (Out × St)) : Prop := match e with | .k0 x0 x1 x2 => ∃ g, r = some ((.brk 0), ⟨fr 74 g [(1, .sl 1 x0 7 0 x1), (12, i6 A), (24, (.p (.lst 4 (Zb k.kids))))], [.cells 28 ((cBx D).map .p), yT x0 x2, .cells 83 [sp E 2 0, .sl 3 B 1 0 C, .sl 1 c 7 0 H, ls 1 Zc J, ls 1 eI64 K, i6 L, i6 N, vb M], yU B O, .row 28 4 P (ra cBx S), .cells 77 ((Za T).map .p), .cells 73 [.ptr 2 0], .cells 77 ((Za U).map .p), .cells 77 ((Za Y).map .p), yT Z W, yT V ae, yT X aa, .cells 78 [.sl 10 V 7 0 ab], .cells 3 [i6 ad], .row 28 4 af (ra cBx ag), .cells 77 ((Za ah).map .p), .row 28 4 ai (ra cBx al), .cells 77 ((Za am).map .p), .cells 77 ((Za k).map .p), yT0]⟩)
abbrev Rs (w : Nat) (Q : Tqq) (F : Nat) (x2 : BoxD) (x : Int) : List AB := [.cells 28 ((cBx D).map .p), yT w (splice Q F [(⟨x2.kind, x2.text, x2.n, x2.kids, i, o, x⟩ : ThingD)]), .cells 83 [sp E 2 0, .sl 3 B 1 0 C, .sl 1 c 7 0 H, ls 1 Zc J, ls 1 eI64 K, i6 L, i6 N, vb M], yU B O, .row 28 4 P (ra cBx S), .cells 77 ((Za T).map .p), .cells 73 [.ptr 2 0], .cells 77 ((Za U).map .p), .cells 77 ((Za Y).map .p), yT Z W, yT V ae, yT X aa, .cells 78 [.sl 10 V 7 0 ab], .cells 3 [i6 ad], .row 28 4 af (ra cBx ag), .cells 77 ((Za ah).map .p), .row 28 4 ai (ra cBx al), .cells 77 ((Za am).map .p), .cells 77 ((Za k).map .p), yT0, .row 28 4 0 (ra cBx []), .cells 28 ((cBx x2).map .p), .row 77 7 0 [[i6 x2.kind, vs x2.text, i6 x2.n, (.p (.lst 4 (Zb x2.kids))), i6 i, i6 o, i6 x]]]
abbrev Rt (w : Nat) (Q : Tqq) (x2 : BoxD) (x : Int) : List AB := [.cells 28 ((cBx D).map .p), yT w Q, .cells 83 [sp E 2 0, .sl 3 B 1 0 C, .sl 1 c 7 0 H, ls 1 Zc J, ls 1 eI64 K, i6 L, i6 N, vb M], yU B O, .row 28 4 P (ra cBx S), .cells 77 ((Za T).map .p), .cells 73 [.ptr 2 0], .cells 77 ((Za U).map .p), .cells 77 ((Za Y).map .p), yT Z W, yT V ae, yT X aa, .cells 78 [.sl 10 V 7 0 ab], .cells 3 [i6 ad], .row 28 4 af (ra cBx ag), .cells 77 ((Za ah).map .p), .row 28 4 ai (ra cBx al), .cells 77 ((Za am).map .p), .cells 77 ((Za k).map .p), yT0, .row 28 4 0 (ra cBx []), .cells 28 ((cBx x2).map .p), .row 77 7 0 [[i6 x2.kind, vs x2.text, i6 x2.n, (.p (.lst 4 (Zb x2.kids))), i6 i, i6 o, i6 x]]]
abbrev Ru (w : Nat) (Q : Tqq) (F : Nat) (x2 : BoxD) (x : Int) : List AB := [.cells 28 ((cBx D).map .p), yT (w + 1) (Q.take F ++ [(⟨x2.kind, x2.text, x2.n, x2.kids, i, o, x⟩ : ThingD)]), .cells 83 [sp E 2 0, .sl 3 B 1 0 C, .sl 1 c 7 0 H, ls 1 Zc J, ls 1 eI64 K, i6 L, i6 N, vb M], yU B O, .row 28 4 P (ra cBx S), .cells 77 ((Za T).map .p), .cells 73 [.ptr 2 0], .cells 77 ((Za U).map .p), .cells 77 ((Za Y).map .p), yT Z W, yT V ae, yT X aa, .cells 78 [.sl 10 V 7 0 ab], .cells 3 [i6 ad], .row 28 4 af (ra cBx ag), .cells 77 ((Za ah).map .p), .row 28 4 ai (ra cBx al), .cells 77 ((Za am).map .p), .cells 77 ((Za k).map .p), yT0, .row 28 4 0 (ra cBx []), .cells 28 ((cBx x2).map .p), .row 77 7 0 [[i6 x2.kind, vs x2.text, i6 x2.n, (.p (.lst 4 (Zb x2.kids))), i6 i, i6 o, i6 x]]]
theorem M5 (w F : Nat) (x R : Int) (Q : Tqq) {r : E_L37_1_16 ⊕ (Nat × Nat × Int × Int × Tqq)} (h : Vb i o k G K w F x R Q = some r) : OkR (fun e => U5 c A k D E B C H J K L N M O P S T U Y Z W V ae X aa ab ad af ag ah ai al am e (Xa c i o A k G D E B C H J K L N M O P S T U Y Z W V ae X aa ab ad af ag ah ai al am w F x R Q)) (fun s => Xa c i o A k G D E B C H J K L N M O P S T U Y Z W V ae X aa ab ad af ag ah ai al am w F x R Q = Xa c i o A k G D E B C H J K L N M O P S T U Y Z W V ae X aa ab ad af ag ah ai al am s.1 s.2.1 s.2.2.1 s.2.2.2.1 s.2.2.2.2) r := by
 unfold Vb at h
 apply bi h <;> intro h1 h
 ·
  apply bn h; intro x2 h2 h
  have q0 := ((igr ZF h2) : idxA 4 (.p (.lst 4 (Zb k.kids))) (i6 R) = some (.ro (cBx x2)))
  have k1 := ka [(27, .d true), (28, .v (.ro (cBx x2)))] (av h1 (apc q0 apn))
  apply bi h <;> intro h3 h
  ·
   apply bi h <;> intro h4 h
   ·
    apply bn h; intro x5 h5 h
    rw [← sj h]
    exact rn ([(37, .r (.sl 1 w 7 0 (F + 1)) (Rs c i o k D E B C H J K L N M O P S T U Y Z W V ae X aa ab ad af ag ah ai al am w Q F x2 x)), (44, .v (.ro [.val (.int .i64 x5)])), (6000, .d true)] ++ kH k1) (k1.b (apc ((X0 (e := Za) (xs := Q) (news := [(⟨x2.kind, x2.text, x2.n, x2.kids, i, o, x⟩ : ThingD)]) rfl (ZA (e := Za) (xs := [(⟨x2.kind, x2.text, x2.n, x2.kids, i, o, x⟩ : ThingD)]) rfl) rfl h3 h4) : appA (Rt c i o k D E B C H J K L N M O P S T U Y Z W V ae X aa ab ad af ag ah ai al am w Q x2 x) 77 7 80 (.sl 1 w 7 0 F) (.sl 22 0 7 0 1) = some ((.sl 1 w 7 0 (F + 1)), Rs c i o k D E B C H J K L N M O P S T U Y Z W V ae X aa ab ad af ag ah ai al am w Q F x2 x)) (apc (ig eI64 1 .i64 h5) (apc (U4 c i o A k G D E B C H J K L N M O P S T U Y Z W V ae X aa ab ad af ag ah ai al am w (F + 1) (w6 (x + x5)) (w6 (R + 1)) (splice Q F [(⟨x2.kind, x2.text, x2.n, x2.kids, i, o, x⟩ : ThingD)])) apn))))
   ·
    apply bn h; intro x5 h5 h
    rw [← sj h]
    exact rn ([(37, .r (.sl 1 (w + 1) 7 0 (F + 1)) (Ru c i o k D E B C H J K L N M O P S T U Y Z W V ae X aa ab ad af ag ah ai al am w Q F x2 x)), (44, .v (.ro [.val (.int .i64 x5)])), (6000, .d true)] ++ kH k1) (k1.b (apc ((Yk (e := Za) (xs := Q) (news := [(⟨x2.kind, x2.text, x2.n, x2.kids, i, o, x⟩ : ThingD)]) rfl (ZA (e := Za) (xs := [(⟨x2.kind, x2.text, x2.n, x2.kids, i, o, x⟩ : ThingD)]) rfl) rfl h3 h4) : appA (Rt c i o k D E B C H J K L N M O P S T U Y Z W V ae X aa ab ad af ag ah ai al am w Q x2 x) 77 7 80 (.sl 1 w 7 0 F) (.sl 22 0 7 0 1) = some ((.sl 1 (w + 1) 7 0 (F + 1)), Ru c i o k D E B C H J K L N M O P S T U Y Z W V ae X aa ab ad af ag ah ai al am w Q F x2 x)) (apc (ig eI64 1 .i64 h5) (apc (U4 c i o A k G D E B C H J K L N M O P S T U Y Z W V ae X aa ab ad af ag ah ai al am (w + 1) (F + 1) (w6 (x + x5)) (w6 (R + 1)) (Q.take F ++ [(⟨x2.kind, x2.text, x2.n, x2.kids, i, o, x⟩ : ThingD)])) apn))))
  ·
   cases h
 ·
  rw [← sj h]
  exact xb [(27, .d false), (6000, .d true)] (av h1 apn)
theorem NK (s0 : Nat × Nat × Int × Int × Tqq) (e : E_L37_1_16) (h : runL (fun s => Vb i o k G K s.1 s.2.1 s.2.2.1 s.2.2.2.1 s.2.2.2.2) s0 = some e) : U5 c A k D E B C H J K L N M O P S T U Y Z W V ae X aa ab ad af ag ah ai al am e (Xa c i o A k G D E B C H J K L N M O P S T U Y Z W V ae X aa ab ad af ag ah ai al am s0.1 s0.2.1 s0.2.2.1 s0.2.2.2.1 s0.2.2.2.2) := by
  have q := @Zg (Nat × Nat × Int × Int × Tqq) E_L37_1_16 (fun s => Vb i o k G K s.1 s.2.1 s.2.2.1 s.2.2.2.1 s.2.2.2.2) (fun s => Xa c i o A k G D E B C H J K L N M O P S T U Y Z W V ae X aa ab ad af ag ah ai al am s.1 s.2.1 s.2.2.1 s.2.2.2.1 s.2.2.2.2) (U5 c A k D E B C H J K L N M O P S T U Y Z W V ae X aa ab ad af ag ah ai al am) (fun s r h => M5 c i o A k G D E B C H J K L N M O P S T U Y Z W V ae X aa ab ad af ag ah ai al am s.1 s.2.1 s.2.2.1 s.2.2.2.1 s.2.2.2.2 h) s0 e h
  exact q
end
inductive E_L37_0_16 where
  | k0 (x0 : Tqq)
section
variable (c j : Nat) (u : BoxD) (k : Bool) (G D I E : Nat) (B : Oqq) (C : Iqq) (H J : Int) (K : Bool) (L : Iqq) (N : Nat) (M : Bqq) (O P S : ThingD) (T : Nat) (U : Tqq) (Y : Nat) (Z : Tqq) (W : Nat) (V : Tqq) (ae : Nat) (X : Int) (aa : Nat) (ab : Bqq) (ad : ThingD) (af : Nat) (ag : Bqq) (ah ai : ThingD)
def Vc (w F : Int) (x : Tqq) : Option (E_L37_0_16 ⊕ (Int × Int × Tqq)) :=
  (bif (decide (w < F)) then ((ixN j F).bind fun x2 => ((x[x2]?).bind fun x3 => ((ixN j w).bind fun x4 => ((x[x4]?).bind fun x5 => (((x.set x4 (⟨x3.kind, x3.text, x3.n, x3.kids, x3.depth, x3.way, x3.at_⟩ : ThingD))[x2]?).bind fun x6 => (some (.inr ((IntKind.wrap .i64 (w + 1)), (IntKind.wrap .i64 (F - 1)), ((x.set x4 (⟨x3.kind, x3.text, x3.n, x3.kids, x3.depth, x3.way, x3.at_⟩ : ThingD)).set x2 (⟨x5.kind, x5.text, x5.n, x5.kids, x5.depth, x5.way, x5.at_⟩ : ThingD)))))))))) else (some (.inl (.k0 x))))
def QX (w F : Int) (x : Tqq) : St := ⟨fr 74 ug [(1, .sl 1 c 7 0 j), (15, i6 w), (16, i6 F)], [.cells 28 ((cBx u).map .p), yT c x, .cells 83 [sp k 2 0, .sl 3 G 1 0 D, .sl 1 I 7 0 E, ls 1 Zc B, ls 1 eI64 C, i6 H, i6 J, vb K], yU G L, .row 28 4 N (ra cBx M), .cells 77 ((Za O).map .p), .cells 73 [.ptr 2 0], .cells 77 ((Za P).map .p), .cells 77 ((Za S).map .p), yT T U, yT Y Z, yT W V, .cells 78 [.sl 10 Y 7 0 ae], .cells 3 [i6 X], .row 28 4 aa (ra cBx ab), .cells 77 ((Za ad).map .p), .row 28 4 af (ra cBx ag), .cells 77 ((Za ah).map .p), .cells 77 ((Za ai).map .p), yT0]⟩
theorem QY (w F : Int) (x : Tqq) : okT 20 (QX c j u k G D I E B C H J K L N M O P S T U Y Z W V ae X aa ab ad af ag ah ai w F x).h = true := (ZE rfl (ac (ar (Zv (Z8 rfl (Ze rfl (Ze rfl (Ze rfl (Ze rfl (Ze rfl (Ze rfl (Ze rfl rfl)))))))) (ar (ar (ac (ac (ac (ac (ar (ar (ar (ac (ac (ar (ac (ar (ac (ac (ar rfl)))))))))))))))))))))
abbrev Xb (w F : Int) (x : Tqq) := evH prg 20 [1, 15, 16] XK (QX c j u k G D I E B C H J K L N M O P S T U Y Z W V ae X aa ab ad af ag ah ai w F x)
def U6 (e : E_L37_0_16) (r : Option (Out × St)) : Prop := match e with | .k0 x0 => ∃ g, r = some ((.brk 2), ⟨fr 74 g [(1, .sl 1 c 7 0 j)], [.cells 28 ((cBx u).map .p), yT c x0, .cells 83 [sp k 2 0, .sl 3 G 1 0 D, .sl 1 I 7 0 E, ls 1 Zc B, ls 1 eI64 C, i6 H, i6 J, vb K], yU G L, .row 28 4 N (ra cBx M), .cells 77 ((Za O).map .p), .cells 73 [.ptr 2 0], .cells 77 ((Za P).map .p), .cells 77 ((Za S).map .p), yT T U, yT Y Z, yT W V, .cells 78 [.sl 10 Y 7 0 ae], .cells 3 [i6 X], .row 28 4 aa (ra cBx ab), .cells 77 ((Za ad).map .p), .row 28 4 af (ra cBx ag), .cells 77 ((Za ah).map .p), .cells 77 ((Za ai).map .p), yT0]⟩)
abbrev VS (x : Tqq) (x4 : Nat) (x3 : ThingD) : List AB := [.cells 28 ((cBx u).map .p), yT c (x.set x4 (⟨x3.kind, x3.text, x3.n, x3.kids, x3.depth, x3.way, x3.at_⟩ : ThingD)), .cells 83 [sp k 2 0, .sl 3 G 1 0 D, .sl 1 I 7 0 E, ls 1 Zc B, ls 1 eI64 C, i6 H, i6 J, vb K], yU G L, .row 28 4 N (ra cBx M), .cells 77 ((Za O).map .p), .cells 73 [.ptr 2 0], .cells 77 ((Za P).map .p), .cells 77 ((Za S).map .p), yT T U, yT Y Z, yT W V, .cells 78 [.sl 10 Y 7 0 ae], .cells 3 [i6 X], .row 28 4 aa (ra cBx ab), .cells 77 ((Za ad).map .p), .row 28 4 af (ra cBx ag), .cells 77 ((Za ah).map .p), .cells 77 ((Za ai).map .p), yT0]
abbrev Rv (x : Tqq) (x4 : Nat) (x3 : ThingD) (x2 : Nat) (x5 : ThingD) : List AB := [.cells 28 ((cBx u).map .p), yT c ((x.set x4 (⟨x3.kind, x3.text, x3.n, x3.kids, x3.depth, x3.way, x3.at_⟩ : ThingD)).set x2 (⟨x5.kind, x5.text, x5.n, x5.kids, x5.depth, x5.way, x5.at_⟩ : ThingD)), .cells 83 [sp k 2 0, .sl 3 G 1 0 D, .sl 1 I 7 0 E, ls 1 Zc B, ls 1 eI64 C, i6 H, i6 J, vb K], yU G L, .row 28 4 N (ra cBx M), .cells 77 ((Za O).map .p), .cells 73 [.ptr 2 0], .cells 77 ((Za P).map .p), .cells 77 ((Za S).map .p), yT T U, yT Y Z, yT W V, .cells 78 [.sl 10 Y 7 0 ae], .cells 3 [i6 X], .row 28 4 aa (ra cBx ab), .cells 77 ((Za ad).map .p), .row 28 4 af (ra cBx ag), .cells 77 ((Za ah).map .p), .cells 77 ((Za ai).map .p), yT0]
abbrev VT (x : Tqq) : List AB := [.cells 28 ((cBx u).map .p), yT c x, .cells 83 [sp k 2 0, .sl 3 G 1 0 D, .sl 1 I 7 0 E, ls 1 Zc B, ls 1 eI64 C, i6 H, i6 J, vb K], yU G L, .row 28 4 N (ra cBx M), .cells 77 ((Za O).map .p), .cells 73 [.ptr 2 0], .cells 77 ((Za P).map .p), .cells 77 ((Za S).map .p), yT T U, yT Y Z, yT W V, .cells 78 [.sl 10 Y 7 0 ae], .cells 3 [i6 X], .row 28 4 aa (ra cBx ab), .cells 77 ((Za ad).map .p), .row 28 4 af (ra cBx ag), .cells 77 ((Za ah).map .p), .cells 77 ((Za ai).map .p), yT0]
theorem M6 (w F : Int) (x : Tqq) {r : E_L37_0_16 ⊕ (Int × Int × Tqq)} (h : Vc j w F x = some r) : OkR (fun e => U6 c j u k G D I E B C H J K L N M O P S T U Y Z W V ae X aa ab ad af ag ah ai e (Xb c j u k G D I E B C H J K L N M O P S T U Y Z W V ae X aa ab ad af ag ah ai w F x)) (fun s => Xb c j u k G D I E B C H J K L N M O P S T U Y Z W V ae X aa ab ad af ag ah ai w F x = Xb c j u k G D I E B C H J K L N M O P S T U Y Z W V ae X aa ab ad af ag ah ai s.1 s.2.1 s.2.2) r := by
 unfold Vc at h
 apply bi h <;> intro h1 h
 ·
  apply bn h; intro x2 h2 h
  have q0 := ((ZP h2) : idxA 7 (.sl 1 c 7 0 j) (i6 F) = some (.rp 1 c 7 x2 0))
  apply bn h; intro x3 h3 h
  apply bn h; intro x4 h4 h
  have q1 := ((ZP h4) : idxA 7 (.sl 1 c 7 0 j) (i6 w) = some (.rp 1 c 7 x4 0))
  apply bn h; intro x5 h5 h
  apply bn h; intro x6 h6 h
  rw [← sj h]
  exact rn [(54, .d true), (65, .v (.rp 1 c 7 x2 0)), (66, .v (.agg ((Za x3).map .p))), (69, .v (.rp 1 c 7 x4 0)), (70, .v (.agg ((Za x5).map .p))), (71, .v (.rp 1 c 7 x4 0)), (1071, .r ud (VS c u k G D I E B C H J K L N M O P S T U Y Z W V ae X aa ab ad af ag ah ai x x4 x3)), (72, .v (.rp 1 c 7 x2 0)), (1072, .r ud (Rv c u k G D I E B C H J K L N M O P S T U Y Z W V ae X aa ab ad af ag ah ai x x4 x3 x2 x5)), (6000, .d true)] (av h1 (apc q0 (apc ((Z6 rfl h3 rfl) : ldA (VT c u k G D I E B C H J K L N M O P S T U Y Z W V ae X aa ab ad af ag ah ai x) .true 7 (.rp 1 c 7 x2 0) = some (.agg ((Za x3).map .p))) (apc q1 (apc ((Z6 rfl h5 rfl) : ldA (VT c u k G D I E B C H J K L N M O P S T U Y Z W V ae X aa ab ad af ag ah ai x) .true 7 (.rp 1 c 7 x4 0) = some (.agg ((Za x5).map .p))) (apc q1 (apc (⟨ZZ (v' := (⟨x3.kind, x3.text, x3.n, x3.kids, x3.depth, x3.way, x3.at_⟩ : ThingD)) rfl h5 rfl rfl (Nat.le_of_ble_eq_true rfl) rfl, rfl⟩ : stA (VT c u k G D I E B C H J K L N M O P S T U Y Z W V ae X aa ab ad af ag ah ai x) 7 (.rp 1 c 7 x4 0) (.agg ((Za x3).map .p)) = some (VS c u k G D I E B C H J K L N M O P S T U Y Z W V ae X aa ab ad af ag ah ai x x4 x3) ∧ ud = ud) (apc q0 (apc (⟨ZZ (v' := (⟨x5.kind, x5.text, x5.n, x5.kids, x5.depth, x5.way, x5.at_⟩ : ThingD)) rfl h6 rfl rfl (Nat.le_of_ble_eq_true rfl) rfl, rfl⟩ : stA (VS c u k G D I E B C H J K L N M O P S T U Y Z W V ae X aa ab ad af ag ah ai x x4 x3) 7 (.rp 1 c 7 x2 0) (.agg ((Za x5).map .p)) = some (Rv c u k G D I E B C H J K L N M O P S T U Y Z W V ae X aa ab ad af ag ah ai x x4 x3 x2 x5) ∧ ud = ud) (apc (QY c j u k G D I E B C H J K L N M O P S T U Y Z W V ae X aa ab ad af ag ah ai (w6 (w + 1)) (w6 (F - 1)) ((x.set x4 (⟨x3.kind, x3.text, x3.n, x3.kids, x3.depth, x3.way, x3.at_⟩ : ThingD)).set x2 (⟨x5.kind, x5.text, x5.n, x5.kids, x5.depth, x5.way, x5.at_⟩ : ThingD))) apn))))))))))
 ·
  rw [← sj h]
  exact xb [(54, .d false), (6000, .d true)] (av h1 apn)
theorem NL (s0 : Int × Int × Tqq) (e : E_L37_0_16) (h : runL (fun s => Vc j s.1 s.2.1 s.2.2) s0 = some e) : U6 c j u k G D I E B C H J K L N M O P S T U Y Z W V ae X aa ab ad af ag ah ai e (Xb c j u k G D I E B C H J K L N M O P S T U Y Z W V ae X aa ab ad af ag ah ai s0.1 s0.2.1 s0.2.2) := by
  have q := @Zg (Int × Int × Tqq) E_L37_0_16 (fun s => Vc j s.1 s.2.1 s.2.2) (fun s => Xb c j u k G D I E B C H J K L N M O P S T U Y Z W V ae X aa ab ad af ag ah ai s.1 s.2.1 s.2.2) (U6 c j u k G D I E B C H J K L N M O P S T U Y Z W V ae X aa ab ad af ag ah ai) (fun s r h => M6 c j u k G D I E B C H J K L N M O P S T U Y Z W V ae X aa ab ad af ag ah ai s.1 s.2.1 s.2.2 h) s0 e h
  exact q
end
inductive R_F37_16 where
  | k0 (x0 x1 : Nat) (x2 : Tqq)
def Fs (c j : Nat) (i : ThingD) (o u : Int) (A : BoxD) (k : Tqq) (G : Bool) (D I E : Nat) (B : Oqq) (C : Iqq) (H J : Int) (K : Bool) (L : Iqq) (N : Nat) (M : Bqq) (O P S : ThingD) (T : Nat) (U : Tqq) (Y : Nat) (Z : Tqq) (W : Nat) (V : Tqq) (ae : Nat) (X : Int) (aa : Nat) (ab : Bqq) (ad : ThingD) (af : Nat) (ag : Bqq) (ah : ThingD) (r : R_F37_16) : AV := match r with | .k0 x0 x1 x2 => (.sl 1 x0 7 0 x1)
def Ft (c j : Nat) (i : ThingD) (o u : Int) (A : BoxD) (k : Tqq) (G : Bool) (D I E : Nat) (B : Oqq) (C : Iqq) (H J : Int) (K : Bool) (L : Iqq) (N : Nat) (M : Bqq) (O P S : ThingD) (T : Nat) (U : Tqq) (Y : Nat) (Z : Tqq) (W : Nat) (V : Tqq) (ae : Nat) (X : Int) (aa : Nat) (ab : Bqq) (ad : ThingD) (af : Nat) (ag : Bqq) (ah : ThingD) (r : R_F37_16) : List AB := match r with | .k0 x0 x1 x2 => [.cells 28 ((cBx A).map .p), yT x0 x2, .cells 83 [sp G 2 0, .sl 3 D 1 0 I, .sl 1 c 7 0 E, ls 1 Zc B, ls 1 eI64 C, i6 H, i6 J, vb K], yU D L, .row 28 4 N (ra cBx M), .cells 77 ((Za O).map .p), .cells 73 [.ptr 2 0], .cells 77 ((Za P).map .p), .cells 77 ((Za S).map .p), yT T U, yT Y Z, yT W V, .cells 78 [.sl 10 Y 7 0 ae], .cells 3 [i6 X], .row 28 4 aa (ra cBx ab), .cells 77 ((Za ad).map .p), .row 28 4 af (ra cBx ag), .cells 77 ((Za ah).map .p), .cells 77 ((Za i).map .p), yT0]
def QZ (c j : Nat) (i : ThingD) (o u : Int) (k : Tqq) (C : Iqq) : Option R_F37_16 :=
  ((runL (fun s => Vb o u i (i.kids.length : Int) C s.1 s.2.1 s.2.2.1 s.2.2.2.1 s.2.2.2.2) (c, j, (IntKind.wrap .i64 (i.at_ + 1)), 0, k)).bind fun r1 => match r1 with | .k0 ak aj an => ((runL (fun s => Vc aj s.1 s.2.1 s.2.2) (((j : Nat) : Int), (IntKind.wrap .i64 (((aj : Nat) : Int) - 1)), an)).bind fun r2 => match r2 with | .k0 ao => (some (.k0 ak aj ao))))
abbrev NM (g1 : Nat → AV) (ak aj j : Nat) (i : ThingD) (A : BoxD) (an : Tqq) (G : Bool) (D I c E : Nat) (B : Oqq) (C : Iqq) (H J : Int) (K : Bool) (L : Iqq) (N : Nat) (M : Bqq) (O P S : ThingD) (T : Nat) (U : Tqq) (Y : Nat) (Z : Tqq) (W : Nat) (V : Tqq) (ae : Nat) (X : Int) (aa : Nat) (ab : Bqq) (ad : ThingD) (af : Nat) (ag : Bqq) (ah : ThingD) : St := ⟨fr 74 g1 [(1, .sl 1 ak 7 0 aj), (12, (i6 ((j : Nat) : Int))), (24, (.p (.lst 4 (Zb i.kids))))], [.cells 28 ((cBx A).map .p), yT ak an, .cells 83 [sp G 2 0, .sl 3 D 1 0 I, .sl 1 c 7 0 E, ls 1 Zc B, ls 1 eI64 C, i6 H, i6 J, vb K], yU D L, .row 28 4 N (ra cBx M), .cells 77 ((Za O).map .p), .cells 73 [.ptr 2 0], .cells 77 ((Za P).map .p), .cells 77 ((Za S).map .p), yT T U, yT Y Z, yT W V, .cells 78 [.sl 10 Y 7 0 ae], .cells 3 [i6 X], .row 28 4 aa (ra cBx ab), .cells 77 ((Za ad).map .p), .row 28 4 af (ra cBx ag), .cells 77 ((Za ah).map .p), .cells 77 ((Za i).map .p), yT0]⟩
abbrev NN (g2 : Nat → AV) (ak aj : Nat) (A : BoxD) (ao : Tqq) (G : Bool) (D I c E : Nat) (B : Oqq) (C : Iqq) (H J : Int) (K : Bool) (L : Iqq) (N : Nat) (M : Bqq) (O P S : ThingD) (T : Nat) (U : Tqq) (Y : Nat) (Z : Tqq) (W : Nat) (V : Tqq) (ae : Nat) (X : Int) (aa : Nat) (ab : Bqq) (ad : ThingD) (af : Nat) (ag : Bqq) (ah i : ThingD) : St := ⟨fr 74 g2 [(1, .sl 1 ak 7 0 aj)], [.cells 28 ((cBx A).map .p), yT ak ao, .cells 83 [sp G 2 0, .sl 3 D 1 0 I, .sl 1 c 7 0 E, ls 1 Zc B, ls 1 eI64 C, i6 H, i6 J, vb K], yU D L, .row 28 4 N (ra cBx M), .cells 77 ((Za O).map .p), .cells 73 [.ptr 2 0], .cells 77 ((Za P).map .p), .cells 77 ((Za S).map .p), yT T U, yT Y Z, yT W V, .cells 78 [.sl 10 Y 7 0 ae], .cells 3 [i6 X], .row 28 4 aa (ra cBx ab), .cells 77 ((Za ad).map .p), .row 28 4 af (ra cBx ag), .cells 77 ((Za ah).map .p), .cells 77 ((Za i).map .p), yT0]⟩
theorem NO (c j : Nat) (i : ThingD) (o u : Int) (A : BoxD) (k : Tqq) (G : Bool) (D I E : Nat) (B : Oqq) (C : Iqq) (H J : Int) (K : Bool) (L : Iqq) (N : Nat) (M : Bqq) (O P S : ThingD) (T : Nat) (U : Tqq) (Y : Nat) (Z : Tqq) (W : Nat) (V : Tqq) (ae : Nat) (X : Int) (aa : Nat) (ab : Bqq) (ad : ThingD) (af : Nat) (ag : Bqq) (ah : ThingD) {r : R_F37_16} (h : QZ c j i o u k C = some r) : CS prg 55 [.ptr 2 0, .sl 1 c 7 0 j, (.agg ((Za i).map .p)), i6 o, i6 u] [.cells 28 ((cBx A).map .p), yT c k, .cells 83 [sp G 2 0, .sl 3 D 1 0 I, .sl 1 c 7 0 E, ls 1 Zc B, ls 1 eI64 C, i6 H, i6 J, vb K], yU D L, .row 28 4 N (ra cBx M), .cells 77 ((Za O).map .p), .cells 73 [.ptr 2 0], .cells 77 ((Za P).map .p), .cells 77 ((Za S).map .p), yT T U, yT Y Z, yT W V, .cells 78 [.sl 10 Y 7 0 ae], .cells 3 [i6 X], .row 28 4 aa (ra cBx ab), .cells 77 ((Za ad).map .p), .row 28 4 af (ra cBx ag), .cells 77 ((Za ah).map .p)] = some (Fs c j i o u A k G D I E B C H J K L N M O P S T U Y Z W V ae X aa ab ad af ag ah r, Ft c j i o u A k G D I E B C H J K L N M O P S T U Y Z W V ae X aa ab ad af ag ah r) := by
 unfold QZ at h
 apply bn h; intro r1 h1 h
 cases r1 with
 | k0 ak aj an =>
  obtain ⟨g1, e1⟩ := NK c o u ((j : Nat) : Int) i (i.kids.length : Int) A G D I E B C H J K L N M O P S T U Y Z W V ae X aa ab ad af ag ah (c, j, (w6 (i.at_ + 1)), 0, k) _ h1
  apply bn h; intro r2 h2 h
  cases r2 with
  | k0 ao =>
   obtain ⟨g2, e2⟩ := NL ak aj A G D I c E B C H J K L N M O P S T U Y Z W V ae X aa ab ad af ag ah i (((j : Nat) : Int), (w6 (((aj : Nat) : Int) - 1)), an) _ h2
   rw [← sj h]
   exact fc [(25, .v (i6 (i.kids.length : Int))), (2000, .l (.brk 0) (NM g1 ak aj j i A an G D I c E B C H J K L N M O P S T U Y Z W V ae X aa ab ad af ag ah)), (2002, .l (.brk 2) (NN g2 ak aj A ao G D I c E B C H J K L N M O P S T U Y Z W V ae X aa ab ad af ag ah i)), (6000, .d true)] (apc ((lgr ZF) : lnA (.p (.lst 4 (Zb i.kids))) = some (i6 (i.kids.length : Int))) (apc (U4 c o u ((j : Nat) : Int) i (i.kids.length : Int) A G D I E B C H J K L N M O P S T U Y Z W V ae X aa ab ad af ag ah c j (w6 (i.at_ + 1)) 0 k) (apc (e1 : Xa c o u ((j : Nat) : Int) i (i.kids.length : Int) A G D I E B C H J K L N M O P S T U Y Z W V ae X aa ab ad af ag ah c j (w6 (i.at_ + 1)) 0 k = some ((.brk 0), NM g1 ak aj j i A an G D I c E B C H J K L N M O P S T U Y Z W V ae X aa ab ad af ag ah)) (apc (QY ak aj A G D I c E B C H J K L N M O P S T U Y Z W V ae X aa ab ad af ag ah i ((j : Nat) : Int) (w6 (((aj : Nat) : Int) - 1)) an) (apc (e2 : Xb ak aj A G D I c E B C H J K L N M O P S T U Y Z W V ae X aa ab ad af ag ah i ((j : Nat) : Int) (w6 (((aj : Nat) : Int) - 1)) an = some ((.brk 2), NN g2 ak aj A ao G D I c E B C H J K L N M O P S T U Y Z W V ae X aa ab ad af ag ah i)) apn)))))
inductive E_L37_1_17 where
  | k0 (x0 x1 : Nat) (x2 : Tqq)
section
variable (c : Nat) (i o A : Int) (k : ThingD) (G : Int) (D : BoxD) (E : Bool) (B C H : Nat) (J : Oqq) (K : Iqq) (L N : Int) (M : Bool) (O : Iqq) (P : Nat) (S : Bqq) (T U Y : ThingD) (Z : Nat) (W : Tqq) (V : Nat) (ae : Tqq) (X : Nat) (aa : Tqq) (ab : Nat) (ad : Int)
def Vd (w F : Nat) (x R : Int) (Q : Tqq) : Option (E_L37_1_17 ⊕ (Nat × Nat × Int × Int × Tqq)) :=
  (bif (decide (R < G)) then ((getI k.kids R).bind fun x2 => (bif (apOk F 1 Q.length 80) then (bif (decide (F + 1 ≤ Q.length)) then ((getI K x).bind fun x5 => (some (.inr (w, F + 1, (IntKind.wrap .i64 (x + x5)), (IntKind.wrap .i64 (R + 1)), (splice Q F [(⟨x2.kind, x2.text, x2.n, x2.kids, i, o, x⟩ : ThingD)]))))) else ((getI K x).bind fun x5 => (some (.inr ((w + 1), F + 1, (IntKind.wrap .i64 (x + x5)), (IntKind.wrap .i64 (R + 1)), (Q.take F ++ [(⟨x2.kind, x2.text, x2.n, x2.kids, i, o, x⟩ : ThingD)])))))) else none)) else (some (.inl (.k0 w F Q))))
def Q0 (w F : Nat) (x R : Int) (Q : Tqq) : St := ⟨fr 74 ug [(0, .ptr 2 0), (1, .sl 1 w 7 0 F), (3, i6 i), (4, i6 o), (11, i6 x), (12, i6 A), (24, (.p (.lst 4 (Zb k.kids)))), (25, i6 G), (26, i6 R)], [.cells 28 ((cBx D).map .p), yT w Q, .cells 83 [sp E 2 0, .sl 3 B 1 0 C, .sl 1 c 7 0 H, ls 1 Zc J, ls 1 eI64 K, i6 L, i6 N, vb M], yU B O, .row 28 4 P (ra cBx S), .cells 77 ((Za T).map .p), .cells 73 [.ptr 2 0], .cells 77 ((Za U).map .p), .cells 77 ((Za Y).map .p), yT Z W, yT V ae, yT X aa, .cells 78 [.sl 10 V 7 0 ab], .cells 3 [i6 ad], .cells 77 ((Za k).map .p), yT0]⟩
theorem U7 (w F : Nat) (x R : Int) (Q : Tqq) : okT 16 (Q0 c i o A k G D E B C H J K L N M O P S T U Y Z W V ae X aa ab ad w F x R Q).h = true := (ZE rfl (ac (ar (Zv (Z8 rfl (Ze rfl (Ze rfl (Ze rfl (Ze rfl (Ze rfl (Ze rfl (Ze rfl rfl)))))))) (ar (ar (ac (ac (ac (ac (ar (ar (ar (ac (ac (ac (ar rfl)))))))))))))))))
abbrev Xc (w F : Nat) (x R : Int) (Q : Tqq) := evH prg 16 [0, 1, 3, 4, 11, 12, 24, 25, 26, 1000199007707] XL (Q0 c i o A k G D E B C H J K L N M O P S T U Y Z W V ae X aa ab ad w F x R Q)
def U8 (e : E_L37_1_17) (r : Option (Out × St)) : Prop := match e with | .k0 x0 x1 x2 => ∃ g, r = some ((.brk 0), ⟨fr 74 g [(1, .sl 1 x0 7 0 x1), (12, i6 A), (24, (.p (.lst 4 (Zb k.kids))))], [.cells 28 ((cBx D).map .p), yT x0 x2, .cells 83 [sp E 2 0, .sl 3 B 1 0 C, .sl 1 c 7 0 H, ls 1 Zc J, ls 1 eI64 K, i6 L, i6 N, vb M], yU B O, .row 28 4 P (ra cBx S), .cells 77 ((Za T).map .p), .cells 73 [.ptr 2 0], .cells 77 ((Za U).map .p), .cells 77 ((Za Y).map .p), yT Z W, yT V ae, yT X aa, .cells 78 [.sl 10 V 7 0 ab], .cells 3 [i6 ad], .cells 77 ((Za k).map .p), yT0]⟩)
abbrev Rw (w : Nat) (Q : Tqq) (F : Nat) (x2 : BoxD) (x : Int) : List AB := [.cells 28 ((cBx D).map .p), yT w (splice Q F [(⟨x2.kind, x2.text, x2.n, x2.kids, i, o, x⟩ : ThingD)]), .cells 83 [sp E 2 0, .sl 3 B 1 0 C, .sl 1 c 7 0 H, ls 1 Zc J, ls 1 eI64 K, i6 L, i6 N, vb M], yU B O, .row 28 4 P (ra cBx S), .cells 77 ((Za T).map .p), .cells 73 [.ptr 2 0], .cells 77 ((Za U).map .p), .cells 77 ((Za Y).map .p), yT Z W, yT V ae, yT X aa, .cells 78 [.sl 10 V 7 0 ab], .cells 3 [i6 ad], .cells 77 ((Za k).map .p), yT0, .row 28 4 0 (ra cBx []), .cells 28 ((cBx x2).map .p), .row 77 7 0 [[i6 x2.kind, vs x2.text, i6 x2.n, (.p (.lst 4 (Zb x2.kids))), i6 i, i6 o, i6 x]]]
abbrev Rx (w : Nat) (Q : Tqq) (x2 : BoxD) (x : Int) : List AB := [.cells 28 ((cBx D).map .p), yT w Q, .cells 83 [sp E 2 0, .sl 3 B 1 0 C, .sl 1 c 7 0 H, ls 1 Zc J, ls 1 eI64 K, i6 L, i6 N, vb M], yU B O, .row 28 4 P (ra cBx S), .cells 77 ((Za T).map .p), .cells 73 [.ptr 2 0], .cells 77 ((Za U).map .p), .cells 77 ((Za Y).map .p), yT Z W, yT V ae, yT X aa, .cells 78 [.sl 10 V 7 0 ab], .cells 3 [i6 ad], .cells 77 ((Za k).map .p), yT0, .row 28 4 0 (ra cBx []), .cells 28 ((cBx x2).map .p), .row 77 7 0 [[i6 x2.kind, vs x2.text, i6 x2.n, (.p (.lst 4 (Zb x2.kids))), i6 i, i6 o, i6 x]]]
abbrev Ry (w : Nat) (Q : Tqq) (F : Nat) (x2 : BoxD) (x : Int) : List AB := [.cells 28 ((cBx D).map .p), yT (w + 1) (Q.take F ++ [(⟨x2.kind, x2.text, x2.n, x2.kids, i, o, x⟩ : ThingD)]), .cells 83 [sp E 2 0, .sl 3 B 1 0 C, .sl 1 c 7 0 H, ls 1 Zc J, ls 1 eI64 K, i6 L, i6 N, vb M], yU B O, .row 28 4 P (ra cBx S), .cells 77 ((Za T).map .p), .cells 73 [.ptr 2 0], .cells 77 ((Za U).map .p), .cells 77 ((Za Y).map .p), yT Z W, yT V ae, yT X aa, .cells 78 [.sl 10 V 7 0 ab], .cells 3 [i6 ad], .cells 77 ((Za k).map .p), yT0, .row 28 4 0 (ra cBx []), .cells 28 ((cBx x2).map .p), .row 77 7 0 [[i6 x2.kind, vs x2.text, i6 x2.n, (.p (.lst 4 (Zb x2.kids))), i6 i, i6 o, i6 x]]]
theorem M7 (w F : Nat) (x R : Int) (Q : Tqq) {r : E_L37_1_17 ⊕ (Nat × Nat × Int × Int × Tqq)} (h : Vd i o k G K w F x R Q = some r) : OkR (fun e => U8 c A k D E B C H J K L N M O P S T U Y Z W V ae X aa ab ad e (Xc c i o A k G D E B C H J K L N M O P S T U Y Z W V ae X aa ab ad w F x R Q)) (fun s => Xc c i o A k G D E B C H J K L N M O P S T U Y Z W V ae X aa ab ad w F x R Q = Xc c i o A k G D E B C H J K L N M O P S T U Y Z W V ae X aa ab ad s.1 s.2.1 s.2.2.1 s.2.2.2.1 s.2.2.2.2) r := by
 unfold Vd at h
 apply bi h <;> intro h1 h
 ·
  apply bn h; intro x2 h2 h
  have q0 := ((igr ZF h2) : idxA 4 (.p (.lst 4 (Zb k.kids))) (i6 R) = some (.ro (cBx x2)))
  have k1 := ka [(27, .d true), (28, .v (.ro (cBx x2)))] (av h1 (apc q0 apn))
  apply bi h <;> intro h3 h
  ·
   apply bi h <;> intro h4 h
   ·
    apply bn h; intro x5 h5 h
    rw [← sj h]
    exact rn ([(37, .r (.sl 1 w 7 0 (F + 1)) (Rw c i o k D E B C H J K L N M O P S T U Y Z W V ae X aa ab ad w Q F x2 x)), (44, .v (.ro [.val (.int .i64 x5)])), (6000, .d true)] ++ kH k1) (k1.b (apc ((X0 (e := Za) (xs := Q) (news := [(⟨x2.kind, x2.text, x2.n, x2.kids, i, o, x⟩ : ThingD)]) rfl (ZA (e := Za) (xs := [(⟨x2.kind, x2.text, x2.n, x2.kids, i, o, x⟩ : ThingD)]) rfl) rfl h3 h4) : appA (Rx c i o k D E B C H J K L N M O P S T U Y Z W V ae X aa ab ad w Q x2 x) 77 7 80 (.sl 1 w 7 0 F) (.sl 18 0 7 0 1) = some ((.sl 1 w 7 0 (F + 1)), Rw c i o k D E B C H J K L N M O P S T U Y Z W V ae X aa ab ad w Q F x2 x)) (apc (ig eI64 1 .i64 h5) (apc (U7 c i o A k G D E B C H J K L N M O P S T U Y Z W V ae X aa ab ad w (F + 1) (w6 (x + x5)) (w6 (R + 1)) (splice Q F [(⟨x2.kind, x2.text, x2.n, x2.kids, i, o, x⟩ : ThingD)])) apn))))
   ·
    apply bn h; intro x5 h5 h
    rw [← sj h]
    exact rn ([(37, .r (.sl 1 (w + 1) 7 0 (F + 1)) (Ry c i o k D E B C H J K L N M O P S T U Y Z W V ae X aa ab ad w Q F x2 x)), (44, .v (.ro [.val (.int .i64 x5)])), (6000, .d true)] ++ kH k1) (k1.b (apc ((Yk (e := Za) (xs := Q) (news := [(⟨x2.kind, x2.text, x2.n, x2.kids, i, o, x⟩ : ThingD)]) rfl (ZA (e := Za) (xs := [(⟨x2.kind, x2.text, x2.n, x2.kids, i, o, x⟩ : ThingD)]) rfl) rfl h3 h4) : appA (Rx c i o k D E B C H J K L N M O P S T U Y Z W V ae X aa ab ad w Q x2 x) 77 7 80 (.sl 1 w 7 0 F) (.sl 18 0 7 0 1) = some ((.sl 1 (w + 1) 7 0 (F + 1)), Ry c i o k D E B C H J K L N M O P S T U Y Z W V ae X aa ab ad w Q F x2 x)) (apc (ig eI64 1 .i64 h5) (apc (U7 c i o A k G D E B C H J K L N M O P S T U Y Z W V ae X aa ab ad (w + 1) (F + 1) (w6 (x + x5)) (w6 (R + 1)) (Q.take F ++ [(⟨x2.kind, x2.text, x2.n, x2.kids, i, o, x⟩ : ThingD)])) apn))))
  ·
   cases h
 ·
  rw [← sj h]
  exact xb [(27, .d false), (6000, .d true)] (av h1 apn)
theorem NP (s0 : Nat × Nat × Int × Int × Tqq) (e : E_L37_1_17) (h : runL (fun s => Vd i o k G K s.1 s.2.1 s.2.2.1 s.2.2.2.1 s.2.2.2.2) s0 = some e) : U8 c A k D E B C H J K L N M O P S T U Y Z W V ae X aa ab ad e (Xc c i o A k G D E B C H J K L N M O P S T U Y Z W V ae X aa ab ad s0.1 s0.2.1 s0.2.2.1 s0.2.2.2.1 s0.2.2.2.2) := by
  have q := @Zg (Nat × Nat × Int × Int × Tqq) E_L37_1_17 (fun s => Vd i o k G K s.1 s.2.1 s.2.2.1 s.2.2.2.1 s.2.2.2.2) (fun s => Xc c i o A k G D E B C H J K L N M O P S T U Y Z W V ae X aa ab ad s.1 s.2.1 s.2.2.1 s.2.2.2.1 s.2.2.2.2) (U8 c A k D E B C H J K L N M O P S T U Y Z W V ae X aa ab ad) (fun s r h => M7 c i o A k G D E B C H J K L N M O P S T U Y Z W V ae X aa ab ad s.1 s.2.1 s.2.2.1 s.2.2.2.1 s.2.2.2.2 h) s0 e h
  exact q
end
inductive E_L37_0_17 where
  | k0 (x0 : Tqq)
section
variable (c j : Nat) (u : BoxD) (k : Bool) (G D I E : Nat) (B : Oqq) (C : Iqq) (H J : Int) (K : Bool) (L : Iqq) (N : Nat) (M : Bqq) (O P S : ThingD) (T : Nat) (U : Tqq) (Y : Nat) (Z : Tqq) (W : Nat) (V : Tqq) (ae : Nat) (X : Int) (aa : ThingD)
def Ve (w F : Int) (x : Tqq) : Option (E_L37_0_17 ⊕ (Int × Int × Tqq)) :=
  (bif (decide (w < F)) then ((ixN j F).bind fun x2 => ((x[x2]?).bind fun x3 => ((ixN j w).bind fun x4 => ((x[x4]?).bind fun x5 => (((x.set x4 (⟨x3.kind, x3.text, x3.n, x3.kids, x3.depth, x3.way, x3.at_⟩ : ThingD))[x2]?).bind fun x6 => (some (.inr ((IntKind.wrap .i64 (w + 1)), (IntKind.wrap .i64 (F - 1)), ((x.set x4 (⟨x3.kind, x3.text, x3.n, x3.kids, x3.depth, x3.way, x3.at_⟩ : ThingD)).set x2 (⟨x5.kind, x5.text, x5.n, x5.kids, x5.depth, x5.way, x5.at_⟩ : ThingD)))))))))) else (some (.inl (.k0 x))))
def Q1 (w F : Int) (x : Tqq) : St := ⟨fr 74 ug [(1, .sl 1 c 7 0 j), (15, i6 w), (16, i6 F)], [.cells 28 ((cBx u).map .p), yT c x, .cells 83 [sp k 2 0, .sl 3 G 1 0 D, .sl 1 I 7 0 E, ls 1 Zc B, ls 1 eI64 C, i6 H, i6 J, vb K], yU G L, .row 28 4 N (ra cBx M), .cells 77 ((Za O).map .p), .cells 73 [.ptr 2 0], .cells 77 ((Za P).map .p), .cells 77 ((Za S).map .p), yT T U, yT Y Z, yT W V, .cells 78 [.sl 10 Y 7 0 ae], .cells 3 [i6 X], .cells 77 ((Za aa).map .p), yT0]⟩
theorem Q2 (w F : Int) (x : Tqq) : okT 16 (Q1 c j u k G D I E B C H J K L N M O P S T U Y Z W V ae X aa w F x).h = true := (ZE rfl (ac (ar (Zv (Z8 rfl (Ze rfl (Ze rfl (Ze rfl (Ze rfl (Ze rfl (Ze rfl (Ze rfl rfl)))))))) (ar (ar (ac (ac (ac (ac (ar (ar (ar (ac (ac (ac (ar rfl)))))))))))))))))
abbrev Xd (w F : Int) (x : Tqq) := evH prg 16 [1, 15, 16] XK (Q1 c j u k G D I E B C H J K L N M O P S T U Y Z W V ae X aa w F x)
def U9 (e : E_L37_0_17) (r : Option (Out × St)) : Prop := match e with | .k0 x0 => ∃ g, r = some ((.brk 2), ⟨fr 74 g [(1, .sl 1 c 7 0 j)], [.cells 28 ((cBx u).map .p), yT c x0, .cells 83 [sp k 2 0, .sl 3 G 1 0 D, .sl 1 I 7 0 E, ls 1 Zc B, ls 1 eI64 C, i6 H, i6 J, vb K], yU G L, .row 28 4 N (ra cBx M), .cells 77 ((Za O).map .p), .cells 73 [.ptr 2 0], .cells 77 ((Za P).map .p), .cells 77 ((Za S).map .p), yT T U, yT Y Z, yT W V, .cells 78 [.sl 10 Y 7 0 ae], .cells 3 [i6 X], .cells 77 ((Za aa).map .p), yT0]⟩)
abbrev VU (x : Tqq) (x4 : Nat) (x3 : ThingD) : List AB := [.cells 28 ((cBx u).map .p), yT c (x.set x4 (⟨x3.kind, x3.text, x3.n, x3.kids, x3.depth, x3.way, x3.at_⟩ : ThingD)), .cells 83 [sp k 2 0, .sl 3 G 1 0 D, .sl 1 I 7 0 E, ls 1 Zc B, ls 1 eI64 C, i6 H, i6 J, vb K], yU G L, .row 28 4 N (ra cBx M), .cells 77 ((Za O).map .p), .cells 73 [.ptr 2 0], .cells 77 ((Za P).map .p), .cells 77 ((Za S).map .p), yT T U, yT Y Z, yT W V, .cells 78 [.sl 10 Y 7 0 ae], .cells 3 [i6 X], .cells 77 ((Za aa).map .p), yT0]
abbrev Rz (x : Tqq) (x4 : Nat) (x3 : ThingD) (x2 : Nat) (x5 : ThingD) : List AB := [.cells 28 ((cBx u).map .p), yT c ((x.set x4 (⟨x3.kind, x3.text, x3.n, x3.kids, x3.depth, x3.way, x3.at_⟩ : ThingD)).set x2 (⟨x5.kind, x5.text, x5.n, x5.kids, x5.depth, x5.way, x5.at_⟩ : ThingD)), .cells 83 [sp k 2 0, .sl 3 G 1 0 D, .sl 1 I 7 0 E, ls 1 Zc B, ls 1 eI64 C, i6 H, i6 J, vb K], yU G L, .row 28 4 N (ra cBx M), .cells 77 ((Za O).map .p), .cells 73 [.ptr 2 0], .cells 77 ((Za P).map .p), .cells 77 ((Za S).map .p), yT T U, yT Y Z, yT W V, .cells 78 [.sl 10 Y 7 0 ae], .cells 3 [i6 X], .cells 77 ((Za aa).map .p), yT0]
abbrev VV (x : Tqq) : List AB := [.cells 28 ((cBx u).map .p), yT c x, .cells 83 [sp k 2 0, .sl 3 G 1 0 D, .sl 1 I 7 0 E, ls 1 Zc B, ls 1 eI64 C, i6 H, i6 J, vb K], yU G L, .row 28 4 N (ra cBx M), .cells 77 ((Za O).map .p), .cells 73 [.ptr 2 0], .cells 77 ((Za P).map .p), .cells 77 ((Za S).map .p), yT T U, yT Y Z, yT W V, .cells 78 [.sl 10 Y 7 0 ae], .cells 3 [i6 X], .cells 77 ((Za aa).map .p), yT0]
theorem M8 (w F : Int) (x : Tqq) {r : E_L37_0_17 ⊕ (Int × Int × Tqq)} (h : Ve j w F x = some r) : OkR (fun e => U9 c j u k G D I E B C H J K L N M O P S T U Y Z W V ae X aa e (Xd c j u k G D I E B C H J K L N M O P S T U Y Z W V ae X aa w F x)) (fun s => Xd c j u k G D I E B C H J K L N M O P S T U Y Z W V ae X aa w F x = Xd c j u k G D I E B C H J K L N M O P S T U Y Z W V ae X aa s.1 s.2.1 s.2.2) r := by
 unfold Ve at h
 apply bi h <;> intro h1 h
 ·
  apply bn h; intro x2 h2 h
  have q0 := ((ZP h2) : idxA 7 (.sl 1 c 7 0 j) (i6 F) = some (.rp 1 c 7 x2 0))
  apply bn h; intro x3 h3 h
  apply bn h; intro x4 h4 h
  have q1 := ((ZP h4) : idxA 7 (.sl 1 c 7 0 j) (i6 w) = some (.rp 1 c 7 x4 0))
  apply bn h; intro x5 h5 h
  apply bn h; intro x6 h6 h
  rw [← sj h]
  exact rn [(54, .d true), (65, .v (.rp 1 c 7 x2 0)), (66, .v (.agg ((Za x3).map .p))), (69, .v (.rp 1 c 7 x4 0)), (70, .v (.agg ((Za x5).map .p))), (71, .v (.rp 1 c 7 x4 0)), (1071, .r ud (VU c u k G D I E B C H J K L N M O P S T U Y Z W V ae X aa x x4 x3)), (72, .v (.rp 1 c 7 x2 0)), (1072, .r ud (Rz c u k G D I E B C H J K L N M O P S T U Y Z W V ae X aa x x4 x3 x2 x5)), (6000, .d true)] (av h1 (apc q0 (apc ((Z6 rfl h3 rfl) : ldA (VV c u k G D I E B C H J K L N M O P S T U Y Z W V ae X aa x) .true 7 (.rp 1 c 7 x2 0) = some (.agg ((Za x3).map .p))) (apc q1 (apc ((Z6 rfl h5 rfl) : ldA (VV c u k G D I E B C H J K L N M O P S T U Y Z W V ae X aa x) .true 7 (.rp 1 c 7 x4 0) = some (.agg ((Za x5).map .p))) (apc q1 (apc (⟨ZZ (v' := (⟨x3.kind, x3.text, x3.n, x3.kids, x3.depth, x3.way, x3.at_⟩ : ThingD)) rfl h5 rfl rfl (Nat.le_of_ble_eq_true rfl) rfl, rfl⟩ : stA (VV c u k G D I E B C H J K L N M O P S T U Y Z W V ae X aa x) 7 (.rp 1 c 7 x4 0) (.agg ((Za x3).map .p)) = some (VU c u k G D I E B C H J K L N M O P S T U Y Z W V ae X aa x x4 x3) ∧ ud = ud) (apc q0 (apc (⟨ZZ (v' := (⟨x5.kind, x5.text, x5.n, x5.kids, x5.depth, x5.way, x5.at_⟩ : ThingD)) rfl h6 rfl rfl (Nat.le_of_ble_eq_true rfl) rfl, rfl⟩ : stA (VU c u k G D I E B C H J K L N M O P S T U Y Z W V ae X aa x x4 x3) 7 (.rp 1 c 7 x2 0) (.agg ((Za x5).map .p)) = some (Rz c u k G D I E B C H J K L N M O P S T U Y Z W V ae X aa x x4 x3 x2 x5) ∧ ud = ud) (apc (Q2 c j u k G D I E B C H J K L N M O P S T U Y Z W V ae X aa (w6 (w + 1)) (w6 (F - 1)) ((x.set x4 (⟨x3.kind, x3.text, x3.n, x3.kids, x3.depth, x3.way, x3.at_⟩ : ThingD)).set x2 (⟨x5.kind, x5.text, x5.n, x5.kids, x5.depth, x5.way, x5.at_⟩ : ThingD))) apn))))))))))
 ·
  rw [← sj h]
  exact xb [(54, .d false), (6000, .d true)] (av h1 apn)
theorem NQ (s0 : Int × Int × Tqq) (e : E_L37_0_17) (h : runL (fun s => Ve j s.1 s.2.1 s.2.2) s0 = some e) : U9 c j u k G D I E B C H J K L N M O P S T U Y Z W V ae X aa e (Xd c j u k G D I E B C H J K L N M O P S T U Y Z W V ae X aa s0.1 s0.2.1 s0.2.2) := by
  have q := @Zg (Int × Int × Tqq) E_L37_0_17 (fun s => Ve j s.1 s.2.1 s.2.2) (fun s => Xd c j u k G D I E B C H J K L N M O P S T U Y Z W V ae X aa s.1 s.2.1 s.2.2) (U9 c j u k G D I E B C H J K L N M O P S T U Y Z W V ae X aa) (fun s r h => M8 c j u k G D I E B C H J K L N M O P S T U Y Z W V ae X aa s.1 s.2.1 s.2.2 h) s0 e h
  exact q
end
inductive R_F37_17 where
  | k0 (x0 x1 : Nat) (x2 : Tqq)
def Fu (c j : Nat) (i : ThingD) (o u : Int) (A : BoxD) (k : Tqq) (G : Bool) (D I E : Nat) (B : Oqq) (C : Iqq) (H J : Int) (K : Bool) (L : Iqq) (N : Nat) (M : Bqq) (O P S : ThingD) (T : Nat) (U : Tqq) (Y : Nat) (Z : Tqq) (W : Nat) (V : Tqq) (ae : Nat) (X : Int) (r : R_F37_17) : AV := match r with | .k0 x0 x1 x2 => (.sl 1 x0 7 0 x1)
def Fv (c j : Nat) (i : ThingD) (o u : Int) (A : BoxD) (k : Tqq) (G : Bool) (D I E : Nat) (B : Oqq) (C : Iqq) (H J : Int) (K : Bool) (L : Iqq) (N : Nat) (M : Bqq) (O P S : ThingD) (T : Nat) (U : Tqq) (Y : Nat) (Z : Tqq) (W : Nat) (V : Tqq) (ae : Nat) (X : Int) (r : R_F37_17) : List AB := match r with | .k0 x0 x1 x2 => [.cells 28 ((cBx A).map .p), yT x0 x2, .cells 83 [sp G 2 0, .sl 3 D 1 0 I, .sl 1 c 7 0 E, ls 1 Zc B, ls 1 eI64 C, i6 H, i6 J, vb K], yU D L, .row 28 4 N (ra cBx M), .cells 77 ((Za O).map .p), .cells 73 [.ptr 2 0], .cells 77 ((Za P).map .p), .cells 77 ((Za S).map .p), yT T U, yT Y Z, yT W V, .cells 78 [.sl 10 Y 7 0 ae], .cells 3 [i6 X], .cells 77 ((Za i).map .p), yT0]
def Q3 (c j : Nat) (i : ThingD) (o u : Int) (k : Tqq) (C : Iqq) : Option R_F37_17 :=
  ((runL (fun s => Vd o u i (i.kids.length : Int) C s.1 s.2.1 s.2.2.1 s.2.2.2.1 s.2.2.2.2) (c, j, (IntKind.wrap .i64 (i.at_ + 1)), 0, k)).bind fun r1 => match r1 with | .k0 ak aj an => ((runL (fun s => Ve aj s.1 s.2.1 s.2.2) (((j : Nat) : Int), (IntKind.wrap .i64 (((aj : Nat) : Int) - 1)), an)).bind fun r2 => match r2 with | .k0 ao => (some (.k0 ak aj ao))))
abbrev NR (g1 : Nat → AV) (ak aj j : Nat) (i : ThingD) (A : BoxD) (an : Tqq) (G : Bool) (D I c E : Nat) (B : Oqq) (C : Iqq) (H J : Int) (K : Bool) (L : Iqq) (N : Nat) (M : Bqq) (O P S : ThingD) (T : Nat) (U : Tqq) (Y : Nat) (Z : Tqq) (W : Nat) (V : Tqq) (ae : Nat) (X : Int) : St := ⟨fr 74 g1 [(1, .sl 1 ak 7 0 aj), (12, (i6 ((j : Nat) : Int))), (24, (.p (.lst 4 (Zb i.kids))))], [.cells 28 ((cBx A).map .p), yT ak an, .cells 83 [sp G 2 0, .sl 3 D 1 0 I, .sl 1 c 7 0 E, ls 1 Zc B, ls 1 eI64 C, i6 H, i6 J, vb K], yU D L, .row 28 4 N (ra cBx M), .cells 77 ((Za O).map .p), .cells 73 [.ptr 2 0], .cells 77 ((Za P).map .p), .cells 77 ((Za S).map .p), yT T U, yT Y Z, yT W V, .cells 78 [.sl 10 Y 7 0 ae], .cells 3 [i6 X], .cells 77 ((Za i).map .p), yT0]⟩
abbrev NS (g2 : Nat → AV) (ak aj : Nat) (A : BoxD) (ao : Tqq) (G : Bool) (D I c E : Nat) (B : Oqq) (C : Iqq) (H J : Int) (K : Bool) (L : Iqq) (N : Nat) (M : Bqq) (O P S : ThingD) (T : Nat) (U : Tqq) (Y : Nat) (Z : Tqq) (W : Nat) (V : Tqq) (ae : Nat) (X : Int) (i : ThingD) : St := ⟨fr 74 g2 [(1, .sl 1 ak 7 0 aj)], [.cells 28 ((cBx A).map .p), yT ak ao, .cells 83 [sp G 2 0, .sl 3 D 1 0 I, .sl 1 c 7 0 E, ls 1 Zc B, ls 1 eI64 C, i6 H, i6 J, vb K], yU D L, .row 28 4 N (ra cBx M), .cells 77 ((Za O).map .p), .cells 73 [.ptr 2 0], .cells 77 ((Za P).map .p), .cells 77 ((Za S).map .p), yT T U, yT Y Z, yT W V, .cells 78 [.sl 10 Y 7 0 ae], .cells 3 [i6 X], .cells 77 ((Za i).map .p), yT0]⟩
theorem NT (c j : Nat) (i : ThingD) (o u : Int) (A : BoxD) (k : Tqq) (G : Bool) (D I E : Nat) (B : Oqq) (C : Iqq) (H J : Int) (K : Bool) (L : Iqq) (N : Nat) (M : Bqq) (O P S : ThingD) (T : Nat) (U : Tqq) (Y : Nat) (Z : Tqq) (W : Nat) (V : Tqq) (ae : Nat) (X : Int) {r : R_F37_17} (h : Q3 c j i o u k C = some r) : CS prg 55 [.ptr 2 0, .sl 1 c 7 0 j, (.agg ((Za i).map .p)), i6 o, i6 u] [.cells 28 ((cBx A).map .p), yT c k, .cells 83 [sp G 2 0, .sl 3 D 1 0 I, .sl 1 c 7 0 E, ls 1 Zc B, ls 1 eI64 C, i6 H, i6 J, vb K], yU D L, .row 28 4 N (ra cBx M), .cells 77 ((Za O).map .p), .cells 73 [.ptr 2 0], .cells 77 ((Za P).map .p), .cells 77 ((Za S).map .p), yT T U, yT Y Z, yT W V, .cells 78 [.sl 10 Y 7 0 ae], .cells 3 [i6 X]] = some (Fu c j i o u A k G D I E B C H J K L N M O P S T U Y Z W V ae X r, Fv c j i o u A k G D I E B C H J K L N M O P S T U Y Z W V ae X r) := by
 unfold Q3 at h
 apply bn h; intro r1 h1 h
 cases r1 with
 | k0 ak aj an =>
  obtain ⟨g1, e1⟩ := NP c o u ((j : Nat) : Int) i (i.kids.length : Int) A G D I E B C H J K L N M O P S T U Y Z W V ae X (c, j, (w6 (i.at_ + 1)), 0, k) _ h1
  apply bn h; intro r2 h2 h
  cases r2 with
  | k0 ao =>
   obtain ⟨g2, e2⟩ := NQ ak aj A G D I c E B C H J K L N M O P S T U Y Z W V ae X i (((j : Nat) : Int), (w6 (((aj : Nat) : Int) - 1)), an) _ h2
   rw [← sj h]
   exact fc [(25, .v (i6 (i.kids.length : Int))), (2000, .l (.brk 0) (NR g1 ak aj j i A an G D I c E B C H J K L N M O P S T U Y Z W V ae X)), (2002, .l (.brk 2) (NS g2 ak aj A ao G D I c E B C H J K L N M O P S T U Y Z W V ae X i)), (6000, .d true)] (apc ((lgr ZF) : lnA (.p (.lst 4 (Zb i.kids))) = some (i6 (i.kids.length : Int))) (apc (U7 c o u ((j : Nat) : Int) i (i.kids.length : Int) A G D I E B C H J K L N M O P S T U Y Z W V ae X c j (w6 (i.at_ + 1)) 0 k) (apc (e1 : Xc c o u ((j : Nat) : Int) i (i.kids.length : Int) A G D I E B C H J K L N M O P S T U Y Z W V ae X c j (w6 (i.at_ + 1)) 0 k = some ((.brk 0), NR g1 ak aj j i A an G D I c E B C H J K L N M O P S T U Y Z W V ae X)) (apc (Q2 ak aj A G D I c E B C H J K L N M O P S T U Y Z W V ae X i ((j : Nat) : Int) (w6 (((aj : Nat) : Int) - 1)) an) (apc (e2 : Xd ak aj A G D I c E B C H J K L N M O P S T U Y Z W V ae X i ((j : Nat) : Int) (w6 (((aj : Nat) : Int) - 1)) an = some ((.brk 2), NS g2 ak aj A ao G D I c E B C H J K L N M O P S T U Y Z W V ae X i)) apn)))))
inductive E_L27_0 where
  | k0 (x0 : Nat) (x1 : Tqq) (x2 : Bool) (x3 x4 x5 : Nat) (x6 : Int) (x7 : Bool) (x8 : Iqq)
section
variable (c : BoxD) (i : Oqq) (o : Iqq) (u : Int)
def M9 (w : Nat) (F : Tqq) (x : Bool) (R Q v6 : Nat) (v7 : Int) (v8 : Bool) (v9 : Iqq) : Option (E_L27_0 ⊕ (Nat × Tqq × Bool × Nat × Nat × Nat × Int × Bool × Iqq)) :=
  (bif (decide (((v6 : Nat) : Int) > 0)) then ((G7 Q).bind fun x2 => (bif (decide (x2 ≤ 1048576)) then ((ixN v6 (IntKind.wrap .i64 (((v6 : Nat) : Int) - 1))).bind fun x4 => ((F[x4]?).bind fun x5 => (bif (slOk (IntKind.wrap .i64 (((v6 : Nat) : Int) - 1)) v6 F.length) then (bif (x5.kind == 0) then ((HB x5 x R Q v7 v8 v9).bind fun r8 => match r8 with | .k0 bZ bX b0 b1 b2 b3 => ((F37 w (Int.toNat (IntKind.wrap .i64 (((v6 : Nat) : Int) - 1))) x5 x5.depth x5.way F o).bind fun r9 => match r9 with | .k0 cf co cl => (some (.inr (cf, cl, bZ, bX, b0, co, b1, b2, b3))))) else (bif (x5.kind == 1) then (bif (x5.way == 0) then ((JM x R Q v9).bind fun b5 => match b5 with | .k0 bL bE bM => (some (.inr (w, F, bL, bE, Q + 1, (Int.toNat (IntKind.wrap .i64 (((v6 : Nat) : Int) - 1))), x5.depth, true, bM)))) else ((F35 (⟨([32] : List UInt8).toArray⟩ : ByteArray) x5.n).bind fun x10 => ((JI x10 x R Q v9).bind fun b6 => match b6 with | .k0 b7 bY bF cg => ((F37 w (Int.toNat (IntKind.wrap .i64 (((v6 : Nat) : Int) - 1))) x5 x5.depth x5.way F o).bind fun bG => match bG with | .k0 bp bB bx => (some (.inr (bp, bx, bY, bF, (Q + (Zl x10).length), bB, (IntKind.wrap .i64 (v7 + x5.n)), v8, cg))))))) else (bif (x5.kind == 2) then ((JM x R Q v9).bind fun b5 => match b5 with | .k0 bL bE bM => ((Nc w (Int.toNat (IntKind.wrap .i64 (((v6 : Nat) : Int) - 1))) x5 x5.depth x5.way F o).bind fun b6 => match b6 with | .k0 b7 bY bF => (some (.inr (b7, bF, bL, bE, Q + 1, bY, x5.depth, true, bM))))) else (bif (x5.kind == 4) then (bif (x5.way == 1) then ((F37 w (Int.toNat (IntKind.wrap .i64 (((v6 : Nat) : Int) - 1))) x5 x5.depth 1 F o).bind fun bG => match bG with | .k0 bp bB bx => (some (.inr (bp, bx, x, R, Q, bB, v7, v8, v9)))) else ((getI i x5.at_).bind fun x12 => (bif x12 then ((F37 w (Int.toNat (IntKind.wrap .i64 (((v6 : Nat) : Int) - 1))) x5 x5.depth 0 F o).bind fun cm => match cm with | .k0 bH aq ay => (some (.inr (bH, ay, x, R, Q, aq, v7, v8, v9)))) else ((HL x5 F (Int.toNat (IntKind.wrap .i64 (((v6 : Nat) : Int) - 1))) o u v7).bind fun cm => match cm with | .k0 bH aq ay aT aU aV aH aI aJ aK aL aM aN => (bif bH then ((QR w (Int.toNat (IntKind.wrap .i64 (((v6 : Nat) : Int) - 1))) x5 x5.depth 1 F o).bind fun bs => match bs with | .k0 aW bd be => (some (.inr (aW, be, x, R, Q, bd, v7, v8, v9)))) else ((QR w (Int.toNat (IntKind.wrap .i64 (((v6 : Nat) : Int) - 1))) x5 x5.depth 0 F o).bind fun bs => match bs with | .k0 aW bd be => (some (.inr (aW, be, x, R, Q, bd, v7, v8, v9))))) | .k1 bH aq ay aT aU aV => (bif bH then ((QV w (Int.toNat (IntKind.wrap .i64 (((v6 : Nat) : Int) - 1))) x5 x5.depth 1 F o).bind fun bs => match bs with | .k0 aW bd be => (some (.inr (aW, be, x, R, Q, bd, v7, v8, v9)))) else ((QV w (Int.toNat (IntKind.wrap .i64 (((v6 : Nat) : Int) - 1))) x5 x5.depth 0 F o).bind fun bs => match bs with | .k0 aW bd be => (some (.inr (aW, be, x, R, Q, bd, v7, v8, v9))))) | .k2 bH aq ay aT aU aV aH aI aJ aK aL aM aN => (bif bH then ((QZ w (Int.toNat (IntKind.wrap .i64 (((v6 : Nat) : Int) - 1))) x5 x5.depth 1 F o).bind fun bs => match bs with | .k0 aW bd be => (some (.inr (aW, be, x, R, Q, bd, v7, v8, v9)))) else ((QZ w (Int.toNat (IntKind.wrap .i64 (((v6 : Nat) : Int) - 1))) x5 x5.depth 0 F o).bind fun bs => match bs with | .k0 aW bd be => (some (.inr (aW, be, x, R, Q, bd, v7, v8, v9))))) | .k3 bH aq ay aT aU aV => (bif bH then ((Q3 w (Int.toNat (IntKind.wrap .i64 (((v6 : Nat) : Int) - 1))) x5 x5.depth 1 F o).bind fun bs => match bs with | .k0 aW bd be => (some (.inr (aW, be, x, R, Q, bd, v7, v8, v9)))) else ((Q3 w (Int.toNat (IntKind.wrap .i64 (((v6 : Nat) : Int) - 1))) x5 x5.depth 0 F o).bind fun bs => match bs with | .k0 aW bd be => (some (.inr (aW, be, x, R, Q, bd, v7, v8, v9))))))))) else (bif (x5.kind == 5) then ((F37 w (Int.toNat (IntKind.wrap .i64 (((v6 : Nat) : Int) - 1))) x5 (IntKind.wrap .i64 (x5.depth + x5.n)) x5.way F o).bind fun bG => match bG with | .k0 bp bB bx => (some (.inr (bp, bx, x, R, Q, bB, v7, v8, v9)))) else ((F37 w (Int.toNat (IntKind.wrap .i64 (((v6 : Nat) : Int) - 1))) x5 x5.depth x5.way F o).bind fun bG => match bG with | .k0 bp bB bx => (some (.inr (bp, bx, x, R, Q, bB, v7, v8, v9))))))))) else none))) else (some (.inl (.k0 w F x R Q v6 v7 v8 v9))))) else (some (.inl (.k0 w F x R Q v6 v7 v8 v9))))
def HM (w : Nat) (F : Tqq) (x : Bool) (R Q v6 : Nat) (v7 : Int) (v8 : Bool) (v9 : Iqq) : St := ⟨fr 134 ug [(0, .ptr 2 0)], [.cells 28 ((cBx c).map .p), yT w F, .cells 83 [sp x 2 0, .sl 3 R 1 0 Q, .sl 1 w 7 0 v6, ls 1 Zc i, ls 1 eI64 o, i6 u, i6 v7, vb v8], yU R v9]⟩
theorem Z1 (w : Nat) (F : Tqq) (x : Bool) (R Q v6 : Nat) (v7 : Int) (v8 : Bool) (v9 : Iqq) : okT 4 (HM c i o u w F x R Q v6 v7 v8 v9).h = true := (ZE rfl (ac (ar (Zv (Z8 rfl (Ze rfl (Ze rfl (Ze rfl (Ze rfl (Ze rfl (Ze rfl (Ze rfl rfl)))))))) (ar rfl)))))
abbrev Ta (w : Nat) (F : Tqq) (x : Bool) (R Q v6 : Nat) (v7 : Int) (v8 : Bool) (v9 : Iqq) := evH prg 4 [0, 1000001000501] Hd (HM c i o u w F x R Q v6 v7 v8 v9)
def La (e : E_L27_0) (r : Option (Out × St)) : Prop := match e with | .k0 x0 x1 x2 x3 x4 x5 x6 x7 x8 => ∃ g, r = some ((.brk 0), ⟨fr 134 g [(0, .ptr 2 0)], [.cells 28 ((cBx c).map .p), yT x0 x1, .cells 83 [sp x2 2 0, .sl 3 x3 1 0 x4, .sl 1 x0 7 0 x5, ls 1 Zc i, ls 1 eI64 o, i6 u, i6 x6, vb x7], yU x3 x8]⟩)
abbrev TJ (w : Nat) (F : Tqq) (x : Bool) (R Q v6 : Nat) (v7 : Int) (v8 : Bool) (v9 : Iqq) : List AB := [.cells 28 ((cBx c).map .p), yT w F, .cells 83 [sp x 2 0, .sl 3 R 1 0 Q, .sl 1 w 7 0 v6, ls 1 Zc i, ls 1 eI64 o, i6 u, i6 v7, vb v8], yU R v9]
abbrev PX (w : Nat) (F : Tqq) (bZ : Bool) (bX b0 v6 : Nat) (b1 : Int) (b2 : Bool) (b3 : Iqq) (x5 : ThingD) : List AB := [.cells 28 ((cBx c).map .p), yT w F, .cells 83 [sp bZ 2 0, .sl 3 bX 1 0 b0, (.sl 1 w 7 0 (Int.toNat (w6 (((v6 : Nat) : Int) - 1)))), ls 1 Zc i, ls 1 eI64 o, i6 u, i6 b1, vb b2], yU bX b3, .row 28 4 0 (ra cBx []), .cells 77 ((Za x5).map .p)]
abbrev KD (cf : Nat) (cl : Tqq) (bZ : Bool) (bX b0 w v6 : Nat) (b1 : Int) (b2 : Bool) (b3 : Iqq) (x5 : ThingD) : List AB := [.cells 28 ((cBx c).map .p), yT cf cl, .cells 83 [sp bZ 2 0, .sl 3 bX 1 0 b0, (.sl 1 w 7 0 (Int.toNat (w6 (((v6 : Nat) : Int) - 1)))), ls 1 Zc i, ls 1 eI64 o, i6 u, i6 b1, vb b2], yU bX b3, .row 28 4 0 (ra cBx ([])), .cells 77 ((Za x5).map .p), .cells 77 ((Za x5).map .p), yT0]
abbrev ZO (w : Nat) (F : Tqq) (x : Bool) (R Q v6 : Nat) (v7 : Int) (v8 : Bool) (v9 : Iqq) (x5 : ThingD) : List AB := [.cells 28 ((cBx c).map .p), yT w F, .cells 83 [sp x 2 0, .sl 3 R 1 0 Q, (.sl 1 w 7 0 (Int.toNat (w6 (((v6 : Nat) : Int) - 1)))), ls 1 Zc i, ls 1 eI64 o, i6 u, i6 v7, vb v8], yU R v9, .row 28 4 0 (ra cBx []), .cells 77 ((Za x5).map .p)]
abbrev Un (w : Nat) (F : Tqq) (bL : Bool) (bE Q v6 : Nat) (x5 : ThingD) (bM : Iqq) : List AB := [.cells 28 ((cBx c).map .p), yT w F, .cells 83 [sp bL 2 0, (.sl 3 bE 1 0 (Q + 1)), (.sl 1 w 7 0 (Int.toNat (w6 (((v6 : Nat) : Int) - 1)))), ls 1 Zc i, ls 1 eI64 o, i6 u, i6 x5.depth, vb true], yU bE bM, .row 28 4 0 (ra cBx []), .cells 77 ((Za x5).map .p), .row 5 1 0 [[vi .u8 10]]]
abbrev Vf (bp : Nat) (bx : Tqq) (x : Bool) (R Q w v6 : Nat) (v7 : Int) (v8 : Bool) (v9 : Iqq) (x5 : ThingD) : List AB := [.cells 28 ((cBx c).map .p), yT bp bx, .cells 83 [sp x 2 0, .sl 3 R 1 0 Q, (.sl 1 w 7 0 (Int.toNat (w6 (((v6 : Nat) : Int) - 1)))), ls 1 Zc i, ls 1 eI64 o, i6 u, i6 v7, vb v8], yU R v9, .row 28 4 0 (ra cBx ([])), .cells 77 ((Za x5).map .p), .cells 77 ((Za x5).map .p), yT0]
theorem Fw (w : Nat) (F : Tqq) (x : Bool) (R Q v6 : Nat) (v7 : Int) (v8 : Bool) (v9 : Iqq) {r : E_L27_0 ⊕ (Nat × Tqq × Bool × Nat × Nat × Nat × Int × Bool × Iqq)} (h : M9 i o u w F x R Q v6 v7 v8 v9 = some r) : OkR (fun e => La c i o u e (Ta c i o u w F x R Q v6 v7 v8 v9)) (fun s => Ta c i o u w F x R Q v6 v7 v8 v9 = Ta c i o u s.1 s.2.1 s.2.2.1 s.2.2.2.1 s.2.2.2.2.1 s.2.2.2.2.2.1 s.2.2.2.2.2.2.1 s.2.2.2.2.2.2.2.1 s.2.2.2.2.2.2.2.2) r := by
 unfold M9 at h
 apply bi h <;> intro h1 h
 ·
  apply bn h; intro x2 h2 h
  have q0 := ((G8 c w F x R Q v6 i o u v7 v8 v9 h2) : CS prg 49 [.ptr 2 0] (TJ c i o u w F x R Q v6 v7 v8 v9) = some ((i6 x2), TJ c i o u w F x R Q v6 v7 v8 v9))
  have k1 := ka [(11, .d true), (16, .r (i6 x2) (TJ c i o u w F x R Q v6 v7 v8 v9))] (av h1 (apc q0 apn))
  apply bi h <;> intro h3 h
  ·
   apply bn h; intro x4 h4 h
   have q2 := ((ZP h4) : idxA 7 (.sl 1 w 7 0 v6) (i6 (w6 (((v6 : Nat) : Int) - 1))) = some (.rp 1 w 7 x4 0))
   have k3 := k1.a [(17, .d true), (29, .v (.rp 1 w 7 x4 0))] (av h3 (apc q2 apn))
   apply bn h; intro x5 h5 h
   have q4 := ((Z6 rfl h5 rfl) : ldA (TJ c i o u w F x R Q v6 v7 v8 v9) .true 7 (.rp 1 w 7 x4 0) = some (.agg ((Za x5).map .p)))
   apply bi h <;> intro h6 h
   ·
    have q5 := ((F1 (e := Za) (xs := F) rfl h6) : slA [.cells 28 ((cBx c).map .p), yT w F, .cells 83 [sp x 2 0, .sl 3 R 1 0 Q, .sl 1 w 7 0 v6, ls 1 Zc i, ls 1 eI64 o, i6 u, i6 v7, vb v8], yU R v9, .row 28 4 0 (ra cBx []), .cells 77 ((Za x5).map .p)] 7 (.sl 1 w 7 0 v6) (some 0) (some (w6 (((v6 : Nat) : Int) - 1))) = some (.sl 1 w 7 0 (Int.toNat (w6 (((v6 : Nat) : Int) - 1)))))
    have k6 := k3.a [(30, .v (.agg ((Za x5).map .p))), (42, .v (.sl 1 w 7 0 (Int.toNat (w6 (((v6 : Nat) : Int) - 1)))))] (apc q4 (apc q5 apn))
    apply bi h <;> intro h7 h
    ·
     apply bn h; intro r8 h8 h
     cases r8 with
     | k0 bZ bX b0 b1 b2 b3 =>
      apply bn h; intro r9 h9 h
      cases r9 with
      | k0 cf co cl =>
       rw [← sj h]
       exact rn ([(53, .d true), (59, .r (.tup []) (PX c i o u w F bZ bX b0 v6 b1 b2 b3 x5)), (127, .r (.sl 1 cf 7 0 co) (KD c i o u cf cl bZ bX b0 w v6 b1 b2 b3 x5)), (6000, .d true)] ++ kH k6) (k6.b (av h7 (apc ((Fa x5 c w F x R Q (Int.toNat (w6 (((v6 : Nat) : Int) - 1))) i o u v7 v8 v9 h8) : CS prg 50 [.ptr 2 0, vs x5.text, i6 x5.depth] (ZO c i o u w F x R Q v6 v7 v8 v9 x5) = some ((.tup []), PX c i o u w F bZ bX b0 v6 b1 b2 b3 x5)) (apc ((Qu w (Int.toNat (w6 (((v6 : Nat) : Int) - 1))) x5 x5.depth x5.way c F bZ bX b0 (Int.toNat (w6 (((v6 : Nat) : Int) - 1))) i o u b1 b2 b3 0 ([]) x5 h9) : CS prg 55 [.ptr 2 0, (.sl 1 w 7 0 (Int.toNat (w6 (((v6 : Nat) : Int) - 1)))), (.agg ((Za x5).map .p)), i6 x5.depth, i6 x5.way] (PX c i o u w F bZ bX b0 v6 b1 b2 b3 x5) = some ((.sl 1 cf 7 0 co), KD c i o u cf cl bZ bX b0 w v6 b1 b2 b3 x5)) (apc (Z1 c i o u cf cl bZ bX b0 co b1 b2 b3) apn)))))
    ·
     apply bi h <;> intro h8 h
     ·
      have k7 := k6.a [(53, .d false), (61, .d true)] (av h7 (av h8 apn))
      apply bi h <;> intro h9 h
      ·
       apply bn h; intro b5 bq h
       cases b5 with
       | k0 bL bE bM =>
        rw [← sj h]
        exact rn ([(63, .d true), (66, .r (.tup []) (Un c i o u w F bL bE Q v6 x5 bM)), (6000, .d true)] ++ kH k7) (k7.b (av h9 (apc ((Kw x5 c w F x R Q (Int.toNat (w6 (((v6 : Nat) : Int) - 1))) i o u v7 v8 v9 bq) : CS prg 51 [.ptr 2 0, i6 x5.depth] (ZO c i o u w F x R Q v6 v7 v8 v9 x5) = some ((.tup []), Un c i o u w F bL bE Q v6 x5 bM)) (apc (Z1 c i o u w F bL bE (Q + 1) (Int.toNat (w6 (((v6 : Nat) : Int) - 1))) x5.depth true bM) apn))))
      ·
       apply bn h; intro x10 bq h
       apply bn h; intro b6 bt h
       cases b6 with
       | k0 b7 bY bF cg =>
        apply bn h; intro bG bv h
        cases bG with
        | k0 bp bB bx =>
         rw [← sj h]
         exact rn ([(63, .d false), (73, .v (vs x10)), (74, .r (.tup [i6 b7, (.p (.val .nilIface))]) [.cells 28 ((cBx c).map .p), yT w F, .cells 83 [sp bY 2 0, (.sl 3 bF 1 0 (Q + (Zl x10).length)), (.sl 1 w 7 0 (Int.toNat (w6 (((v6 : Nat) : Int) - 1)))), ls 1 Zc i, ls 1 eI64 o, i6 u, i6 v7, vb v8], yU bF cg, .row 28 4 0 (ra cBx []), .cells 77 ((Za x5).map .p)]), (127, .r (.sl 1 bp 7 0 bB) [.cells 28 ((cBx c).map .p), yT bp bx, .cells 83 [sp bY 2 0, (.sl 3 bF 1 0 (Q + (Zl x10).length)), (.sl 1 w 7 0 (Int.toNat (w6 (((v6 : Nat) : Int) - 1)))), ls 1 Zc i, ls 1 eI64 o, i6 u, (i6 (w6 (v7 + x5.n))), vb v8], yU bF cg, .row 28 4 0 (ra cBx ([])), .cells 77 ((Za x5).map .p), .cells 77 ((Za x5).map .p), yT0]), (6000, .d true)] ++ kH k7) (k7.b (av h9 (apc (((F8 (⟨([32] : List UInt8).toArray⟩ : ByteArray) x5.n bq).cp rfl _) : CP prg 53 [(vs (⟨([32] : List UInt8).toArray⟩ : ByteArray)), i6 x5.n] (ZO c i o u w F x R Q v6 v7 v8 v9 x5) = some (vs x10)) (apc ((Kk x10 c w F x R Q (Int.toNat (w6 (((v6 : Nat) : Int) - 1))) i o u v7 v8 v9 x5 bt) : CS prg 52 [.ptr 2 0, vs x10] (ZO c i o u w F x R Q v6 v7 v8 v9 x5) = some ((.tup [i6 b7, (.p (.val .nilIface))]), [.cells 28 ((cBx c).map .p), yT w F, .cells 83 [sp bY 2 0, (.sl 3 bF 1 0 (Q + (Zl x10).length)), (.sl 1 w 7 0 (Int.toNat (w6 (((v6 : Nat) : Int) - 1)))), ls 1 Zc i, ls 1 eI64 o, i6 u, i6 v7, vb v8], yU bF cg, .row 28 4 0 (ra cBx []), .cells 77 ((Za x5).map .p)])) (apc ((Qu w (Int.toNat (w6 (((v6 : Nat) : Int) - 1))) x5 x5.depth x5.way c F bY bF (Q + (Zl x10).length) (Int.toNat (w6 (((v6 : Nat) : Int) - 1))) i o u (w6 (v7 + x5.n)) v8 cg 0 ([]) x5 bv) : CS prg 55 [.ptr 2 0, (.sl 1 w 7 0 (Int.toNat (w6 (((v6 : Nat) : Int) - 1)))), (.agg ((Za x5).map .p)), i6 x5.depth, i6 x5.way] [.cells 28 ((cBx c).map .p), yT w F, .cells 83 [sp bY 2 0, (.sl 3 bF 1 0 (Q + (Zl x10).length)), (.sl 1 w 7 0 (Int.toNat (w6 (((v6 : Nat) : Int) - 1)))), ls 1 Zc i, ls 1 eI64 o, i6 u, (i6 (w6 (v7 + x5.n))), vb v8], yU bF cg, .row 28 4 0 (ra cBx []), .cells 77 ((Za x5).map .p)] = some ((.sl 1 bp 7 0 bB), [.cells 28 ((cBx c).map .p), yT bp bx, .cells 83 [sp bY 2 0, (.sl 3 bF 1 0 (Q + (Zl x10).length)), (.sl 1 w 7 0 (Int.toNat (w6 (((v6 : Nat) : Int) - 1)))), ls 1 Zc i, ls 1 eI64 o, i6 u, (i6 (w6 (v7 + x5.n))), vb v8], yU bF cg, .row 28 4 0 (ra cBx ([])), .cells 77 ((Za x5).map .p), .cells 77 ((Za x5).map .p), yT0])) (apc (Z1 c i o u bp bx bY bF (Q + (Zl x10).length) bB (w6 (v7 + x5.n)) v8 cg) apn))))))
     ·
      have k8 := k6.a [(53, .d false), (61, .d false)] (av h7 (av h8 apn))
      apply bi h <;> intro h9 h
      ·
       apply bn h; intro b5 bq h
       cases b5 with
       | k0 bL bE bM =>
        apply bn h; intro b6 bt h
        cases b6 with
        | k0 b7 bY bF =>
         rw [← sj h]
         exact rn ([(86, .d true), (89, .r (.tup []) (Un c i o u w F bL bE Q v6 x5 bM)), (127, .r (.sl 1 b7 7 0 bY) [.cells 28 ((cBx c).map .p), yT b7 bF, .cells 83 [sp bL 2 0, (.sl 3 bE 1 0 (Q + 1)), (.sl 1 w 7 0 (Int.toNat (w6 (((v6 : Nat) : Int) - 1)))), ls 1 Zc i, ls 1 eI64 o, i6 u, i6 x5.depth, vb true], yU bE bM, .row 28 4 0 (ra cBx ([])), .cells 77 ((Za x5).map .p), .row 5 1 0 [[vi .u8 10]], .cells 77 ((Za x5).map .p), yT0]), (6000, .d true)] ++ kH k8) (k8.b (av h9 (apc ((Kw x5 c w F x R Q (Int.toNat (w6 (((v6 : Nat) : Int) - 1))) i o u v7 v8 v9 bq) : CS prg 51 [.ptr 2 0, i6 x5.depth] (ZO c i o u w F x R Q v6 v7 v8 v9 x5) = some ((.tup []), Un c i o u w F bL bE Q v6 x5 bM)) (apc ((HH w (Int.toNat (w6 (((v6 : Nat) : Int) - 1))) x5 x5.depth x5.way c F bL bE (Q + 1) (Int.toNat (w6 (((v6 : Nat) : Int) - 1))) i o u x5.depth bM 0 ([]) x5 0 10 bt) : CS prg 55 [.ptr 2 0, (.sl 1 w 7 0 (Int.toNat (w6 (((v6 : Nat) : Int) - 1)))), (.agg ((Za x5).map .p)), i6 x5.depth, i6 x5.way] (Un c i o u w F bL bE Q v6 x5 bM) = some ((.sl 1 b7 7 0 bY), [.cells 28 ((cBx c).map .p), yT b7 bF, .cells 83 [sp bL 2 0, (.sl 3 bE 1 0 (Q + 1)), (.sl 1 w 7 0 (Int.toNat (w6 (((v6 : Nat) : Int) - 1)))), ls 1 Zc i, ls 1 eI64 o, i6 u, i6 x5.depth, vb true], yU bE bM, .row 28 4 0 (ra cBx ([])), .cells 77 ((Za x5).map .p), .row 5 1 0 [[vi .u8 10]], .cells 77 ((Za x5).map .p), yT0])) (apc (Z1 c i o u b7 bF bL bE (Q + 1) bY x5.depth true bM) apn)))))
      ·
       apply bi h <;> intro bq h
       ·
        have k9 := k8.a [(86, .d false), (91, .d true)] (av h9 (av bq apn))
        apply bi h <;> intro bt h
        ·
         apply bn h; intro bG bv h
         cases bG with
         | k0 bp bB bx =>
          rw [← sj h]
          exact rn ([(94, .d true), (127, .r (.sl 1 bp 7 0 bB) (Vf c i o u bp bx x R Q w v6 v7 v8 v9 x5)), (6000, .d true)] ++ kH k9) (k9.b (av bt (apc ((Qu w (Int.toNat (w6 (((v6 : Nat) : Int) - 1))) x5 x5.depth 1 c F x R Q (Int.toNat (w6 (((v6 : Nat) : Int) - 1))) i o u v7 v8 v9 0 ([]) x5 bv) : CS prg 55 [.ptr 2 0, (.sl 1 w 7 0 (Int.toNat (w6 (((v6 : Nat) : Int) - 1)))), (.agg ((Za x5).map .p)), i6 x5.depth, i6 1] (ZO c i o u w F x R Q v6 v7 v8 v9 x5) = some ((.sl 1 bp 7 0 bB), Vf c i o u bp bx x R Q w v6 v7 v8 v9 x5)) (apc (Z1 c i o u bp bx x R Q bB v7 v8 v9) apn))))
        ·
         apply bn h; intro x12 bv h
         have k10 := k9.a [(94, .d false), (102, .v (.ro [.val (.bool x12)]))] (av bt (apc (ig Zc 1 .i64 bv) apn))
         apply bi h <;> intro bD h
         ·
          apply bn h; intro cm bC h
          cases cm with
          | k0 bH aq ay =>
           rw [← sj h]
           exact rn ([(103, .d true), (127, .r (.sl 1 bH 7 0 aq) [.cells 28 ((cBx c).map .p), yT bH ay, .cells 83 [sp x 2 0, .sl 3 R 1 0 Q, (.sl 1 w 7 0 (Int.toNat (w6 (((v6 : Nat) : Int) - 1)))), ls 1 Zc i, ls 1 eI64 o, i6 u, i6 v7, vb v8], yU R v9, .row 28 4 0 (ra cBx ([])), .cells 77 ((Za x5).map .p), .cells 77 ((Za x5).map .p), yT0]), (6000, .d true)] ++ kH k10) (k10.b (av bD (apc ((Qu w (Int.toNat (w6 (((v6 : Nat) : Int) - 1))) x5 x5.depth 0 c F x R Q (Int.toNat (w6 (((v6 : Nat) : Int) - 1))) i o u v7 v8 v9 0 ([]) x5 bC) : CS prg 55 [.ptr 2 0, (.sl 1 w 7 0 (Int.toNat (w6 (((v6 : Nat) : Int) - 1)))), (.agg ((Za x5).map .p)), i6 x5.depth, i6 0] (ZO c i o u w F x R Q v6 v7 v8 v9 x5) = some ((.sl 1 bH 7 0 aq), [.cells 28 ((cBx c).map .p), yT bH ay, .cells 83 [sp x 2 0, .sl 3 R 1 0 Q, (.sl 1 w 7 0 (Int.toNat (w6 (((v6 : Nat) : Int) - 1)))), ls 1 Zc i, ls 1 eI64 o, i6 u, i6 v7, vb v8], yU R v9, .row 28 4 0 (ra cBx ([])), .cells 77 ((Za x5).map .p), .cells 77 ((Za x5).map .p), yT0])) (apc (Z1 c i o u bH ay x R Q aq v7 v8 v9) apn))))
         ·
          apply bn h; intro cm bC h
          cases cm with
          | k0 bH aq ay aT aU aV aH aI aJ aK aL aM aN =>
           apply bi h <;> intro bw h
           ·
            apply bn h; intro bs bI h
            cases bs with
            | k0 aW bd be =>
             rw [← sj h]
             exact rn ([(103, .d false), (108, .r (vb true) [.cells 28 ((cBx c).map .p), yT w F, .cells 83 [sp x 2 0, .sl 3 R 1 0 Q, (.sl 1 w 7 0 (Int.toNat (w6 (((v6 : Nat) : Int) - 1)))), ls 1 Zc i, ls 1 eI64 o, i6 u, i6 v7, vb v8], yU R v9, .row 28 4 0 (ra cBx ([])), .cells 77 ((Za x5).map .p), .cells 73 [.ptr 2 0], .cells 77 ((Za x5).map .p), .cells 77 ((Za x5).map .p), yT 0 aq, yT ay aT, yT 0 aq, .cells 78 [.sl 10 ay 7 0 aU], .cells 3 [i6 aV], .row 28 4 0 (ra cBx []), .cells 77 [i6 aH, vs aI, i6 aJ, (.p (.lst 4 (Zb aK))), i6 aL, i6 aM, i6 aN], .row 28 4 0 (ra cBx []), .cells 77 [i6 aH, vs aI, i6 aJ, (.p (.lst 4 (Zb aK))), i6 aL, i6 aM, i6 aN], .row 28 4 0 (ra cBx []), .cells 77 [i6 aH, vs aI, i6 aJ, (.p (.lst 4 (Zb aK))), i6 aL, i6 aM, i6 aN]]), (127, .r (.sl 1 aW 7 0 bd) [.cells 28 ((cBx c).map .p), yT aW be, .cells 83 [sp x 2 0, .sl 3 R 1 0 Q, (.sl 1 w 7 0 (Int.toNat (w6 (((v6 : Nat) : Int) - 1)))), ls 1 Zc i, ls 1 eI64 o, i6 u, i6 v7, vb v8], yU R v9, .row 28 4 0 (ra cBx ([])), .cells 77 ((Za x5).map .p), .cells 73 [.ptr 2 0], .cells 77 ((Za x5).map .p), .cells 77 ((Za x5).map .p), yT 0 aq, yT ay aT, yT 0 aq, .cells 78 [.sl 10 ay 7 0 aU], .cells 3 [i6 aV], .row 28 4 0 (ra cBx ([])), .cells 77 [i6 aH, vs aI, i6 aJ, (.p (.lst 4 (Zb aK))), i6 aL, i6 aM, i6 aN], .row 28 4 0 (ra cBx ([])), .cells 77 [i6 aH, vs aI, i6 aJ, (.p (.lst 4 (Zb aK))), i6 aL, i6 aM, i6 aN], .row 28 4 0 (ra cBx ([])), .cells 77 [i6 aH, vs aI, i6 aJ, (.p (.lst 4 (Zb aK))), i6 aL, i6 aM, i6 aN], .cells 77 ((Za x5).map .p), yT0]), (6000, .d true)] ++ kH k10) (k10.b (av bD (apc (((XD x5 c w F x R Q (Int.toNat (w6 (((v6 : Nat) : Int) - 1))) i o u v7 v8 v9 bC).trans (congrArg (fun z => some (vb z, ([.cells 28 ((cBx c).map .p), yT w F, .cells 83 [sp x 2 0, .sl 3 R 1 0 Q, (.sl 1 w 7 0 (Int.toNat (w6 (((v6 : Nat) : Int) - 1)))), ls 1 Zc i, ls 1 eI64 o, i6 u, i6 v7, vb v8], yU R v9, .row 28 4 0 (ra cBx ([])), .cells 77 ((Za x5).map .p), .cells 73 [.ptr 2 0], .cells 77 ((Za x5).map .p), .cells 77 ((Za x5).map .p), yT 0 aq, yT ay aT, yT 0 aq, .cells 78 [.sl 10 ay 7 0 aU], .cells 3 [i6 aV], .row 28 4 0 (ra cBx []), .cells 77 [i6 aH, vs aI, i6 aJ, (.p (.lst 4 (Zb aK))), i6 aL, i6 aM, i6 aN], .row 28 4 0 (ra cBx []), .cells 77 [i6 aH, vs aI, i6 aJ, (.p (.lst 4 (Zb aK))), i6 aL, i6 aM, i6 aN], .row 28 4 0 (ra cBx []), .cells 77 [i6 aH, vs aI, i6 aJ, (.p (.lst 4 (Zb aK))), i6 aL, i6 aM, i6 aN]] : List AB))) bw)) : CS prg 54 [.ptr 2 0, (.agg ((Za x5).map .p))] (ZO c i o u w F x R Q v6 v7 v8 v9 x5) = some (vb true, [.cells 28 ((cBx c).map .p), yT w F, .cells 83 [sp x 2 0, .sl 3 R 1 0 Q, (.sl 1 w 7 0 (Int.toNat (w6 (((v6 : Nat) : Int) - 1)))), ls 1 Zc i, ls 1 eI64 o, i6 u, i6 v7, vb v8], yU R v9, .row 28 4 0 (ra cBx ([])), .cells 77 ((Za x5).map .p), .cells 73 [.ptr 2 0], .cells 77 ((Za x5).map .p), .cells 77 ((Za x5).map .p), yT 0 aq, yT ay aT, yT 0 aq, .cells 78 [.sl 10 ay 7 0 aU], .cells 3 [i6 aV], .row 28 4 0 (ra cBx []), .cells 77 [i6 aH, vs aI, i6 aJ, (.p (.lst 4 (Zb aK))), i6 aL, i6 aM, i6 aN], .row 28 4 0 (ra cBx []), .cells 77 [i6 aH, vs aI, i6 aJ, (.p (.lst 4 (Zb aK))), i6 aL, i6 aM, i6 aN], .row 28 4 0 (ra cBx []), .cells 77 [i6 aH, vs aI, i6 aJ, (.p (.lst 4 (Zb aK))), i6 aL, i6 aM, i6 aN]])) (apc ((NE w (Int.toNat (w6 (((v6 : Nat) : Int) - 1))) x5 x5.depth 1 c F x R Q (Int.toNat (w6 (((v6 : Nat) : Int) - 1))) i o u v7 v8 v9 0 ([]) x5 x5 x5 0 aq ay aT 0 aq aU aV 0 ([]) (⟨aH, aI, aJ, aK, aL, aM, aN⟩ : ThingD) 0 ([]) (⟨aH, aI, aJ, aK, aL, aM, aN⟩ : ThingD) 0 ([]) (⟨aH, aI, aJ, aK, aL, aM, aN⟩ : ThingD) bI) : CS prg 55 [.ptr 2 0, (.sl 1 w 7 0 (Int.toNat (w6 (((v6 : Nat) : Int) - 1)))), (.agg ((Za x5).map .p)), i6 x5.depth, i6 1] [.cells 28 ((cBx c).map .p), yT w F, .cells 83 [sp x 2 0, .sl 3 R 1 0 Q, (.sl 1 w 7 0 (Int.toNat (w6 (((v6 : Nat) : Int) - 1)))), ls 1 Zc i, ls 1 eI64 o, i6 u, i6 v7, vb v8], yU R v9, .row 28 4 0 (ra cBx ([])), .cells 77 ((Za x5).map .p), .cells 73 [.ptr 2 0], .cells 77 ((Za x5).map .p), .cells 77 ((Za x5).map .p), yT 0 aq, yT ay aT, yT 0 aq, .cells 78 [.sl 10 ay 7 0 aU], .cells 3 [i6 aV], .row 28 4 0 (ra cBx []), .cells 77 [i6 aH, vs aI, i6 aJ, (.p (.lst 4 (Zb aK))), i6 aL, i6 aM, i6 aN], .row 28 4 0 (ra cBx []), .cells 77 [i6 aH, vs aI, i6 aJ, (.p (.lst 4 (Zb aK))), i6 aL, i6 aM, i6 aN], .row 28 4 0 (ra cBx []), .cells 77 [i6 aH, vs aI, i6 aJ, (.p (.lst 4 (Zb aK))), i6 aL, i6 aM, i6 aN]] = some ((.sl 1 aW 7 0 bd), [.cells 28 ((cBx c).map .p), yT aW be, .cells 83 [sp x 2 0, .sl 3 R 1 0 Q, (.sl 1 w 7 0 (Int.toNat (w6 (((v6 : Nat) : Int) - 1)))), ls 1 Zc i, ls 1 eI64 o, i6 u, i6 v7, vb v8], yU R v9, .row 28 4 0 (ra cBx ([])), .cells 77 ((Za x5).map .p), .cells 73 [.ptr 2 0], .cells 77 ((Za x5).map .p), .cells 77 ((Za x5).map .p), yT 0 aq, yT ay aT, yT 0 aq, .cells 78 [.sl 10 ay 7 0 aU], .cells 3 [i6 aV], .row 28 4 0 (ra cBx ([])), .cells 77 [i6 aH, vs aI, i6 aJ, (.p (.lst 4 (Zb aK))), i6 aL, i6 aM, i6 aN], .row 28 4 0 (ra cBx ([])), .cells 77 [i6 aH, vs aI, i6 aJ, (.p (.lst 4 (Zb aK))), i6 aL, i6 aM, i6 aN], .row 28 4 0 (ra cBx ([])), .cells 77 [i6 aH, vs aI, i6 aJ, (.p (.lst 4 (Zb aK))), i6 aL, i6 aM, i6 aN], .cells 77 ((Za x5).map .p), yT0])) (apc (Z1 c i o u aW be x R Q bd v7 v8 v9) apn)))))
           ·
            apply bn h; intro bs bI h
            cases bs with
            | k0 aW bd be =>
             rw [← sj h]
             exact rn ([(103, .d false), (108, .r (vb false) [.cells 28 ((cBx c).map .p), yT w F, .cells 83 [sp x 2 0, .sl 3 R 1 0 Q, (.sl 1 w 7 0 (Int.toNat (w6 (((v6 : Nat) : Int) - 1)))), ls 1 Zc i, ls 1 eI64 o, i6 u, i6 v7, vb v8], yU R v9, .row 28 4 0 (ra cBx ([])), .cells 77 ((Za x5).map .p), .cells 73 [.ptr 2 0], .cells 77 ((Za x5).map .p), .cells 77 ((Za x5).map .p), yT 0 aq, yT ay aT, yT 0 aq, .cells 78 [.sl 10 ay 7 0 aU], .cells 3 [i6 aV], .row 28 4 0 (ra cBx []), .cells 77 [i6 aH, vs aI, i6 aJ, (.p (.lst 4 (Zb aK))), i6 aL, i6 aM, i6 aN], .row 28 4 0 (ra cBx []), .cells 77 [i6 aH, vs aI, i6 aJ, (.p (.lst 4 (Zb aK))), i6 aL, i6 aM, i6 aN], .row 28 4 0 (ra cBx []), .cells 77 [i6 aH, vs aI, i6 aJ, (.p (.lst 4 (Zb aK))), i6 aL, i6 aM, i6 aN]]), (127, .r (.sl 1 aW 7 0 bd) [.cells 28 ((cBx c).map .p), yT aW be, .cells 83 [sp x 2 0, .sl 3 R 1 0 Q, (.sl 1 w 7 0 (Int.toNat (w6 (((v6 : Nat) : Int) - 1)))), ls 1 Zc i, ls 1 eI64 o, i6 u, i6 v7, vb v8], yU R v9, .row 28 4 0 (ra cBx ([])), .cells 77 ((Za x5).map .p), .cells 73 [.ptr 2 0], .cells 77 ((Za x5).map .p), .cells 77 ((Za x5).map .p), yT 0 aq, yT ay aT, yT 0 aq, .cells 78 [.sl 10 ay 7 0 aU], .cells 3 [i6 aV], .row 28 4 0 (ra cBx ([])), .cells 77 [i6 aH, vs aI, i6 aJ, (.p (.lst 4 (Zb aK))), i6 aL, i6 aM, i6 aN], .row 28 4 0 (ra cBx ([])), .cells 77 [i6 aH, vs aI, i6 aJ, (.p (.lst 4 (Zb aK))), i6 aL, i6 aM, i6 aN], .row 28 4 0 (ra cBx ([])), .cells 77 [i6 aH, vs aI, i6 aJ, (.p (.lst 4 (Zb aK))), i6 aL, i6 aM, i6 aN], .cells 77 ((Za x5).map .p), yT0]), (6000, .d true)] ++ kH k10) (k10.b (av bD (apc (((XD x5 c w F x R Q (Int.toNat (w6 (((v6 : Nat) : Int) - 1))) i o u v7 v8 v9 bC).trans (congrArg (fun z => some (vb z, ([.cells 28 ((cBx c).map .p), yT w F, .cells 83 [sp x 2 0, .sl 3 R 1 0 Q, (.sl 1 w 7 0 (Int.toNat (w6 (((v6 : Nat) : Int) - 1)))), ls 1 Zc i, ls 1 eI64 o, i6 u, i6 v7, vb v8], yU R v9, .row 28 4 0 (ra cBx ([])), .cells 77 ((Za x5).map .p), .cells 73 [.ptr 2 0], .cells 77 ((Za x5).map .p), .cells 77 ((Za x5).map .p), yT 0 aq, yT ay aT, yT 0 aq, .cells 78 [.sl 10 ay 7 0 aU], .cells 3 [i6 aV], .row 28 4 0 (ra cBx []), .cells 77 [i6 aH, vs aI, i6 aJ, (.p (.lst 4 (Zb aK))), i6 aL, i6 aM, i6 aN], .row 28 4 0 (ra cBx []), .cells 77 [i6 aH, vs aI, i6 aJ, (.p (.lst 4 (Zb aK))), i6 aL, i6 aM, i6 aN], .row 28 4 0 (ra cBx []), .cells 77 [i6 aH, vs aI, i6 aJ, (.p (.lst 4 (Zb aK))), i6 aL, i6 aM, i6 aN]] : List AB))) bw)) : CS prg 54 [.ptr 2 0, (.agg ((Za x5).map .p))] (ZO c i o u w F x R Q v6 v7 v8 v9 x5) = some (vb false, [.cells 28 ((cBx c).map .p), yT w F, .cells 83 [sp x 2 0, .sl 3 R 1 0 Q, (.sl 1 w 7 0 (Int.toNat (w6 (((v6 : Nat) : Int) - 1)))), ls 1 Zc i, ls 1 eI64 o, i6 u, i6 v7, vb v8], yU R v9, .row 28 4 0 (ra cBx ([])), .cells 77 ((Za x5).map .p), .cells 73 [.ptr 2 0], .cells 77 ((Za x5).map .p), .cells 77 ((Za x5).map .p), yT 0 aq, yT ay aT, yT 0 aq, .cells 78 [.sl 10 ay 7 0 aU], .cells 3 [i6 aV], .row 28 4 0 (ra cBx []), .cells 77 [i6 aH, vs aI, i6 aJ, (.p (.lst 4 (Zb aK))), i6 aL, i6 aM, i6 aN], .row 28 4 0 (ra cBx []), .cells 77 [i6 aH, vs aI, i6 aJ, (.p (.lst 4 (Zb aK))), i6 aL, i6 aM, i6 aN], .row 28 4 0 (ra cBx []), .cells 77 [i6 aH, vs aI, i6 aJ, (.p (.lst 4 (Zb aK))), i6 aL, i6 aM, i6 aN]])) (apc ((NE w (Int.toNat (w6 (((v6 : Nat) : Int) - 1))) x5 x5.depth 0 c F x R Q (Int.toNat (w6 (((v6 : Nat) : Int) - 1))) i o u v7 v8 v9 0 ([]) x5 x5 x5 0 aq ay aT 0 aq aU aV 0 ([]) (⟨aH, aI, aJ, aK, aL, aM, aN⟩ : ThingD) 0 ([]) (⟨aH, aI, aJ, aK, aL, aM, aN⟩ : ThingD) 0 ([]) (⟨aH, aI, aJ, aK, aL, aM, aN⟩ : ThingD) bI) : CS prg 55 [.ptr 2 0, (.sl 1 w 7 0 (Int.toNat (w6 (((v6 : Nat) : Int) - 1)))), (.agg ((Za x5).map .p)), i6 x5.depth, i6 0] [.cells 28 ((cBx c).map .p), yT w F, .cells 83 [sp x 2 0, .sl 3 R 1 0 Q, (.sl 1 w 7 0 (Int.toNat (w6 (((v6 : Nat) : Int) - 1)))), ls 1 Zc i, ls 1 eI64 o, i6 u, i6 v7, vb v8], yU R v9, .row 28 4 0 (ra cBx ([])), .cells 77 ((Za x5).map .p), .cells 73 [.ptr 2 0], .cells 77 ((Za x5).map .p), .cells 77 ((Za x5).map .p), yT 0 aq, yT ay aT, yT 0 aq, .cells 78 [.sl 10 ay 7 0 aU], .cells 3 [i6 aV], .row 28 4 0 (ra cBx []), .cells 77 [i6 aH, vs aI, i6 aJ, (.p (.lst 4 (Zb aK))), i6 aL, i6 aM, i6 aN], .row 28 4 0 (ra cBx []), .cells 77 [i6 aH, vs aI, i6 aJ, (.p (.lst 4 (Zb aK))), i6 aL, i6 aM, i6 aN], .row 28 4 0 (ra cBx []), .cells 77 [i6 aH, vs aI, i6 aJ, (.p (.lst 4 (Zb aK))), i6 aL, i6 aM, i6 aN]] = some ((.sl 1 aW 7 0 bd), [.cells 28 ((cBx c).map .p), yT aW be, .cells 83 [sp x 2 0, .sl 3 R 1 0 Q, (.sl 1 w 7 0 (Int.toNat (w6 (((v6 : Nat) : Int) - 1)))), ls 1 Zc i, ls 1 eI64 o, i6 u, i6 v7, vb v8], yU R v9, .row 28 4 0 (ra cBx ([])), .cells 77 ((Za x5).map .p), .cells 73 [.ptr 2 0], .cells 77 ((Za x5).map .p), .cells 77 ((Za x5).map .p), yT 0 aq, yT ay aT, yT 0 aq, .cells 78 [.sl 10 ay 7 0 aU], .cells 3 [i6 aV], .row 28 4 0 (ra cBx ([])), .cells 77 [i6 aH, vs aI, i6 aJ, (.p (.lst 4 (Zb aK))), i6 aL, i6 aM, i6 aN], .row 28 4 0 (ra cBx ([])), .cells 77 [i6 aH, vs aI, i6 aJ, (.p (.lst 4 (Zb aK))), i6 aL, i6 aM, i6 aN], .row 28 4 0 (ra cBx ([])), .cells 77 [i6 aH, vs aI, i6 aJ, (.p (.lst 4 (Zb aK))), i6 aL, i6 aM, i6 aN], .cells 77 ((Za x5).map .p), yT0])) (apc (Z1 c i o u aW be x R Q bd v7 v8 v9) apn)))))
          | k1 bH aq ay aT aU aV =>
           apply bi h <;> intro bw h
           ·
            apply bn h; intro bs bI h
            cases bs with
            | k0 aW bd be =>
             rw [← sj h]
             exact rn ([(103, .d false), (108, .r (vb true) [.cells 28 ((cBx c).map .p), yT w F, .cells 83 [sp x 2 0, .sl 3 R 1 0 Q, (.sl 1 w 7 0 (Int.toNat (w6 (((v6 : Nat) : Int) - 1)))), ls 1 Zc i, ls 1 eI64 o, i6 u, i6 v7, vb v8], yU R v9, .row 28 4 0 (ra cBx ([])), .cells 77 ((Za x5).map .p), .cells 73 [.ptr 2 0], .cells 77 ((Za x5).map .p), .cells 77 ((Za x5).map .p), yT 0 aq, yT ay aT, yT 0 aq, .cells 78 [.sl 10 ay 7 0 aU], .cells 3 [i6 aV], .row 28 4 0 (ra cBx []), .cells 77 [i6 0, (vs Eqq), i6 0, n0, i6 0, i6 0, i6 0], .row 28 4 0 (ra cBx []), .cells 77 [i6 0, (vs Eqq), i6 0, n0, i6 0, i6 0, i6 0]]), (127, .r (.sl 1 aW 7 0 bd) [.cells 28 ((cBx c).map .p), yT aW be, .cells 83 [sp x 2 0, .sl 3 R 1 0 Q, (.sl 1 w 7 0 (Int.toNat (w6 (((v6 : Nat) : Int) - 1)))), ls 1 Zc i, ls 1 eI64 o, i6 u, i6 v7, vb v8], yU R v9, .row 28 4 0 (ra cBx ([])), .cells 77 ((Za x5).map .p), .cells 73 [.ptr 2 0], .cells 77 ((Za x5).map .p), .cells 77 ((Za x5).map .p), yT 0 aq, yT ay aT, yT 0 aq, .cells 78 [.sl 10 ay 7 0 aU], .cells 3 [i6 aV], .row 28 4 0 (ra cBx ([])), .cells 77 [i6 0, (vs Eqq), i6 0, n0, i6 0, i6 0, i6 0], .row 28 4 0 (ra cBx ([])), .cells 77 [i6 0, (vs Eqq), i6 0, n0, i6 0, i6 0, i6 0], .cells 77 ((Za x5).map .p), yT0]), (6000, .d true)] ++ kH k10) (k10.b (av bD (apc (((XD x5 c w F x R Q (Int.toNat (w6 (((v6 : Nat) : Int) - 1))) i o u v7 v8 v9 bC).trans (congrArg (fun z => some (vb z, ([.cells 28 ((cBx c).map .p), yT w F, .cells 83 [sp x 2 0, .sl 3 R 1 0 Q, (.sl 1 w 7 0 (Int.toNat (w6 (((v6 : Nat) : Int) - 1)))), ls 1 Zc i, ls 1 eI64 o, i6 u, i6 v7, vb v8], yU R v9, .row 28 4 0 (ra cBx ([])), .cells 77 ((Za x5).map .p), .cells 73 [.ptr 2 0], .cells 77 ((Za x5).map .p), .cells 77 ((Za x5).map .p), yT 0 aq, yT ay aT, yT 0 aq, .cells 78 [.sl 10 ay 7 0 aU], .cells 3 [i6 aV], .row 28 4 0 (ra cBx []), .cells 77 [i6 0, (vs Eqq), i6 0, n0, i6 0, i6 0, i6 0], .row 28 4 0 (ra cBx []), .cells 77 [i6 0, (vs Eqq), i6 0, n0, i6 0, i6 0, i6 0]] : List AB))) bw)) : CS prg 54 [.ptr 2 0, (.agg ((Za x5).map .p))] (ZO c i o u w F x R Q v6 v7 v8 v9 x5) = some (vb true, [.cells 28 ((cBx c).map .p), yT w F, .cells 83 [sp x 2 0, .sl 3 R 1 0 Q, (.sl 1 w 7 0 (Int.toNat (w6 (((v6 : Nat) : Int) - 1)))), ls 1 Zc i, ls 1 eI64 o, i6 u, i6 v7, vb v8], yU R v9, .row 28 4 0 (ra cBx ([])), .cells 77 ((Za x5).map .p), .cells 73 [.ptr 2 0], .cells 77 ((Za x5).map .p), .cells 77 ((Za x5).map .p), yT 0 aq, yT ay aT, yT 0 aq, .cells 78 [.sl 10 ay 7 0 aU], .cells 3 [i6 aV], .row 28 4 0 (ra cBx []), .cells 77 [i6 0, (vs Eqq), i6 0, n0, i6 0, i6 0, i6 0], .row 28 4 0 (ra cBx []), .cells 77 [i6 0, (vs Eqq), i6 0, n0, i6 0, i6 0, i6 0]])) (apc ((NJ w (Int.toNat (w6 (((v6 : Nat) : Int) - 1))) x5 x5.depth 1 c F x R Q (Int.toNat (w6 (((v6 : Nat) : Int) - 1))) i o u v7 v8 v9 0 ([]) x5 x5 x5 0 aq ay aT 0 aq aU aV 0 ([]) 0 Eqq 0 0 0 0 0 ([]) 0 Eqq 0 0 0 0 bI) : CS prg 55 [.ptr 2 0, (.sl 1 w 7 0 (Int.toNat (w6 (((v6 : Nat) : Int) - 1)))), (.agg ((Za x5).map .p)), i6 x5.depth, i6 1] [.cells 28 ((cBx c).map .p), yT w F, .cells 83 [sp x 2 0, .sl 3 R 1 0 Q, (.sl 1 w 7 0 (Int.toNat (w6 (((v6 : Nat) : Int) - 1)))), ls 1 Zc i, ls 1 eI64 o, i6 u, i6 v7, vb v8], yU R v9, .row 28 4 0 (ra cBx ([])), .cells 77 ((Za x5).map .p), .cells 73 [.ptr 2 0], .cells 77 ((Za x5).map .p), .cells 77 ((Za x5).map .p), yT 0 aq, yT ay aT, yT 0 aq, .cells 78 [.sl 10 ay 7 0 aU], .cells 3 [i6 aV], .row 28 4 0 (ra cBx []), .cells 77 [i6 0, (vs Eqq), i6 0, n0, i6 0, i6 0, i6 0], .row 28 4 0 (ra cBx []), .cells 77 [i6 0, (vs Eqq), i6 0, n0, i6 0, i6 0, i6 0]] = some ((.sl 1 aW 7 0 bd), [.cells 28 ((cBx c).map .p), yT aW be, .cells 83 [sp x 2 0, .sl 3 R 1 0 Q, (.sl 1 w 7 0 (Int.toNat (w6 (((v6 : Nat) : Int) - 1)))), ls 1 Zc i, ls 1 eI64 o, i6 u, i6 v7, vb v8], yU R v9, .row 28 4 0 (ra cBx ([])), .cells 77 ((Za x5).map .p), .cells 73 [.ptr 2 0], .cells 77 ((Za x5).map .p), .cells 77 ((Za x5).map .p), yT 0 aq, yT ay aT, yT 0 aq, .cells 78 [.sl 10 ay 7 0 aU], .cells 3 [i6 aV], .row 28 4 0 (ra cBx ([])), .cells 77 [i6 0, (vs Eqq), i6 0, n0, i6 0, i6 0, i6 0], .row 28 4 0 (ra cBx ([])), .cells 77 [i6 0, (vs Eqq), i6 0, n0, i6 0, i6 0, i6 0], .cells 77 ((Za x5).map .p), yT0])) (apc (Z1 c i o u aW be x R Q bd v7 v8 v9) apn)))))
           ·
            apply bn h; intro bs bI h
            cases bs with
            | k0 aW bd be =>
             rw [← sj h]
             exact rn ([(103, .d false), (108, .r (vb false) [.cells 28 ((cBx c).map .p), yT w F, .cells 83 [sp x 2 0, .sl 3 R 1 0 Q, (.sl 1 w 7 0 (Int.toNat (w6 (((v6 : Nat) : Int) - 1)))), ls 1 Zc i, ls 1 eI64 o, i6 u, i6 v7, vb v8], yU R v9, .row 28 4 0 (ra cBx ([])), .cells 77 ((Za x5).map .p), .cells 73 [.ptr 2 0], .cells 77 ((Za x5).map .p), .cells 77 ((Za x5).map .p), yT 0 aq, yT ay aT, yT 0 aq, .cells 78 [.sl 10 ay 7 0 aU], .cells 3 [i6 aV], .row 28 4 0 (ra cBx []), .cells 77 [i6 0, (vs Eqq), i6 0, n0, i6 0, i6 0, i6 0], .row 28 4 0 (ra cBx []), .cells 77 [i6 0, (vs Eqq), i6 0, n0, i6 0, i6 0, i6 0]]), (127, .r (.sl 1 aW 7 0 bd) [.cells 28 ((cBx c).map .p), yT aW be, .cells 83 [sp x 2 0, .sl 3 R 1 0 Q, (.sl 1 w 7 0 (Int.toNat (w6 (((v6 : Nat) : Int) - 1)))), ls 1 Zc i, ls 1 eI64 o, i6 u, i6 v7, vb v8], yU R v9, .row 28 4 0 (ra cBx ([])), .cells 77 ((Za x5).map .p), .cells 73 [.ptr 2 0], .cells 77 ((Za x5).map .p), .cells 77 ((Za x5).map .p), yT 0 aq, yT ay aT, yT 0 aq, .cells 78 [.sl 10 ay 7 0 aU], .cells 3 [i6 aV], .row 28 4 0 (ra cBx ([])), .cells 77 [i6 0, (vs Eqq), i6 0, n0, i6 0, i6 0, i6 0], .row 28 4 0 (ra cBx ([])), .cells 77 [i6 0, (vs Eqq), i6 0, n0, i6 0, i6 0, i6 0], .cells 77 ((Za x5).map .p), yT0]), (6000, .d true)] ++ kH k10) (k10.b (av bD (apc (((XD x5 c w F x R Q (Int.toNat (w6 (((v6 : Nat) : Int) - 1))) i o u v7 v8 v9 bC).trans (congrArg (fun z => some (vb z, ([.cells 28 ((cBx c).map .p), yT w F, .cells 83 [sp x 2 0, .sl 3 R 1 0 Q, (.sl 1 w 7 0 (Int.toNat (w6 (((v6 : Nat) : Int) - 1)))), ls 1 Zc i, ls 1 eI64 o, i6 u, i6 v7, vb v8], yU R v9, .row 28 4 0 (ra cBx ([])), .cells 77 ((Za x5).map .p), .cells 73 [.ptr 2 0], .cells 77 ((Za x5).map .p), .cells 77 ((Za x5).map .p), yT 0 aq, yT ay aT, yT 0 aq, .cells 78 [.sl 10 ay 7 0 aU], .cells 3 [i6 aV], .row 28 4 0 (ra cBx []), .cells 77 [i6 0, (vs Eqq), i6 0, n0, i6 0, i6 0, i6 0], .row 28 4 0 (ra cBx []), .cells 77 [i6 0, (vs Eqq), i6 0, n0, i6 0, i6 0, i6 0]] : List AB))) bw)) : CS prg 54 [.ptr 2 0, (.agg ((Za x5).map .p))] (ZO c i o u w F x R Q v6 v7 v8 v9 x5) = some (vb false, [.cells 28 ((cBx c).map .p), yT w F, .cells 83 [sp x 2 0, .sl 3 R 1 0 Q, (.sl 1 w 7 0 (Int.toNat (w6 (((v6 : Nat) : Int) - 1)))), ls 1 Zc i, ls 1 eI64 o, i6 u, i6 v7, vb v8], yU R v9, .row 28 4 0 (ra cBx ([])), .cells 77 ((Za x5).map .p), .cells 73 [.ptr 2 0], .cells 77 ((Za x5).map .p), .cells 77 ((Za x5).map .p), yT 0 aq, yT ay aT, yT 0 aq, .cells 78 [.sl 10 ay 7 0 aU], .cells 3 [i6 aV], .row 28 4 0 (ra cBx []), .cells 77 [i6 0, (vs Eqq), i6 0, n0, i6 0, i6 0, i6 0], .row 28 4 0 (ra cBx []), .cells 77 [i6 0, (vs Eqq), i6 0, n0, i6 0, i6 0, i6 0]])) (apc ((NJ w (Int.toNat (w6 (((v6 : Nat) : Int) - 1))) x5 x5.depth 0 c F x R Q (Int.toNat (w6 (((v6 : Nat) : Int) - 1))) i o u v7 v8 v9 0 ([]) x5 x5 x5 0 aq ay aT 0 aq aU aV 0 ([]) 0 Eqq 0 0 0 0 0 ([]) 0 Eqq 0 0 0 0 bI) : CS prg 55 [.ptr 2 0, (.sl 1 w 7 0 (Int.toNat (w6 (((v6 : Nat) : Int) - 1)))), (.agg ((Za x5).map .p)), i6 x5.depth, i6 0] [.cells 28 ((cBx c).map .p), yT w F, .cells 83 [sp x 2 0, .sl 3 R 1 0 Q, (.sl 1 w 7 0 (Int.toNat (w6 (((v6 : Nat) : Int) - 1)))), ls 1 Zc i, ls 1 eI64 o, i6 u, i6 v7, vb v8], yU R v9, .row 28 4 0 (ra cBx ([])), .cells 77 ((Za x5).map .p), .cells 73 [.ptr 2 0], .cells 77 ((Za x5).map .p), .cells 77 ((Za x5).map .p), yT 0 aq, yT ay aT, yT 0 aq, .cells 78 [.sl 10 ay 7 0 aU], .cells 3 [i6 aV], .row 28 4 0 (ra cBx []), .cells 77 [i6 0, (vs Eqq), i6 0, n0, i6 0, i6 0, i6 0], .row 28 4 0 (ra cBx []), .cells 77 [i6 0, (vs Eqq), i6 0, n0, i6 0, i6 0, i6 0]] = some ((.sl 1 aW 7 0 bd), [.cells 28 ((cBx c).map .p), yT aW be, .cells 83 [sp x 2 0, .sl 3 R 1 0 Q, (.sl 1 w 7 0 (Int.toNat (w6 (((v6 : Nat) : Int) - 1)))), ls 1 Zc i, ls 1 eI64 o, i6 u, i6 v7, vb v8], yU R v9, .row 28 4 0 (ra cBx ([])), .cells 77 ((Za x5).map .p), .cells 73 [.ptr 2 0], .cells 77 ((Za x5).map .p), .cells 77 ((Za x5).map .p), yT 0 aq, yT ay aT, yT 0 aq, .cells 78 [.sl 10 ay 7 0 aU], .cells 3 [i6 aV], .row 28 4 0 (ra cBx ([])), .cells 77 [i6 0, (vs Eqq), i6 0, n0, i6 0, i6 0, i6 0], .row 28 4 0 (ra cBx ([])), .cells 77 [i6 0, (vs Eqq), i6 0, n0, i6 0, i6 0, i6 0], .cells 77 ((Za x5).map .p), yT0])) (apc (Z1 c i o u aW be x R Q bd v7 v8 v9) apn)))))
          | k2 bH aq ay aT aU aV aH aI aJ aK aL aM aN =>
           apply bi h <;> intro bw h
           ·
            apply bn h; intro bs bI h
            cases bs with
            | k0 aW bd be =>
             rw [← sj h]
             exact rn ([(103, .d false), (108, .r (vb true) [.cells 28 ((cBx c).map .p), yT w F, .cells 83 [sp x 2 0, .sl 3 R 1 0 Q, (.sl 1 w 7 0 (Int.toNat (w6 (((v6 : Nat) : Int) - 1)))), ls 1 Zc i, ls 1 eI64 o, i6 u, i6 v7, vb v8], yU R v9, .row 28 4 0 (ra cBx ([])), .cells 77 ((Za x5).map .p), .cells 73 [.ptr 2 0], .cells 77 ((Za x5).map .p), .cells 77 ((Za x5).map .p), yT 0 aq, yT ay aT, yT 0 aq, .cells 78 [.sl 10 ay 7 0 aU], .cells 3 [i6 aV], .row 28 4 0 (ra cBx []), .cells 77 [i6 aH, vs aI, i6 aJ, (.p (.lst 4 (Zb aK))), i6 aL, i6 aM, i6 aN], .row 28 4 0 (ra cBx []), .cells 77 [i6 aH, vs aI, i6 aJ, (.p (.lst 4 (Zb aK))), i6 aL, i6 aM, i6 aN]]), (127, .r (.sl 1 aW 7 0 bd) [.cells 28 ((cBx c).map .p), yT aW be, .cells 83 [sp x 2 0, .sl 3 R 1 0 Q, (.sl 1 w 7 0 (Int.toNat (w6 (((v6 : Nat) : Int) - 1)))), ls 1 Zc i, ls 1 eI64 o, i6 u, i6 v7, vb v8], yU R v9, .row 28 4 0 (ra cBx ([])), .cells 77 ((Za x5).map .p), .cells 73 [.ptr 2 0], .cells 77 ((Za x5).map .p), .cells 77 ((Za x5).map .p), yT 0 aq, yT ay aT, yT 0 aq, .cells 78 [.sl 10 ay 7 0 aU], .cells 3 [i6 aV], .row 28 4 0 (ra cBx ([])), .cells 77 [i6 aH, vs aI, i6 aJ, (.p (.lst 4 (Zb aK))), i6 aL, i6 aM, i6 aN], .row 28 4 0 (ra cBx ([])), .cells 77 [i6 aH, vs aI, i6 aJ, (.p (.lst 4 (Zb aK))), i6 aL, i6 aM, i6 aN], .cells 77 ((Za x5).map .p), yT0]), (6000, .d true)] ++ kH k10) (k10.b (av bD (apc (((XD x5 c w F x R Q (Int.toNat (w6 (((v6 : Nat) : Int) - 1))) i o u v7 v8 v9 bC).trans (congrArg (fun z => some (vb z, ([.cells 28 ((cBx c).map .p), yT w F, .cells 83 [sp x 2 0, .sl 3 R 1 0 Q, (.sl 1 w 7 0 (Int.toNat (w6 (((v6 : Nat) : Int) - 1)))), ls 1 Zc i, ls 1 eI64 o, i6 u, i6 v7, vb v8], yU R v9, .row 28 4 0 (ra cBx ([])), .cells 77 ((Za x5).map .p), .cells 73 [.ptr 2 0], .cells 77 ((Za x5).map .p), .cells 77 ((Za x5).map .p), yT 0 aq, yT ay aT, yT 0 aq, .cells 78 [.sl 10 ay 7 0 aU], .cells 3 [i6 aV], .row 28 4 0 (ra cBx []), .cells 77 [i6 aH, vs aI, i6 aJ, (.p (.lst 4 (Zb aK))), i6 aL, i6 aM, i6 aN], .row 28 4 0 (ra cBx []), .cells 77 [i6 aH, vs aI, i6 aJ, (.p (.lst 4 (Zb aK))), i6 aL, i6 aM, i6 aN]] : List AB))) bw)) : CS prg 54 [.ptr 2 0, (.agg ((Za x5).map .p))] (ZO c i o u w F x R Q v6 v7 v8 v9 x5) = some (vb true, [.cells 28 ((cBx c).map .p), yT w F, .cells 83 [sp x 2 0, .sl 3 R 1 0 Q, (.sl 1 w 7 0 (Int.toNat (w6 (((v6 : Nat) : Int) - 1)))), ls 1 Zc i, ls 1 eI64 o, i6 u, i6 v7, vb v8], yU R v9, .row 28 4 0 (ra cBx ([])), .cells 77 ((Za x5).map .p), .cells 73 [.ptr 2 0], .cells 77 ((Za x5).map .p), .cells 77 ((Za x5).map .p), yT 0 aq, yT ay aT, yT 0 aq, .cells 78 [.sl 10 ay 7 0 aU], .cells 3 [i6 aV], .row 28 4 0 (ra cBx []), .cells 77 [i6 aH, vs aI, i6 aJ, (.p (.lst 4 (Zb aK))), i6 aL, i6 aM, i6 aN], .row 28 4 0 (ra cBx []), .cells 77 [i6 aH, vs aI, i6 aJ, (.p (.lst 4 (Zb aK))), i6 aL, i6 aM, i6 aN]])) (apc ((NO w (Int.toNat (w6 (((v6 : Nat) : Int) - 1))) x5 x5.depth 1 c F x R Q (Int.toNat (w6 (((v6 : Nat) : Int) - 1))) i o u v7 v8 v9 0 ([]) x5 x5 x5 0 aq ay aT 0 aq aU aV 0 ([]) (⟨aH, aI, aJ, aK, aL, aM, aN⟩ : ThingD) 0 ([]) (⟨aH, aI, aJ, aK, aL, aM, aN⟩ : ThingD) bI) : CS prg 55 [.ptr 2 0, (.sl 1 w 7 0 (Int.toNat (w6 (((v6 : Nat) : Int) - 1)))), (.agg ((Za x5).map .p)), i6 x5.depth, i6 1] [.cells 28 ((cBx c).map .p), yT w F, .cells 83 [sp x 2 0, .sl 3 R 1 0 Q, (.sl 1 w 7 0 (Int.toNat (w6 (((v6 : Nat) : Int) - 1)))), ls 1 Zc i, ls 1 eI64 o, i6 u, i6 v7, vb v8], yU R v9, .row 28 4 0 (ra cBx ([])), .cells 77 ((Za x5).map .p), .cells 73 [.ptr 2 0], .cells 77 ((Za x5).map .p), .cells 77 ((Za x5).map .p), yT 0 aq, yT ay aT, yT 0 aq, .cells 78 [.sl 10 ay 7 0 aU], .cells 3 [i6 aV], .row 28 4 0 (ra cBx []), .cells 77 [i6 aH, vs aI, i6 aJ, (.p (.lst 4 (Zb aK))), i6 aL, i6 aM, i6 aN], .row 28 4 0 (ra cBx []), .cells 77 [i6 aH, vs aI, i6 aJ, (.p (.lst 4 (Zb aK))), i6 aL, i6 aM, i6 aN]] = some ((.sl 1 aW 7 0 bd), [.cells 28 ((cBx c).map .p), yT aW be, .cells 83 [sp x 2 0, .sl 3 R 1 0 Q, (.sl 1 w 7 0 (Int.toNat (w6 (((v6 : Nat) : Int) - 1)))), ls 1 Zc i, ls 1 eI64 o, i6 u, i6 v7, vb v8], yU R v9, .row 28 4 0 (ra cBx ([])), .cells 77 ((Za x5).map .p), .cells 73 [.ptr 2 0], .cells 77 ((Za x5).map .p), .cells 77 ((Za x5).map .p), yT 0 aq, yT ay aT, yT 0 aq, .cells 78 [.sl 10 ay 7 0 aU], .cells 3 [i6 aV], .row 28 4 0 (ra cBx ([])), .cells 77 [i6 aH, vs aI, i6 aJ, (.p (.lst 4 (Zb aK))), i6 aL, i6 aM, i6 aN], .row 28 4 0 (ra cBx ([])), .cells 77 [i6 aH, vs aI, i6 aJ, (.p (.lst 4 (Zb aK))), i6 aL, i6 aM, i6 aN], .cells 77 ((Za x5).map .p), yT0])) (apc (Z1 c i o u aW be x R Q bd v7 v8 v9) apn)))))
           ·
            apply bn h; intro bs bI h
            cases bs with
            | k0 aW bd be =>
             rw [← sj h]
             exact rn ([(103, .d false), (108, .r (vb false) [.cells 28 ((cBx c).map .p), yT w F, .cells 83 [sp x 2 0, .sl 3 R 1 0 Q, (.sl 1 w 7 0 (Int.toNat (w6 (((v6 : Nat) : Int) - 1)))), ls 1 Zc i, ls 1 eI64 o, i6 u, i6 v7, vb v8], yU R v9, .row 28 4 0 (ra cBx ([])), .cells 77 ((Za x5).map .p), .cells 73 [.ptr 2 0], .cells 77 ((Za x5).map .p), .cells 77 ((Za x5).map .p), yT 0 aq, yT ay aT, yT 0 aq, .cells 78 [.sl 10 ay 7 0 aU], .cells 3 [i6 aV], .row 28 4 0 (ra cBx []), .cells 77 [i6 aH, vs aI, i6 aJ, (.p (.lst 4 (Zb aK))), i6 aL, i6 aM, i6 aN], .row 28 4 0 (ra cBx []), .cells 77 [i6 aH, vs aI, i6 aJ, (.p (.lst 4 (Zb aK))), i6 aL, i6 aM, i6 aN]]), (127, .r (.sl 1 aW 7 0 bd) [.cells 28 ((cBx c).map .p), yT aW be, .cells 83 [sp x 2 0, .sl 3 R 1 0 Q, (.sl 1 w 7 0 (Int.toNat (w6 (((v6 : Nat) : Int) - 1)))), ls 1 Zc i, ls 1 eI64 o, i6 u, i6 v7, vb v8], yU R v9, .row 28 4 0 (ra cBx ([])), .cells 77 ((Za x5).map .p), .cells 73 [.ptr 2 0], .cells 77 ((Za x5).map .p), .cells 77 ((Za x5).map .p), yT 0 aq, yT ay aT, yT 0 aq, .cells 78 [.sl 10 ay 7 0 aU], .cells 3 [i6 aV], .row 28 4 0 (ra cBx ([])), .cells 77 [i6 aH, vs aI, i6 aJ, (.p (.lst 4 (Zb aK))), i6 aL, i6 aM, i6 aN], .row 28 4 0 (ra cBx ([])), .cells 77 [i6 aH, vs aI, i6 aJ, (.p (.lst 4 (Zb aK))), i6 aL, i6 aM, i6 aN], .cells 77 ((Za x5).map .p), yT0]), (6000, .d true)] ++ kH k10) (k10.b (av bD (apc (((XD x5 c w F x R Q (Int.toNat (w6 (((v6 : Nat) : Int) - 1))) i o u v7 v8 v9 bC).trans (congrArg (fun z => some (vb z, ([.cells 28 ((cBx c).map .p), yT w F, .cells 83 [sp x 2 0, .sl 3 R 1 0 Q, (.sl 1 w 7 0 (Int.toNat (w6 (((v6 : Nat) : Int) - 1)))), ls 1 Zc i, ls 1 eI64 o, i6 u, i6 v7, vb v8], yU R v9, .row 28 4 0 (ra cBx ([])), .cells 77 ((Za x5).map .p), .cells 73 [.ptr 2 0], .cells 77 ((Za x5).map .p), .cells 77 ((Za x5).map .p), yT 0 aq, yT ay aT, yT 0 aq, .cells 78 [.sl 10 ay 7 0 aU], .cells 3 [i6 aV], .row 28 4 0 (ra cBx []), .cells 77 [i6 aH, vs aI, i6 aJ, (.p (.lst 4 (Zb aK))), i6 aL, i6 aM, i6 aN], .row 28 4 0 (ra cBx []), .cells 77 [i6 aH, vs aI, i6 aJ, (.p (.lst 4 (Zb aK))), i6 aL, i6 aM, i6 aN]] : List AB))) bw)) : CS prg 54 [.ptr 2 0, (.agg ((Za x5).map .p))] (ZO c i o u w F x R Q v6 v7 v8 v9 x5) = some (vb false, [.cells 28 ((cBx c).map .p), yT w F, .cells 83 [sp x 2 0, .sl 3 R 1 0 Q, (.sl 1 w 7 0 (Int.toNat (w6 (((v6 : Nat) : Int) - 1)))), ls 1 Zc i, ls 1 eI64 o, i6 u, i6 v7, vb v8], yU R v9, .row 28 4 0 (ra cBx ([])), .cells 77 ((Za x5).map .p), .cells 73 [.ptr 2 0], .cells 77 ((Za x5).map .p), .cells 77 ((Za x5).map .p), yT 0 aq, yT ay aT, yT 0 aq, .cells 78 [.sl 10 ay 7 0 aU], .cells 3 [i6 aV], .row 28 4 0 (ra cBx []), .cells 77 [i6 aH, vs aI, i6 aJ, (.p (.lst 4 (Zb aK))), i6 aL, i6 aM, i6 aN], .row 28 4 0 (ra cBx []), .cells 77 [i6 aH, vs aI, i6 aJ, (.p (.lst 4 (Zb aK))), i6 aL, i6 aM, i6 aN]])) (apc ((NO w (Int.toNat (w6 (((v6 : Nat) : Int) - 1))) x5 x5.depth 0 c F x R Q (Int.toNat (w6 (((v6 : Nat) : Int) - 1))) i o u v7 v8 v9 0 ([]) x5 x5 x5 0 aq ay aT 0 aq aU aV 0 ([]) (⟨aH, aI, aJ, aK, aL, aM, aN⟩ : ThingD) 0 ([]) (⟨aH, aI, aJ, aK, aL, aM, aN⟩ : ThingD) bI) : CS prg 55 [.ptr 2 0, (.sl 1 w 7 0 (Int.toNat (w6 (((v6 : Nat) : Int) - 1)))), (.agg ((Za x5).map .p)), i6 x5.depth, i6 0] [.cells 28 ((cBx c).map .p), yT w F, .cells 83 [sp x 2 0, .sl 3 R 1 0 Q, (.sl 1 w 7 0 (Int.toNat (w6 (((v6 : Nat) : Int) - 1)))), ls 1 Zc i, ls 1 eI64 o, i6 u, i6 v7, vb v8], yU R v9, .row 28 4 0 (ra cBx ([])), .cells 77 ((Za x5).map .p), .cells 73 [.ptr 2 0], .cells 77 ((Za x5).map .p), .cells 77 ((Za x5).map .p), yT 0 aq, yT ay aT, yT 0 aq, .cells 78 [.sl 10 ay 7 0 aU], .cells 3 [i6 aV], .row 28 4 0 (ra cBx []), .cells 77 [i6 aH, vs aI, i6 aJ, (.p (.lst 4 (Zb aK))), i6 aL, i6 aM, i6 aN], .row 28 4 0 (ra cBx []), .cells 77 [i6 aH, vs aI, i6 aJ, (.p (.lst 4 (Zb aK))), i6 aL, i6 aM, i6 aN]] = some ((.sl 1 aW 7 0 bd), [.cells 28 ((cBx c).map .p), yT aW be, .cells 83 [sp x 2 0, .sl 3 R 1 0 Q, (.sl 1 w 7 0 (Int.toNat (w6 (((v6 : Nat) : Int) - 1)))), ls 1 Zc i, ls 1 eI64 o, i6 u, i6 v7, vb v8], yU R v9, .row 28 4 0 (ra cBx ([])), .cells 77 ((Za x5).map .p), .cells 73 [.ptr 2 0], .cells 77 ((Za x5).map .p), .cells 77 ((Za x5).map .p), yT 0 aq, yT ay aT, yT 0 aq, .cells 78 [.sl 10 ay 7 0 aU], .cells 3 [i6 aV], .row 28 4 0 (ra cBx ([])), .cells 77 [i6 aH, vs aI, i6 aJ, (.p (.lst 4 (Zb aK))), i6 aL, i6 aM, i6 aN], .row 28 4 0 (ra cBx ([])), .cells 77 [i6 aH, vs aI, i6 aJ, (.p (.lst 4 (Zb aK))), i6 aL, i6 aM, i6 aN], .cells 77 ((Za x5).map .p), yT0])) (apc (Z1 c i o u aW be x R Q bd v7 v8 v9) apn)))))
          | k3 bH aq ay aT aU aV =>
           apply bi h <;> intro bw h
           ·
            apply bn h; intro bs bI h
            cases bs with
            | k0 aW bd be =>
             rw [← sj h]
             exact rn ([(103, .d false), (108, .r (vb true) [.cells 28 ((cBx c).map .p), yT w F, .cells 83 [sp x 2 0, .sl 3 R 1 0 Q, (.sl 1 w 7 0 (Int.toNat (w6 (((v6 : Nat) : Int) - 1)))), ls 1 Zc i, ls 1 eI64 o, i6 u, i6 v7, vb v8], yU R v9, .row 28 4 0 (ra cBx ([])), .cells 77 ((Za x5).map .p), .cells 73 [.ptr 2 0], .cells 77 ((Za x5).map .p), .cells 77 ((Za x5).map .p), yT 0 aq, yT ay aT, yT 0 aq, .cells 78 [.sl 10 ay 7 0 aU], .cells 3 [i6 aV]]), (127, .r (.sl 1 aW 7 0 bd) [.cells 28 ((cBx c).map .p), yT aW be, .cells 83 [sp x 2 0, .sl 3 R 1 0 Q, (.sl 1 w 7 0 (Int.toNat (w6 (((v6 : Nat) : Int) - 1)))), ls 1 Zc i, ls 1 eI64 o, i6 u, i6 v7, vb v8], yU R v9, .row 28 4 0 (ra cBx ([])), .cells 77 ((Za x5).map .p), .cells 73 [.ptr 2 0], .cells 77 ((Za x5).map .p), .cells 77 ((Za x5).map .p), yT 0 aq, yT ay aT, yT 0 aq, .cells 78 [.sl 10 ay 7 0 aU], .cells 3 [i6 aV], .cells 77 ((Za x5).map .p), yT0]), (6000, .d true)] ++ kH k10) (k10.b (av bD (apc (((XD x5 c w F x R Q (Int.toNat (w6 (((v6 : Nat) : Int) - 1))) i o u v7 v8 v9 bC).trans (congrArg (fun z => some (vb z, ([.cells 28 ((cBx c).map .p), yT w F, .cells 83 [sp x 2 0, .sl 3 R 1 0 Q, (.sl 1 w 7 0 (Int.toNat (w6 (((v6 : Nat) : Int) - 1)))), ls 1 Zc i, ls 1 eI64 o, i6 u, i6 v7, vb v8], yU R v9, .row 28 4 0 (ra cBx ([])), .cells 77 ((Za x5).map .p), .cells 73 [.ptr 2 0], .cells 77 ((Za x5).map .p), .cells 77 ((Za x5).map .p), yT 0 aq, yT ay aT, yT 0 aq, .cells 78 [.sl 10 ay 7 0 aU], .cells 3 [i6 aV]] : List AB))) bw)) : CS prg 54 [.ptr 2 0, (.agg ((Za x5).map .p))] (ZO c i o u w F x R Q v6 v7 v8 v9 x5) = some (vb true, [.cells 28 ((cBx c).map .p), yT w F, .cells 83 [sp x 2 0, .sl 3 R 1 0 Q, (.sl 1 w 7 0 (Int.toNat (w6 (((v6 : Nat) : Int) - 1)))), ls 1 Zc i, ls 1 eI64 o, i6 u, i6 v7, vb v8], yU R v9, .row 28 4 0 (ra cBx ([])), .cells 77 ((Za x5).map .p), .cells 73 [.ptr 2 0], .cells 77 ((Za x5).map .p), .cells 77 ((Za x5).map .p), yT 0 aq, yT ay aT, yT 0 aq, .cells 78 [.sl 10 ay 7 0 aU], .cells 3 [i6 aV]])) (apc ((NT w (Int.toNat (w6 (((v6 : Nat) : Int) - 1))) x5 x5.depth 1 c F x R Q (Int.toNat (w6 (((v6 : Nat) : Int) - 1))) i o u v7 v8 v9 0 ([]) x5 x5 x5 0 aq ay aT 0 aq aU aV bI) : CS prg 55 [.ptr 2 0, (.sl 1 w 7 0 (Int.toNat (w6 (((v6 : Nat) : Int) - 1)))), (.agg ((Za x5).map .p)), i6 x5.depth, i6 1] [.cells 28 ((cBx c).map .p), yT w F, .cells 83 [sp x 2 0, .sl 3 R 1 0 Q, (.sl 1 w 7 0 (Int.toNat (w6 (((v6 : Nat) : Int) - 1)))), ls 1 Zc i, ls 1 eI64 o, i6 u, i6 v7, vb v8], yU R v9, .row 28 4 0 (ra cBx ([])), .cells 77 ((Za x5).map .p), .cells 73 [.ptr 2 0], .cells 77 ((Za x5).map .p), .cells 77 ((Za x5).map .p), yT 0 aq, yT ay aT, yT 0 aq, .cells 78 [.sl 10 ay 7 0 aU], .cells 3 [i6 aV]] = some ((.sl 1 aW 7 0 bd), [.cells 28 ((cBx c).map .p), yT aW be, .cells 83 [sp x 2 0, .sl 3 R 1 0 Q, (.sl 1 w 7 0 (Int.toNat (w6 (((v6 : Nat) : Int) - 1)))), ls 1 Zc i, ls 1 eI64 o, i6 u, i6 v7, vb v8], yU R v9, .row 28 4 0 (ra cBx ([])), .cells 77 ((Za x5).map .p), .cells 73 [.ptr 2 0], .cells 77 ((Za x5).map .p), .cells 77 ((Za x5).map .p), yT 0 aq, yT ay aT, yT 0 aq, .cells 78 [.sl 10 ay 7 0 aU], .cells 3 [i6 aV], .cells 77 ((Za x5).map .p), yT0])) (apc (Z1 c i o u aW be x R Q bd v7 v8 v9) apn)))))
           ·
            apply bn h; intro bs bI h
            cases bs with
            | k0 aW bd be =>
             rw [← sj h]
             exact rn ([(103, .d false), (108, .r (vb false) [.cells 28 ((cBx c).map .p), yT w F, .cells 83 [sp x 2 0, .sl 3 R 1 0 Q, (.sl 1 w 7 0 (Int.toNat (w6 (((v6 : Nat) : Int) - 1)))), ls 1 Zc i, ls 1 eI64 o, i6 u, i6 v7, vb v8], yU R v9, .row 28 4 0 (ra cBx ([])), .cells 77 ((Za x5).map .p), .cells 73 [.ptr 2 0], .cells 77 ((Za x5).map .p), .cells 77 ((Za x5).map .p), yT 0 aq, yT ay aT, yT 0 aq, .cells 78 [.sl 10 ay 7 0 aU], .cells 3 [i6 aV]]), (127, .r (.sl 1 aW 7 0 bd) [.cells 28 ((cBx c).map .p), yT aW be, .cells 83 [sp x 2 0, .sl 3 R 1 0 Q, (.sl 1 w 7 0 (Int.toNat (w6 (((v6 : Nat) : Int) - 1)))), ls 1 Zc i, ls 1 eI64 o, i6 u, i6 v7, vb v8], yU R v9, .row 28 4 0 (ra cBx ([])), .cells 77 ((Za x5).map .p), .cells 73 [.ptr 2 0], .cells 77 ((Za x5).map .p), .cells 77 ((Za x5).map .p), yT 0 aq, yT ay aT, yT 0 aq, .cells 78 [.sl 10 ay 7 0 aU], .cells 3 [i6 aV], .cells 77 ((Za x5).map .p), yT0]), (6000, .d true)] ++ kH k10) (k10.b (av bD (apc (((XD x5 c w F x R Q (Int.toNat (w6 (((v6 : Nat) : Int) - 1))) i o u v7 v8 v9 bC).trans (congrArg (fun z => some (vb z, ([.cells 28 ((cBx c).map .p), yT w F, .cells 83 [sp x 2 0, .sl 3 R 1 0 Q, (.sl 1 w 7 0 (Int.toNat (w6 (((v6 : Nat) : Int) - 1)))), ls 1 Zc i, ls 1 eI64 o, i6 u, i6 v7, vb v8], yU R v9, .row 28 4 0 (ra cBx ([])), .cells 77 ((Za x5).map .p), .cells 73 [.ptr 2 0], .cells 77 ((Za x5).map .p), .cells 77 ((Za x5).map .p), yT 0 aq, yT ay aT, yT 0 aq, .cells 78 [.sl 10 ay 7 0 aU], .cells 3 [i6 aV]] : List AB))) bw)) : CS prg 54 [.ptr 2 0, (.agg ((Za x5).map .p))] (ZO c i o u w F x R Q v6 v7 v8 v9 x5) = some (vb false, [.cells 28 ((cBx c).map .p), yT w F, .cells 83 [sp x 2 0, .sl 3 R 1 0 Q, (.sl 1 w 7 0 (Int.toNat (w6 (((v6 : Nat) : Int) - 1)))), ls 1 Zc i, ls 1 eI64 o, i6 u, i6 v7, vb v8], yU R v9, .row 28 4 0 (ra cBx ([])), .cells 77 ((Za x5).map .p), .cells 73 [.ptr 2 0], .cells 77 ((Za x5).map .p), .cells 77 ((Za x5).map .p), yT 0 aq, yT ay aT, yT 0 aq, .cells 78 [.sl 10 ay 7 0 aU], .cells 3 [i6 aV]])) (apc ((NT w (Int.toNat (w6 (((v6 : Nat) : Int) - 1))) x5 x5.depth 0 c F x R Q (Int.toNat (w6 (((v6 : Nat) : Int) - 1))) i o u v7 v8 v9 0 ([]) x5 x5 x5 0 aq ay aT 0 aq aU aV bI) : CS prg 55 [.ptr 2 0, (.sl 1 w 7 0 (Int.toNat (w6 (((v6 : Nat) : Int) - 1)))), (.agg ((Za x5).map .p)), i6 x5.depth, i6 0] [.cells 28 ((cBx c).map .p), yT w F, .cells 83 [sp x 2 0, .sl 3 R 1 0 Q, (.sl 1 w 7 0 (Int.toNat (w6 (((v6 : Nat) : Int) - 1)))), ls 1 Zc i, ls 1 eI64 o, i6 u, i6 v7, vb v8], yU R v9, .row 28 4 0 (ra cBx ([])), .cells 77 ((Za x5).map .p), .cells 73 [.ptr 2 0], .cells 77 ((Za x5).map .p), .cells 77 ((Za x5).map .p), yT 0 aq, yT ay aT, yT 0 aq, .cells 78 [.sl 10 ay 7 0 aU], .cells 3 [i6 aV]] = some ((.sl 1 aW 7 0 bd), [.cells 28 ((cBx c).map .p), yT aW be, .cells 83 [sp x 2 0, .sl 3 R 1 0 Q, (.sl 1 w 7 0 (Int.toNat (w6 (((v6 : Nat) : Int) - 1)))), ls 1 Zc i, ls 1 eI64 o, i6 u, i6 v7, vb v8], yU R v9, .row 28 4 0 (ra cBx ([])), .cells 77 ((Za x5).map .p), .cells 73 [.ptr 2 0], .cells 77 ((Za x5).map .p), .cells 77 ((Za x5).map .p), yT 0 aq, yT ay aT, yT 0 aq, .cells 78 [.sl 10 ay 7 0 aU], .cells 3 [i6 aV], .cells 77 ((Za x5).map .p), yT0])) (apc (Z1 c i o u aW be x R Q bd v7 v8 v9) apn)))))
       ·
        have k11 := k8.a [(86, .d false), (91, .d false)] (av h9 (av bq apn))
        apply bi h <;> intro bt h
        ·
         apply bn h; intro bG bv h
         cases bG with
         | k0 bp bB bx =>
          rw [← sj h]
          exact rn ([(112, .d true), (127, .r (.sl 1 bp 7 0 bB) (Vf c i o u bp bx x R Q w v6 v7 v8 v9 x5)), (6000, .d true)] ++ kH k11) (k11.b (av bt (apc ((Qu w (Int.toNat (w6 (((v6 : Nat) : Int) - 1))) x5 (w6 (x5.depth + x5.n)) x5.way c F x R Q (Int.toNat (w6 (((v6 : Nat) : Int) - 1))) i o u v7 v8 v9 0 ([]) x5 bv) : CS prg 55 [.ptr 2 0, (.sl 1 w 7 0 (Int.toNat (w6 (((v6 : Nat) : Int) - 1)))), (.agg ((Za x5).map .p)), (i6 (w6 (x5.depth + x5.n))), i6 x5.way] (ZO c i o u w F x R Q v6 v7 v8 v9 x5) = some ((.sl 1 bp 7 0 bB), Vf c i o u bp bx x R Q w v6 v7 v8 v9 x5)) (apc (Z1 c i o u bp bx x R Q bB v7 v8 v9) apn))))
        ·
         apply bn h; intro bG bv h
         cases bG with
         | k0 bp bB bx =>
          rw [← sj h]
          exact rn ([(112, .d false), (127, .r (.sl 1 bp 7 0 bB) (Vf c i o u bp bx x R Q w v6 v7 v8 v9 x5)), (6000, .d true)] ++ kH k11) (k11.b (av bt (apc ((Qu w (Int.toNat (w6 (((v6 : Nat) : Int) - 1))) x5 x5.depth x5.way c F x R Q (Int.toNat (w6 (((v6 : Nat) : Int) - 1))) i o u v7 v8 v9 0 ([]) x5 bv) : CS prg 55 [.ptr 2 0, (.sl 1 w 7 0 (Int.toNat (w6 (((v6 : Nat) : Int) - 1)))), (.agg ((Za x5).map .p)), i6 x5.depth, i6 x5.way] (ZO c i o u w F x R Q v6 v7 v8 v9 x5) = some ((.sl 1 bp 7 0 bB), Vf c i o u bp bx x R Q w v6 v7 v8 v9 x5)) (apc (Z1 c i o u bp bx x R Q bB v7 v8 v9) apn))))
   ·
    cases h
  ·
   rw [← sj h]
   exact xb ([(17, .d false), (6000, .d true)] ++ kH k1) (k1.b (av h3 apn))
 ·
  rw [← sj h]
  exact xb [(11, .d false), (6000, .d true)] (av h1 apn)
theorem HN (s0 : Nat × Tqq × Bool × Nat × Nat × Nat × Int × Bool × Iqq) (e : E_L27_0) (h : runL (fun s => M9 i o u s.1 s.2.1 s.2.2.1 s.2.2.2.1 s.2.2.2.2.1 s.2.2.2.2.2.1 s.2.2.2.2.2.2.1 s.2.2.2.2.2.2.2.1 s.2.2.2.2.2.2.2.2) s0 = some e) : La c i o u e (Ta c i o u s0.1 s0.2.1 s0.2.2.1 s0.2.2.2.1 s0.2.2.2.2.1 s0.2.2.2.2.2.1 s0.2.2.2.2.2.2.1 s0.2.2.2.2.2.2.2.1 s0.2.2.2.2.2.2.2.2) := by
  have q := @Zg (Nat × Tqq × Bool × Nat × Nat × Nat × Int × Bool × Iqq) E_L27_0 (fun s => M9 i o u s.1 s.2.1 s.2.2.1 s.2.2.2.1 s.2.2.2.2.1 s.2.2.2.2.2.1 s.2.2.2.2.2.2.1 s.2.2.2.2.2.2.2.1 s.2.2.2.2.2.2.2.2) (fun s => Ta c i o u s.1 s.2.1 s.2.2.1 s.2.2.2.1 s.2.2.2.2.1 s.2.2.2.2.2.1 s.2.2.2.2.2.2.1 s.2.2.2.2.2.2.2.1 s.2.2.2.2.2.2.2.2) (La c i o u) (fun s r h => Fw c i o u s.1 s.2.1 s.2.2.1 s.2.2.2.1 s.2.2.2.2.1 s.2.2.2.2.2.1 s.2.2.2.2.2.2.1 s.2.2.2.2.2.2.2.1 s.2.2.2.2.2.2.2.2 h) s0 e h
  exact q
end
inductive R_F38 where
  | k0 (x0 : ByteArray)
  | k1 (x0 : ByteArray)
def AG (c : BoxD) (j : Nat) (i : Tqq) (o : Bool) (u A k : Nat) (G : Oqq) (D : Iqq) (I E : Int) (B : Bool) (C : Iqq) (r : R_F38) : AV := match r with | .k0 x0 => (vs x0) | .k1 x0 => (vs x0)
def AH (c : BoxD) (j : Nat) (i : Tqq) (o : Bool) (u A k : Nat) (G : Oqq) (D : Iqq) (I E : Int) (B : Bool) (C : Iqq) (r : R_F38) : List AB := match r with | .k0 x0 => [.cells 28 ((cBx c).map .p), yT j i, .cells 83 [sp o 2 0, .sl 3 u 1 0 A, .sl 1 j 7 0 k, ls 1 Zc G, ls 1 eI64 D, i6 I, i6 E, vb B], .dead] | .k1 x0 => [.cells 28 ((cBx c).map .p), yT j i, .cells 83 [sp o 2 0, .sl 3 u 1 0 A, .sl 1 j 7 0 k, ls 1 Zc G, ls 1 eI64 D, i6 I, i6 E, vb B], yU u C]
def F38 (A : Nat) (C : Iqq) : Option R_F38 :=
  (bif (decide (0 < A)) then (bif (usOk A C.length) then (some (.k0 (bstr (C.take A)))) else none) else (some (.k1 ByteArray.empty)))
abbrev Q4 (c : BoxD) (j : Nat) (i : Tqq) (o : Bool) (u A k : Nat) (G : Oqq) (D : Iqq) (I E : Int) (B : Bool) (C : Iqq) : List AB := [.cells 28 ((cBx c).map .p), yT j i, .cells 83 [sp o 2 0, .sl 3 u 1 0 A, .sl 1 j 7 0 k, ls 1 Zc G, ls 1 eI64 D, i6 I, i6 E, vb B], yU u C]
abbrev Em (c : BoxD) (j : Nat) (i : Tqq) (o : Bool) (u A k : Nat) (G : Oqq) (D : Iqq) (I E : Int) (B : Bool) : List AB := [.cells 28 ((cBx c).map .p), yT j i, .cells 83 [sp o 2 0, .sl 3 u 1 0 A, .sl 1 j 7 0 k, ls 1 Zc G, ls 1 eI64 D, i6 I, i6 E, vb B], .dead]
theorem En (c : BoxD) (j : Nat) (i : Tqq) (o : Bool) (u A k : Nat) (G : Oqq) (D : Iqq) (I E : Int) (B : Bool) (C : Iqq) {r : R_F38} (h : F38 A C = some r) : CS prg 56 [.ptr 2 0] [.cells 28 ((cBx c).map .p), yT j i, .cells 83 [sp o 2 0, .sl 3 u 1 0 A, .sl 1 j 7 0 k, ls 1 Zc G, ls 1 eI64 D, i6 I, i6 E, vb B], yU u C] = some (AG c j i o u A k G D I E B C r, AH c j i o u A k G D I E B C r) := by
 unfold F38 at h
 apply bi h <;> intro h1 h
 ·
  have q0 := ((sd_t (e := eU8) (xs := C) rfl h1) : sdA (Q4 c j i o u A k G D I E B C) (.sl 3 u 1 0 A) = some (.rp 3 u 1 0 0))
  apply bi h <;> intro h2 h
  ·
   rw [← sj h]
   exact fc [(7, .v (.rp 3 u 1 0 0)), (13, .r (vs (bstr (C.take A))) (Em c j i o u A k G D I E B))] (apc q0 (apc ((us_t (e := eU8) (xs := C) rfl h1 h2) : uSA (Q4 c j i o u A k G D I E B C) 5 (.rp 3 u 1 0 0) (i6 ((A : Nat) : Int)) = some ((vs (bstr (C.take A))), Em c j i o u A k G D I E B)) apn))
  ·
   cases h
 ·
  rw [← sj h]
  exact fc [(7, .v .anyp), (13, .r (vs ByteArray.empty) (Q4 c j i o u A k G D I E B C))] (apc ((sd_f (e := eU8) (xs := C) rfl h1) : sdA (Q4 c j i o u A k G D I E B C) (.sl 3 u 1 0 A) = some .anyp) (apc ((us_f h1) : uSA (Q4 c j i o u A k G D I E B C) 5 .anyp (i6 ((A : Nat) : Int)) = some ((vs ByteArray.empty), Q4 c j i o u A k G D I E B C)) apn))
inductive R_F27 where
  | k0 (x0 : ByteArray) (x1 : Nat) (x2 : Tqq) (x3 : Bool) (x4 x5 x6 : Nat) (x7 : Int) (x8 : Bool)
  | k1 (x0 : ByteArray) (x1 : Nat) (x2 : Tqq) (x3 : Bool) (x4 x5 x6 : Nat) (x7 : Int) (x8 : Bool) (x9 : Iqq)
def AI (c : BoxD) (j : Int) (i : Oqq) (o : Iqq) (u : Int) (r : R_F27) : AV := match r with | .k0 x0 x1 x2 x3 x4 x5 x6 x7 x8 => (vs x0) | .k1 x0 x1 x2 x3 x4 x5 x6 x7 x8 x9 => (vs x0)
def AJ (c : BoxD) (j : Int) (i : Oqq) (o : Iqq) (u : Int) (r : R_F27) : List AB := match r with | .k0 x0 x1 x2 x3 x4 x5 x6 x7 x8 => [.cells 28 ((cBx c).map .p), yT x1 x2, .cells 83 [sp x3 2 0, .sl 3 x4 1 0 x5, .sl 1 x1 7 0 x6, ls 1 Zc i, ls 1 eI64 o, i6 u, i6 x7, vb x8], .dead] | .k1 x0 x1 x2 x3 x4 x5 x6 x7 x8 x9 => [.cells 28 ((cBx c).map .p), yT x1 x2, .cells 83 [sp x3 2 0, .sl 3 x4 1 0 x5, .sl 1 x1 7 0 x6, ls 1 Zc i, ls 1 eI64 o, i6 u, i6 x7, vb x8], yU x4 x9]
def F27 (c : BoxD) (j : Int) (i : Oqq) (o : Iqq) (u : Int) : Option R_F27 :=
  ((runL (fun s => M9 i o u s.1 s.2.1 s.2.2.1 s.2.2.2.1 s.2.2.2.2.1 s.2.2.2.2.2.1 s.2.2.2.2.2.2.1 s.2.2.2.2.2.2.2.1 s.2.2.2.2.2.2.2.2) (0, [(⟨c.kind, c.text, c.n, c.kids, 0, j, 0⟩ : ThingD)], false, 0, 0, 1, 0, false, [])).bind fun r1 => match r1 with | .k0 ak aj an aX ba bc bk bl br => ((F38 ba br).bind fun r2 => match r2 with | .k0 ao => (some (.k0 ao ak aj an aX ba bc bk bl)) | .k1 ao => (some (.k1 ao ak aj an aX ba bc bk bl br))))
abbrev Eo (g1 : Nat → AV) (c : BoxD) (ak : Nat) (aj : Tqq) (an : Bool) (aX ba bc : Nat) (i : Oqq) (o : Iqq) (u bk : Int) (bl : Bool) (br : Iqq) : St := ⟨fr 134 g1 [(0, .ptr 2 0)], [.cells 28 ((cBx c).map .p), yT ak aj, .cells 83 [sp an 2 0, .sl 3 aX 1 0 ba, .sl 1 ak 7 0 bc, ls 1 Zc i, ls 1 eI64 o, i6 u, i6 bk, vb bl], yU aX br]⟩
abbrev Ep (c : BoxD) (ak : Nat) (aj : Tqq) (an : Bool) (aX ba bc : Nat) (i : Oqq) (o : Iqq) (u bk : Int) (bl : Bool) : List AB := [.cells 28 ((cBx c).map .p), yT ak aj, .cells 83 [sp an 2 0, .sl 3 aX 1 0 ba, .sl 1 ak 7 0 bc, ls 1 Zc i, ls 1 eI64 o, i6 u, i6 bk, vb bl], .dead]
abbrev KE (c : BoxD) (ak : Nat) (aj : Tqq) (an : Bool) (aX ba bc : Nat) (i : Oqq) (o : Iqq) (u bk : Int) (bl : Bool) (br : Iqq) : List AB := [.cells 28 ((cBx c).map .p), yT ak aj, .cells 83 [sp an 2 0, .sl 3 aX 1 0 ba, .sl 1 ak 7 0 bc, ls 1 Zc i, ls 1 eI64 o, i6 u, i6 bk, vb bl], yU aX br]
theorem Er (c : BoxD) (j : Int) (i : Oqq) (o : Iqq) (u : Int) {r : R_F27} (h : F27 c j i o u = some r) : CS prg 41 [.ptr 2 0] [.cells 28 ((cBx c).map .p), .row 77 7 0 [[i6 c.kind, vs c.text, i6 c.n, (.p (.lst 4 (Zb c.kids))), i6 0, i6 j, i6 0]], .cells 83 [sp false 2 0, n0, .sl 1 0 7 0 1, ls 1 Zc i, ls 1 eI64 o, i6 u, i6 0, vb false]] = some (AI c j i o u r, AJ c j i o u r) := by
 unfold F27 at h
 have q0 := (Z1 c i o u 0 ([(⟨c.kind, c.text, c.n, c.kids, 0, j, 0⟩ : ThingD)]) false 0 0 1 0 false ([]))
 apply bn h; intro r1 h1 h
 cases r1 with
 | k0 ak aj an aX ba bc bk bl br =>
  obtain ⟨g1, e1⟩ := HN c i o u (0, [(⟨c.kind, c.text, c.n, c.kids, 0, j, 0⟩ : ThingD)], false, 0, 0, 1, 0, false, []) _ h1
  have q1 := (e1 : Ta c i o u 0 ([(⟨c.kind, c.text, c.n, c.kids, 0, j, 0⟩ : ThingD)]) false 0 0 1 0 false ([]) = some ((.brk 0), Eo g1 c ak aj an aX ba bc i o u bk bl br))
  have k2 := ka [(2000, .l (.brk 0) (Eo g1 c ak aj an aX ba bc i o u bk bl br))] (apc q0 (apc q1 apn))
  apply bn h; intro r2 h2 h
  cases r2 with
  | k0 ao =>
   rw [← sj h]
   exact fc ([(133, .r (vs ao) (Ep c ak aj an aX ba bc i o u bk bl)), (6000, .d true)] ++ kH k2) (k2.b (apc ((En c ak aj an aX ba bc i o u bk bl br h2) : CS prg 56 [.ptr 2 0] (KE c ak aj an aX ba bc i o u bk bl br) = some ((vs ao), Ep c ak aj an aX ba bc i o u bk bl)) apn))
  | k1 ao =>
   rw [← sj h]
   exact fc ([(133, .r (vs ao) (KE c ak aj an aX ba bc i o u bk bl br)), (6000, .d true)] ++ kH k2) (k2.b (apc ((En c ak aj an aX ba bc i o u bk bl br h2) : CS prg 56 [.ptr 2 0] (KE c ak aj an aX ba bc i o u bk bl br) = some ((vs ao), KE c ak aj an aX ba bc i o u bk bl br)) apn))
def AK (c : BoxD) (j i : Int) (x0 : ByteArray) : AV := (vs x0)
def F17 (Nf : Nat) (c : BoxD) (j i : Int) : Option ByteArray :=
  ((F18 Nf c).bind fun x1 => ((F26 Nf c).bind fun x2 => ((F27 c i x1 x2 j).bind fun r3 => match r3 with | .k0 aG aD aE a0 b4 b8 b9 ca cb => (some aG) | .k1 aG aD aE a0 b4 b8 b9 ca cb cq => (some aG))))
abbrev Es (c : BoxD) (aD : Nat) (aE : Tqq) (a0 : Bool) (b4 b8 b9 : Nat) (x1 : Oqq) (x2 : Iqq) (j ca : Int) (cb : Bool) : List AB := [.cells 28 ((cBx c).map .p), yT aD aE, .cells 83 [sp a0 2 0, .sl 3 b4 1 0 b8, .sl 1 aD 7 0 b9, ls 1 Zc x1, ls 1 eI64 x2, i6 j, i6 ca, vb cb], .dead]
abbrev Et (c : BoxD) (i : Int) (x1 : Oqq) (x2 : Iqq) (j : Int) : List AB := [.cells 28 ((cBx c).map .p), .row 77 7 0 [[i6 c.kind, vs c.text, i6 c.n, (.p (.lst 4 (Zb c.kids))), i6 0, i6 i, i6 0]], .cells 83 [sp false 2 0, n0, .sl 1 0 7 0 1, ls 1 Zc x1, ls 1 eI64 x2, i6 j, i6 0, vb false]]
abbrev Eu (c : BoxD) (aD : Nat) (aE : Tqq) (a0 : Bool) (b4 b8 b9 : Nat) (x1 : Oqq) (x2 : Iqq) (j ca : Int) (cb : Bool) (cq : Iqq) : List AB := [.cells 28 ((cBx c).map .p), yT aD aE, .cells 83 [sp a0 2 0, .sl 3 b4 1 0 b8, .sl 1 aD 7 0 b9, ls 1 Zc x1, ls 1 eI64 x2, i6 j, i6 ca, vb cb], yU b4 cq]
theorem BE (Nf : Nat) (c : BoxD) (j i : Int) {r : ByteArray} (h : F17 Nf c j i = some r) : PR1 prg 25 [(.agg ((cBx c).map .p)), i6 j, i6 i] (AK c j i r) := by
 unfold F17 at h
 apply bn h; intro x1 h1 h
 have q0 := (((BB Nf c h1).cp rfl _) : CP prg 28 [(.agg ((cBx c).map .p))] [.cells 28 ((cBx c).map .p), .hole, .hole] = some (ls 1 Zc x1))
 apply bn h; intro x2 h2 h
 have q1 := (((BC Nf c h2).cp rfl _) : CP prg 40 [(.agg ((cBx c).map .p))] [.cells 28 ((cBx c).map .p), .hole, .hole] = some (ls 1 eI64 x2))
 have k2 := ka [(9, .v (ls 1 Zc x1)), (11, .v (ls 1 eI64 x2))] (apc q0 (apc q1 apn))
 apply bn h; intro r3 h3 h
 cases r3 with
 | k0 aG aD aE a0 b4 b8 b9 ca cb =>
  rw [← sj h]
  exact fq ([(20, .r (vs aG) (Es c aD aE a0 b4 b8 b9 x1 x2 j ca cb))] ++ kH k2) (k2.b (apc ((Er c i x1 x2 j h3) : CS prg 41 [.ptr 2 0] (Et c i x1 x2 j) = some ((vs aG), Es c aD aE a0 b4 b8 b9 x1 x2 j ca cb)) apn))
 | k1 aG aD aE a0 b4 b8 b9 ca cb cq =>
  rw [← sj h]
  exact fq ([(20, .r (vs aG) (Eu c aD aE a0 b4 b8 b9 x1 x2 j ca cb cq))] ++ kH k2) (k2.b (apc ((Er c i x1 x2 j h3) : CS prg 41 [.ptr 2 0] (Et c i x1 x2 j) = some ((vs aG), Eu c aD aE a0 b4 b8 b9 x1 x2 j ca cb cq)) apn))
inductive R_F7 where
  | k0 (x0 : ByteArray) (x1 : Int)
def F7_v (c : BoxD) (j : Int) (r : R_F7) : AV := match r with | .k0 x0 x1 => (.tup [vs x0, i6 x1])
def F7 (Nf : Nat) (c : BoxD) (j : Int) : Option R_F7 :=
  ((F16 Nf c).bind fun x1 => (bif (x1 != 0) then (some (.k0 Eqq x1)) else (bif (decide (j < 1)) then (some (.k0 Eqq 2)) else ((F17 Nf c j 0).bind fun x4 => (bif (decide ((x4.size : Int) > 1048576)) then (some (.k0 Eqq 3)) else (some (.k0 x4 0)))))))
theorem BF (Nf : Nat) (c : BoxD) (j : Int) {r : R_F7} (h : F7 Nf c j = some r) : PR1 prg 8 [(.agg ((cBx c).map .p)), i6 j] (F7_v c j r) := by
 unfold F7 at h
 apply bn h; intro x1 h1 h
 have q0 := (((Bw Nf c h1).cp rfl _) : CP prg 24 [(.agg ((cBx c).map .p))] [.cells 28 ((cBx c).map .p)] = some (i6 x1))
 apply bi h <;> intro h2 h
 ·
  rw [← sj h]
  exact fq [(9, .v (i6 x1)), (11, .d true)] (apc q0 (av h2 apn))
 ·
  have k1 := ka [(9, .v (i6 x1)), (11, .d false)] (apc q0 (av h2 apn))
  apply bi h <;> intro h3 h
  ·
   rw [← sj h]
   exact fq ([(14, .d true)] ++ kH k1) (k1.b (av h3 apn))
  ·
   apply bn h; intro x4 h4 h
   have q2 := (((BE Nf c j 0 h4).cp rfl _) : CP prg 25 [(.agg ((cBx c).map .p)), i6 j, i6 0] [.cells 28 ((cBx c).map .p)] = some (vs x4))
   have k3 := k1.a [(14, .d false), (17, .v (vs x4))] (av h3 (apc q2 apn))
   apply bi h <;> intro h5 h
   ·
    rw [← sj h]
    exact fq ([(20, .d true)] ++ kH k3) (k3.b (av h5 apn))
   ·
    rw [← sj h]
    exact fq ([(20, .d false)] ++ kH k3) (k3.b (av h5 apn))
def F9_v (c : Int) (x0 : Int) : AV := (i6 x0)
def F9 (c : Int) : Option Int :=
  (some c)
theorem Fx (c : Int) {r : Int} (h : F9 c = some r) : PR1 prg 9 [i6 c] (F9_v c r) := by
 unfold F9 at h
 rw [← sj h]
 exact fq [] apn
inductive R_F142 where
  | k0
def BG (c : ByteArray) (r : R_F142) : AV := match r with | .k0 => (.fn 57 [.ptr 2 0, .ptr 1 0, .ptr 3 0])
def BH (c : ByteArray) (r : R_F142) : List AB := match r with | .k0 => [.cells 3 [i6 0], .cells 9 [vs c], .cells 9 [(vs (⟨([10] : List UInt8).toArray⟩ : ByteArray))], .cells 3 [i6 0]]
def F142 : Option R_F142 :=
  (some (.k0))
theorem CD (c : ByteArray) {r : R_F142} (h : F142 = some r) : CS prg 42 [vs c, (vs (⟨([10] : List UInt8).toArray⟩ : ByteArray)), i6 0] [.cells 3 [i6 0]] = some (BG c r, BH c r) := by
 unfold F142 at h
 rw [← sj h]
 exact fc [] apn
inductive R_F126 where
  | k0
def BI (c : ByteArray) (r : R_F126) : AV := match r with | .k0 => (.fn 57 [.ptr 2 0, .ptr 1 0, .ptr 3 0])
def BJ (c : ByteArray) (r : R_F126) : List AB := match r with | .k0 => [.cells 3 [i6 0], .cells 9 [vs c], .cells 9 [(vs (⟨([10] : List UInt8).toArray⟩ : ByteArray))], .cells 3 [i6 0]]
def F126 : Option R_F126 :=
  ((F142).bind fun r1 => match r1 with | .k0 => (some (.k0)))
abbrev HO (c : ByteArray) : List AB := [.cells 3 [i6 0], .cells 9 [vs c], .cells 9 [(vs (⟨([10] : List UInt8).toArray⟩ : ByteArray))], .cells 3 [i6 0]]
theorem CE (c : ByteArray) {r : R_F126} (h : F126 = some r) : CS prg 26 [vs c, (vs (⟨([10] : List UInt8).toArray⟩ : ByteArray))] [.cells 3 [i6 0]] = some (BI c r, BJ c r) := by
 unfold F126 at h
 apply bn h; intro r1 h1 h
 cases r1 with
 | k0 =>
  rw [← sj h]
  exact fc [(7, .r (.fn 57 [.ptr 2 0, .ptr 1 0, .ptr 3 0]) (HO c))] (apc ((CD c h1) : CS prg 42 [vs c, (vs (⟨([10] : List UInt8).toArray⟩ : ByteArray)), i6 0] [.cells 3 [i6 0]] = some ((.fn 57 [.ptr 2 0, .ptr 1 0, .ptr 3 0]), HO c)) apn)
def CF (c : ByteArray) (x0 : Int) : AV := (i6 x0)
def JQ (c : ByteArray) : Option Int :=
  ((JN c).bind fun x1 => (some x1))
theorem Fy (c : ByteArray) {r : Int} (h : JQ c = some r) : PR1 prg 59 [vs c, (vs (⟨([10] : List UInt8).toArray⟩ : ByteArray))] (CF c r) := by
 unfold JQ at h
 apply bn h; intro x1 h1 h
 rw [← sj h]
 exact fq [(7, .v (i6 x1))] (apc (((Kx c h1).cp rfl _) : CP prg 70 [vs c, (vs (⟨([10] : List UInt8).toArray⟩ : ByteArray))] [] = some (i6 x1)) apn)
inductive R_Y110_0_2 where
  | k0
def JS (c : ByteArray) (j : Int) (i o : ByteArray) (r : R_Y110_0_2) : AV := match r with | .k0 => (vb true)
def JT (c : ByteArray) (j : Int) (i o : ByteArray) (r : R_Y110_0_2) : List AB := match r with | .k0 => [.cells 3 [(i6 (if j < (c.size : Int) then (c.size : Int) else j))], .cells 9 [vs i], .cells 9 [(vs (⟨([10] : List UInt8).toArray⟩ : ByteArray))], .cells 3 [i6 0], .loop 0 none [7] [vs o, (.p (.val undef)), i6 0, .ptr 0 0, (.p (.val undef)), vs o, (.fn 57 [.ptr 2 0, .ptr 1 0, .ptr 3 0]), (.p (.val undef)), (.p (.val undef)), (.p (.val undef)), (.p (.val undef)), (.p (.val undef)), (.p (.val undef))] Yg Yh]
def TK : Option R_Y110_0_2 :=
  (some (.k0))
theorem Lb (c : ByteArray) (j : Int) (i o : ByteArray) {r : R_Y110_0_2} (h : TK = some r) : WC (ev prg) 4 [vs c] [.cells 3 [i6 j], .cells 9 [vs i], .cells 9 [(vs (⟨([10] : List UInt8).toArray⟩ : ByteArray))], .cells 3 [i6 0], .loop 0 none [7] [vs o, (.p (.val undef)), i6 0, .ptr 0 0, (.p (.val undef)), vs o, (.fn 57 [.ptr 2 0, .ptr 1 0, .ptr 3 0]), (.p (.val undef)), (.p (.val undef)), (.p (.val undef)), (.p (.val undef)), (.p (.val undef)), (.p (.val undef))] Yg Yh] = some (JS c j i o r, JT c j i o r) := by
 unfold TK at h
 rw [← sj h]
 exact fyc [] apn (by kernel_rfl)
set_option maxHeartbeats 4000000
inductive E_L157_0 where
  | k0 (x0 : Int) (x1 : ByteArray)
section
variable (c : ByteArray)
def Uo (w : Int) (F : ByteArray) : Option (E_L157_0 ⊕ (Int × ByteArray)) :=
  ((JQ F).bind fun x1 => (bif (decide (x1 < 0)) then (some (.inl (.k0 w F))) else (bif (PE 0 (IntKind.wrap .i64 (x1 + 0)) F.size) then ((TK).bind fun r4 => match r4 with | .k0 => (bif (PE (IntKind.wrap .i64 (x1 + 1)) (F.size : Int) F.size) then (some (.inr ((if w < ((F.extract (Int.toNat 0) (Int.toNat (IntKind.wrap .i64 (x1 + 0)))).size : Int) then ((F.extract (Int.toNat 0) (Int.toNat (IntKind.wrap .i64 (x1 + 0)))).size : Int) else w), (F.extract (Int.toNat (IntKind.wrap .i64 (x1 + 1))) (Int.toNat (F.size : Int)))))) else none)) else none)))
def KF (w : Int) (F : ByteArray) : St := ⟨fr 52 ug [(0, .yl 4), (1, .ptr 2 0), (2, .ptr 1 0), (3, .ptr 3 0)], [.cells 3 [i6 w], .cells 9 [vs F], .cells 9 [(vs (⟨([10] : List UInt8).toArray⟩ : ByteArray))], .cells 3 [i6 0], .loop 0 none [7] [vs c, (.p (.val undef)), i6 0, .ptr 0 0, (.p (.val undef)), vs c, (.fn 57 [.ptr 2 0, .ptr 1 0, .ptr 3 0]), (.p (.val undef)), (.p (.val undef)), (.p (.val undef)), (.p (.val undef)), (.p (.val undef)), (.p (.val undef))] Yg Yh]⟩
theorem KG (w : Int) (F : ByteArray) : okT 5 (KF c w F).h = true := (ZE rfl (ac (ac (ac (ac (ac rfl))))))
abbrev Vg (w : Int) (F : ByteArray) := evH prg 5 [0, 1, 2, 3] Hh (KF c w F)
def PY (e : E_L157_0) (r : Option (Out × St)) : Prop := match e with | .k0 x0 x1 => ∃ g, r = some ((.brk 2), ⟨fr 52 g [(0, .yl 4), (1, .ptr 2 0), (2, .ptr 1 0)], [.cells 3 [i6 x0], .cells 9 [vs x1], .cells 9 [(vs (⟨([10] : List UInt8).toArray⟩ : ByteArray))], .cells 3 [i6 0], .loop 0 none [7] [vs c, (.p (.val undef)), i6 0, .ptr 0 0, (.p (.val undef)), vs c, (.fn 57 [.ptr 2 0, .ptr 1 0, .ptr 3 0]), (.p (.val undef)), (.p (.val undef)), (.p (.val undef)), (.p (.val undef)), (.p (.val undef)), (.p (.val undef))] Yg Yh]⟩)
abbrev NU (w : Int) (F : ByteArray) : List AB := [.cells 3 [i6 w], .cells 9 [vs F], .cells 9 [(vs (⟨([10] : List UInt8).toArray⟩ : ByteArray))], .cells 3 [i6 0], .loop 0 none [7] [vs c, (.p (.val undef)), i6 0, .ptr 0 0, (.p (.val undef)), vs c, (.fn 57 [.ptr 2 0, .ptr 1 0, .ptr 3 0]), (.p (.val undef)), (.p (.val undef)), (.p (.val undef)), (.p (.val undef)), (.p (.val undef)), (.p (.val undef))] Yg Yh]
abbrev NV (w : Int) (F : ByteArray) (x1 : Int) : List AB := [.cells 3 [(i6 (if w < ((F.extract (Int.toNat 0) (Int.toNat (w6 (x1 + 0)))).size : Int) then ((F.extract (Int.toNat 0) (Int.toNat (w6 (x1 + 0)))).size : Int) else w))], .cells 9 [vs F], .cells 9 [(vs (⟨([10] : List UInt8).toArray⟩ : ByteArray))], .cells 3 [i6 0], .loop 0 none [7] [vs c, (.p (.val undef)), i6 0, .ptr 0 0, (.p (.val undef)), vs c, (.fn 57 [.ptr 2 0, .ptr 1 0, .ptr 3 0]), (.p (.val undef)), (.p (.val undef)), (.p (.val undef)), (.p (.val undef)), (.p (.val undef)), (.p (.val undef))] Yg Yh]
theorem HP (w : Int) (F : ByteArray) {r : E_L157_0 ⊕ (Int × ByteArray)} (h : Uo w F = some r) : OkR (fun e => PY c e (Vg c w F)) (fun s => Vg c w F = Vg c s.1 s.2) r := by
 unfold Uo at h
 apply bn h; intro x1 h1 h
 have q0 := (((Fy F h1).cp rfl _) : CP prg 59 [vs F, (vs (⟨([10] : List UInt8).toArray⟩ : ByteArray))] (NU c w F) = some (i6 x1))
 apply bi h <;> intro h2 h
 ·
  rw [← sj h]
  exact xb [(31, .v (i6 x1)), (33, .d true), (6000, .d true)] (apc q0 (av h2 apn))
 ·
  have k1 := ka [(31, .v (i6 x1)), (33, .d false)] (apc q0 (av h2 apn))
  apply bi h <;> intro h3 h
  ·
   have q2 := ((LX h3) : slS (vs F) (some 0) (some (w6 (x1 + 0))) = some (vs (F.extract (Int.toNat 0) (Int.toNat (w6 (x1 + 0))))))
   have k3 := k1.a [(38, .v (vs (F.extract (Int.toNat 0) (Int.toNat (w6 (x1 + 0))))))] (apc q2 apn)
   apply bn h; intro r4 h4 h
   cases r4 with
   | k0 =>
    have q4 := ((Lb (F.extract (Int.toNat 0) (Int.toNat (w6 (x1 + 0)))) w F c h4) : WC (ev prg) 4 [(vs (F.extract (Int.toNat 0) (Int.toNat (w6 (x1 + 0)))))] (NU c w F) = some ((vb true), NV c w F x1))
    have k5 := k3.a [(41, .r (vb true) (NV c w F x1))] (apc q4 apn)
    apply bi h <;> intro h5 h
    ·
     rw [← sj h]
     exact rn ([(48, .v (vs (F.extract (Int.toNat (w6 (x1 + 1))) (Int.toNat (F.size : Int))))), (6000, .d true)] ++ kH k5) (k5.b (apc ((LX h5) : slS (vs F) (some (w6 (x1 + 1))) (some (F.size : Int)) = some (vs (F.extract (Int.toNat (w6 (x1 + 1))) (Int.toNat (F.size : Int))))) (apc (KG c (if w < ((F.extract (Int.toNat 0) (Int.toNat (w6 (x1 + 0)))).size : Int) then ((F.extract (Int.toNat 0) (Int.toNat (w6 (x1 + 0)))).size : Int) else w) (F.extract (Int.toNat (w6 (x1 + 1))) (Int.toNat (F.size : Int)))) apn)))
    ·
     cases h
  ·
   cases h
theorem JU (s0 : Int × ByteArray) (e : E_L157_0) (h : runL (fun s => Uo s.1 s.2) s0 = some e) : PY c e (Vg c s0.1 s0.2) := by
  have q := @Zg (Int × ByteArray) E_L157_0 (fun s => Uo s.1 s.2) (fun s => Vg c s.1 s.2) (PY c) (fun s r h => HP c s.1 s.2 h) s0 e h
  exact q
end
inductive R_Y110_0_3 where
  | k0
def JV (c : ByteArray) (j : Int) (i : ByteArray) (r : R_Y110_0_3) : AV := match r with | .k0 => (vb true)
def JW (c : ByteArray) (j : Int) (i : ByteArray) (r : R_Y110_0_3) : List AB := match r with | .k0 => [.cells 3 [(i6 (if j < (c.size : Int) then (c.size : Int) else j))], .cells 9 [vs c], .cells 9 [(vs (⟨([10] : List UInt8).toArray⟩ : ByteArray))], .cells 3 [i6 0], .loop 0 none [7] [vs i, (.p (.val undef)), i6 0, .ptr 0 0, (.p (.val undef)), vs i, (.fn 57 [.ptr 2 0, .ptr 1 0, .ptr 3 0]), (.p (.val undef)), (.p (.val undef)), (.p (.val undef)), (.p (.val undef)), (.p (.val undef)), (.p (.val undef))] Yg Yh]
def TL : Option R_Y110_0_3 :=
  (some (.k0))
theorem Lc (c : ByteArray) (j : Int) (i : ByteArray) {r : R_Y110_0_3} (h : TL = some r) : WC (ev prg) 4 [vs c] [.cells 3 [i6 j], .cells 9 [vs c], .cells 9 [(vs (⟨([10] : List UInt8).toArray⟩ : ByteArray))], .cells 3 [i6 0], .loop 0 none [7] [vs i, (.p (.val undef)), i6 0, .ptr 0 0, (.p (.val undef)), vs i, (.fn 57 [.ptr 2 0, .ptr 1 0, .ptr 3 0]), (.p (.val undef)), (.p (.val undef)), (.p (.val undef)), (.p (.val undef)), (.p (.val undef)), (.p (.val undef))] Yg Yh] = some (JV c j i r, JW c j i r) := by
 unfold TL at h
 rw [← sj h]
 exact fyc [] apn (by kernel_rfl)
inductive R_F157 where
  | k0 (x0 : Int) (x1 : ByteArray)
def BK (c : ByteArray) (r : R_F157) : AV := match r with | .k0 x0 x1 => (.tup [])
def BL (c : ByteArray) (r : R_F157) : List AB := match r with | .k0 x0 x1 => [.cells 3 [i6 x0], .cells 9 [vs x1], .cells 9 [(vs (⟨([10] : List UInt8).toArray⟩ : ByteArray))], .cells 3 [i6 0], .loop 0 none [7] [vs c, (.p (.val undef)), i6 0, .ptr 0 0, (.p (.val undef)), vs c, (.fn 57 [.ptr 2 0, .ptr 1 0, .ptr 3 0]), (.p (.val undef)), (.p (.val undef)), (.p (.val undef)), (.p (.val undef)), (.p (.val undef)), (.p (.val undef))] Yg Yh]
def F157 (c : ByteArray) : Option R_F157 :=
  ((runL (fun s => Uo s.1 s.2) (0, c)).bind fun r1 => match r1 with | .k0 ak aj => ((TL).bind fun r2 => match r2 with | .k0 => (some (.k0 (if ak < (aj.size : Int) then (aj.size : Int) else ak) aj))))
abbrev HQ (g1 : Nat → AV) (ak : Int) (aj c : ByteArray) : St := ⟨fr 52 g1 [(0, .yl 4), (1, .ptr 2 0), (2, .ptr 1 0)], [.cells 3 [i6 ak], .cells 9 [vs aj], .cells 9 [(vs (⟨([10] : List UInt8).toArray⟩ : ByteArray))], .cells 3 [i6 0], .loop 0 none [7] [vs c, (.p (.val undef)), i6 0, .ptr 0 0, (.p (.val undef)), vs c, (.fn 57 [.ptr 2 0, .ptr 1 0, .ptr 3 0]), (.p (.val undef)), (.p (.val undef)), (.p (.val undef)), (.p (.val undef)), (.p (.val undef)), (.p (.val undef))] Yg Yh]⟩
abbrev HS (ak : Int) (aj c : ByteArray) : List AB := [.cells 3 [(i6 (if ak < (aj.size : Int) then (aj.size : Int) else ak))], .cells 9 [vs aj], .cells 9 [(vs (⟨([10] : List UInt8).toArray⟩ : ByteArray))], .cells 3 [i6 0], .loop 0 none [7] [vs c, (.p (.val undef)), i6 0, .ptr 0 0, (.p (.val undef)), vs c, (.fn 57 [.ptr 2 0, .ptr 1 0, .ptr 3 0]), (.p (.val undef)), (.p (.val undef)), (.p (.val undef)), (.p (.val undef)), (.p (.val undef)), (.p (.val undef))] Yg Yh]
theorem CG (c : ByteArray) {r : R_F157} (h : F157 c = some r) : CS prg 57 [.yl 4, .ptr 2 0, .ptr 1 0, .ptr 3 0] [.cells 3 [i6 0], .cells 9 [vs c], .cells 9 [(vs (⟨([10] : List UInt8).toArray⟩ : ByteArray))], .cells 3 [i6 0], .loop 0 none [7] [vs c, (.p (.val undef)), i6 0, .ptr 0 0, (.p (.val undef)), vs c, (.fn 57 [.ptr 2 0, .ptr 1 0, .ptr 3 0]), (.p (.val undef)), (.p (.val undef)), (.p (.val undef)), (.p (.val undef)), (.p (.val undef)), (.p (.val undef))] Yg Yh] = some (BK c r, BL c r) := by
 unfold F157 at h
 apply bn h; intro r1 h1 h
 cases r1 with
 | k0 ak aj =>
  obtain ⟨g1, e1⟩ := JU c (0, c) _ h1
  apply bn h; intro r2 h2 h
  cases r2 with
  | k0 =>
   rw [← sj h]
   exact fc [(2002, .l (.brk 2) (HQ g1 ak aj c)), (51, .r (vb true) (HS ak aj c)), (6000, .d true)] (apc (KG c 0 c) (apc (e1 : Vg c 0 c = some ((.brk 2), HQ g1 ak aj c)) (apc ((Lc aj ak c h2) : WC (ev prg) 4 [vs aj] [.cells 3 [i6 ak], .cells 9 [vs aj], .cells 9 [(vs (⟨([10] : List UInt8).toArray⟩ : ByteArray))], .cells 3 [i6 0], .loop 0 none [7] [vs c, (.p (.val undef)), i6 0, .ptr 0 0, (.p (.val undef)), vs c, (.fn 57 [.ptr 2 0, .ptr 1 0, .ptr 3 0]), (.p (.val undef)), (.p (.val undef)), (.p (.val undef)), (.p (.val undef)), (.p (.val undef)), (.p (.val undef))] Yg Yh] = some ((vb true), HS ak aj c)) apn)))
def BM (c : ByteArray) (x0 : Int) : AV := (i6 x0)
def F110 (c : ByteArray) : Option Int :=
  ((F126).bind fun r1 => match r1 with | .k0 => ((F157 c).bind fun r2 => match r2 with | .k0 ao ax => (some ao)))
abbrev Ld (c : ByteArray) : List AB := [.cells 3 [i6 0], .cells 9 [vs c], .cells 9 [(vs (⟨([10] : List UInt8).toArray⟩ : ByteArray))], .cells 3 [i6 0]]
abbrev HT (ao : Int) (ax : ByteArray) : List AB := [.cells 3 [i6 ao], .cells 9 [vs ax], .cells 9 [(vs (⟨([10] : List UInt8).toArray⟩ : ByteArray))], .cells 3 [i6 0], .dead]
theorem HU (c : ByteArray) {r : Int} (h : F110 c = some r) : PR1 prg 10 [vs c] (BM c r) := by
 unfold F110 at h
 apply bn h; intro r1 h1 h
 cases r1 with
 | k0 =>
  apply bn h; intro r2 h2 h
  cases r2 with
  | k0 ao ax =>
   rw [← sj h]
   exact fq [(6, .r (.fn 57 [.ptr 2 0, .ptr 1 0, .ptr 3 0]) (Ld c)), (2000, .l .norm ⟨[vs c, (.p (.val undef)), i6 0, .ptr 0 0, (.p (.val undef)), vs c, (.fn 57 [.ptr 2 0, .ptr 1 0, .ptr 3 0]), (.p (.val undef)), (.p (.val undef)), (.p (.val undef)), (.p (.val undef)), (.p (.val undef)), (.p (.val undef))], HT ao ax⟩)] (apc ((CE c h1) : CS prg 26 [vs c, (vs (⟨([10] : List UInt8).toArray⟩ : ByteArray))] [.cells 3 [i6 0]] = some ((.fn 57 [.ptr 2 0, .ptr 1 0, .ptr 3 0]), Ld c)) (apc ((GW rfl (CG c h2) rfl) : ev prg (.rangeF (.t 6) [7] Yg Yh) ⟨[vs c, (.p (.val undef)), i6 0, .ptr 0 0, (.p (.val undef)), vs c, (.fn 57 [.ptr 2 0, .ptr 1 0, .ptr 3 0]), (.p (.val undef)), (.p (.val undef)), (.p (.val undef)), (.p (.val undef)), (.p (.val undef)), (.p (.val undef))], Ld c⟩ = some (.norm, ⟨[vs c, (.p (.val undef)), i6 0, .ptr 0 0, (.p (.val undef)), vs c, (.fn 57 [.ptr 2 0, .ptr 1 0, .ptr 3 0]), (.p (.val undef)), (.p (.val undef)), (.p (.val undef)), (.p (.val undef)), (.p (.val undef)), (.p (.val undef))], HT ao ax⟩)) apn))
def BN (c : List ByteArray) (j : Int) (x0 : Bool) : AV := (vb x0)
def F103 (Nf : Nat) (c : List ByteArray) (j : Int) : Option Bool :=
  (bif (decide ((c.length : Int) > 200)) then ((F6).bind fun x2 => (some x2)) else (bif (decide ((c.length : Int) < 1)) then ((F6).bind fun x3 => (some x3)) else (bif (decide (j < 1)) then ((F6).bind fun x4 => (some x4)) else ((runL (fun s => Z3 c s.1 s.2.1 s.2.2.1 s.2.2.2.1 s.2.2.2.2.1 s.2.2.2.2.2) (0, 0, Eqq, Eqq, 0, [])).bind fun r4 => match r4 with | .k0 aO => (some aO) | .k1 aO bg aY cr bK => (bif (decide (bg ≤ bK.length)) then ((F7 Nf (BoxD.mk 3 Eqq 0 (bK.take bg)) j).bind fun r6 => match r6 with | .k0 cc bJ => ((F7 Nf (BoxD.mk 4 Eqq 0 (bK.take bg)) j).bind fun r7 => match r7 with | .k0 bf bh => (bif (decide ((cr.size : Int) ≤ j)) then ((F9 bJ).bind fun x9 => ((F9 bh).bind fun x10 => (bif ((IntKind.wrap .i64 (x9 + x10)) == 0) then (bif (cc.toList == aY.toList) then (bif (bf.toList == cr.toList) then ((F110 aY).bind fun x14 => (bif (decide (x14 ≤ 100)) then ((F6).bind fun x16 => (some x16)) else (some false))) else (some false)) else (some false)) else (some false)))) else ((F9 bJ).bind fun x9 => ((F9 bh).bind fun x10 => (bif ((IntKind.wrap .i64 (x9 + x10)) == 0) then (bif (cc.toList == aY.toList) then (bif (bf.toList == aY.toList) then ((F110 aY).bind fun x14 => (bif (decide (x14 ≤ 100)) then ((F6).bind fun x16 => (some x16)) else (some false))) else (some false)) else (some false)) else (some false))))))) else none)))))
theorem CH (Nf : Nat) (c : List ByteArray) (j : Int) {r : Bool} (h : F103 Nf c j = some r) : PR1 prg 3 [ls 1 eStr c, i6 j] (BN c j r) := by
 unfold F103 at h
 have q0 := (Wg c j 0 0 Eqq Eqq 0 ([]))
 have k1 := ka [(15, .v (i6 (c.length : Int)))] (apc (lg c eStr 1) apn)
 apply bi h <;> intro h1 h
 ·
  apply bn h; intro x2 h2 h
  rw [← sj h]
  exact fq ([(16, .d true), (26, .v (vb x2))] ++ kH k1) (k1.b (av h1 (apc (((ON  h2).cp rfl _) : CP prg 6 [] [] = some (vb x2)) apn)))
 ·
  have k2 := k1.a [(16, .d false), (19, .v (i6 (c.length : Int)))] (av h1 (apc (lg c eStr 1) apn))
  apply bi h <;> intro h2 h
  ·
   apply bn h; intro x3 h3 h
   rw [← sj h]
   exact fq ([(20, .d true), (26, .v (vb x3))] ++ kH k2) (k2.b (av h2 (apc (((ON  h3).cp rfl _) : CP prg 6 [] [] = some (vb x3)) apn)))
  ·
   apply bi h <;> intro h3 h
   ·
    apply bn h; intro x4 h4 h
    rw [← sj h]
    exact fq ([(20, .d false), (24, .d true), (26, .v (vb x4))] ++ kH k2) (k2.b (av h2 (av h3 (apc (((ON  h4).cp rfl _) : CP prg 6 [] [] = some (vb x4)) apn))))
   ·
    have k3 := k2.a [(20, .d false), (24, .d false)] (av h2 (av h3 apn))
    apply bn h; intro r4 h4 h
    cases r4 with
    | k0 aO =>
     obtain ⟨g4, y4, e4⟩ := Qk c j (0, 0, Eqq, Eqq, 0, []) _ h4
     rw [← sj h]
     exact fq ([(2000, .l .ret ⟨fr 134 g4 [(4, vb aO)], y4⟩), (6000, .d true)] ++ kH k3) (k3.b (apc q0 (apc (e4 : Wh c j 0 0 Eqq Eqq 0 ([]) = some (.ret, ⟨fr 134 g4 [(4, vb aO)], y4⟩)) apn)))
    | k1 aO bg aY cr bK =>
     obtain ⟨g4, e4⟩ := Qk c j (0, 0, Eqq, Eqq, 0, []) _ h4
     have q4 := (e4 : Wh c j 0 0 Eqq Eqq 0 ([]) = some ((.brk 0), ⟨fr 134 g4 [(0, ls 1 eStr c), (1, i6 j), (5, .sl 0 aO 4 0 bg), (6, vs aY), (7, vs cr)], [.row 28 4 aO (ra cBx bK)]⟩))
     have k5 := k3.a [(2000, .l (.brk 0) ⟨fr 134 g4 [(0, ls 1 eStr c), (1, i6 j), (5, .sl 0 aO 4 0 bg), (6, vs aY), (7, vs cr)], [.row 28 4 aO (ra cBx bK)]⟩)] (apc q0 (apc q4 apn))
     apply bi h <;> intro h5 h
     ·
      apply bn h; intro r6 h6 h
      cases r6 with
      | k0 cc bJ =>
       have q6 := (((BF Nf (BoxD.mk 3 Eqq 0 (bK.take bg)) j h6).own rfl (ZK (LY (ZK rfl (ZK rfl (ZK rfl (ZK (L0 (e := cBx) ZF rfl h5) Uk))))) (ZK rfl Uk)) rfl) : CP prg 8 [(.agg [i6 3, (vs Eqq), i6 0, .sl 0 aO 4 0 bg]), i6 j] [.row 28 4 aO (ra cBx bK)] = some (.tup [vs cc, i6 bJ]))
       apply bn h; intro r7 h7 h
       cases r7 with
       | k0 bf bh =>
        have q7 := (((BF Nf (BoxD.mk 4 Eqq 0 (bK.take bg)) j h7).own rfl (ZK (LY (ZK rfl (ZK rfl (ZK rfl (ZK (L0 (e := cBx) ZF rfl h5) Uk))))) (ZK rfl Uk)) rfl) : CP prg 8 [(.agg [i6 4, (vs Eqq), i6 0, .sl 0 aO 4 0 bg]), i6 j] [.row 28 4 aO (ra cBx bK)] = some (.tup [vs bf, i6 bh]))
        have k8 := k5.a [(94, .v (.tup [vs cc, i6 bJ])), (101, .v (.tup [vs bf, i6 bh]))] (apc q6 (apc q7 apn))
        apply bi h <;> intro h8 h
        ·
         apply bn h; intro x9 h9 h
         have q9 := (((Fx bJ h9).cp rfl _) : CP prg 9 [i6 bJ] [.row 28 4 aO (ra cBx bK)] = some (i6 x9))
         have k10 := k8.a [(108, .d true), (111, .v (i6 x9))] (av h8 (apc q9 apn))
         apply bn h; intro x10 bq h
         have cn := (((Fx bh bq).cp rfl _) : CP prg 9 [i6 bh] [.row 28 4 aO (ra cBx bK)] = some (i6 x10))
         apply bi h <;> intro bt h
         ·
          have k12 := k10.a [(113, .v (i6 x10)), (115, .d true)] (apc cn (av bt apn))
          apply bi h <;> intro bv h
          ·
           apply bi h <;> intro bD h
           ·
            have k13 := k12.a [(119, .d true), (124, .d true)] (av bv (av bD apn))
            apply bn h; intro x14 bC h
            have cz := (((HU aY bC).cp rfl _) : CP prg 10 [vs aY] [.row 28 4 aO (ra cBx bK)] = some (i6 x14))
            apply bi h <;> intro bw h
            ·
             apply bn h; intro x16 bI h
             rw [← sj h]
             exact fq ([(128, .v (i6 x14)), (129, .d true), (132, .v (vb x16)), (6000, .d true)] ++ kH k13) (k13.b (apc cz (av bw (apc (((ON  bI).cp rfl _) : CP prg 6 [] [.row 28 4 aO (ra cBx bK)] = some (vb x16)) apn))))
            ·
             rw [← sj h]
             exact fq ([(128, .v (i6 x14)), (129, .d false), (6000, .d true)] ++ kH k13) (k13.b (apc cz (av bw apn)))
           ·
            rw [← sj h]
            exact fq ([(119, .d true), (124, .d false), (6000, .d true)] ++ kH k12) (k12.b (av bv (av bD apn)))
          ·
           rw [← sj h]
           exact fq ([(119, .d false), (6000, .d true)] ++ kH k12) (k12.b (av bv apn))
         ·
          rw [← sj h]
          exact fq ([(113, .v (i6 x10)), (115, .d false), (6000, .d true)] ++ kH k10) (k10.b (apc cn (av bt apn)))
        ·
         apply bn h; intro x9 h9 h
         have cu := (((Fx bJ h9).cp rfl _) : CP prg 9 [i6 bJ] [.row 28 4 aO (ra cBx bK)] = some (i6 x9))
         have k16 := k8.a [(108, .d false), (111, .v (i6 x9))] (av h8 (apc cu apn))
         apply bn h; intro x10 bq h
         have ct := (((Fx bh bq).cp rfl _) : CP prg 9 [i6 bh] [.row 28 4 aO (ra cBx bK)] = some (i6 x10))
         apply bi h <;> intro bt h
         ·
          have k18 := k16.a [(113, .v (i6 x10)), (115, .d true)] (apc ct (av bt apn))
          apply bi h <;> intro bv h
          ·
           apply bi h <;> intro bD h
           ·
            have k19 := k18.a [(119, .d true), (124, .d true)] (av bv (av bD apn))
            apply bn h; intro x14 bC h
            have cA := (((HU aY bC).cp rfl _) : CP prg 10 [vs aY] [.row 28 4 aO (ra cBx bK)] = some (i6 x14))
            apply bi h <;> intro bw h
            ·
             apply bn h; intro x16 bI h
             rw [← sj h]
             exact fq ([(128, .v (i6 x14)), (129, .d true), (132, .v (vb x16)), (6000, .d true)] ++ kH k19) (k19.b (apc cA (av bw (apc (((ON  bI).cp rfl _) : CP prg 6 [] [.row 28 4 aO (ra cBx bK)] = some (vb x16)) apn))))
            ·
             rw [← sj h]
             exact fq ([(128, .v (i6 x14)), (129, .d false), (6000, .d true)] ++ kH k19) (k19.b (apc cA (av bw apn)))
           ·
            rw [← sj h]
            exact fq ([(119, .d true), (124, .d false), (6000, .d true)] ++ kH k18) (k18.b (av bv (av bD apn)))
          ·
           rw [← sj h]
           exact fq ([(119, .d false), (6000, .d true)] ++ kH k18) (k18.b (av bv apn))
         ·
          rw [← sj h]
          exact fq ([(113, .v (i6 x10)), (115, .d false), (6000, .d true)] ++ kH k16) (k16.b (apc ct (av bt apn)))
     ·
      cases h
end
end Go.Proofs.Tryd
