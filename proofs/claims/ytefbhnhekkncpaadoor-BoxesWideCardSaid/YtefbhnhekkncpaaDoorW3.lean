/- Seat 16: the program as the abstract machine has it; the laws' closed part, part 1. -/
import Derived.Test.YtefbhnhekkncpaaDoorFT3
import Derived.Test.YtefbhnhekkncpaaDoorVE
namespace Go.Proofs.Tryd
set_option linter.unusedSimpArgs false
set_option linter.unusedVariables false
open Go Go.Vs
def frs (n : Nat) : Bool := n.beq 33 || n.beq 43 || n.beq 48
def prgN : Prg := ⟨fun n => match n.beq 53 with | true => none | false => fns n, fun _ => none, fun n args h => match n.beq 53 with | true => repA args h | false => none, frs⟩
theorem Cb : PrgOk prog prgN := by
 refine ⟨fun f F h => ?_, fun f args h v h' hc => ?_⟩
 ·have h : (match f.beq 53 with | true => none | false => fns f) = some F := h
  split at h
  ·cases h
  ·exact F4 f F h
 ·have hc : (match f.beq 53 with | true => repA args h | false => none) = some (v, h') := hc
  split at hc
  ·rename_i e
   obtain rfl := Nat.eq_of_beq_eq_true e
   exact F5 _ hc
  ·cases hc
def sS : AV := .agg [vi .i64 4, vs (⟨([] : List UInt8).toArray⟩ : ByteArray), vi .i64 0, .p (.lst 4 [[.val (.int .i64 0), .val (.string (⟨([105, 102] : List UInt8).toArray⟩ : ByteArray)), .val (.int .i64 0), .val (.slice none 0 0)], [.val (.int .i64 5), .val (.string (⟨([] : List UInt8).toArray⟩ : ByteArray)), .val (.int .i64 2), .lst 4 [[.val (.int .i64 1), .val (.string (⟨([] : List UInt8).toArray⟩ : ByteArray)), .val (.int .i64 1), .val (.slice none 0 0)], [.val (.int .i64 0), .val (.string (⟨([97, 59] : List UInt8).toArray⟩ : ByteArray)), .val (.int .i64 0), .val (.slice none 0 0)], [.val (.int .i64 1), .val (.string (⟨([] : List UInt8).toArray⟩ : ByteArray)), .val (.int .i64 1), .val (.slice none 0 0)], [.val (.int .i64 0), .val (.string (⟨([98, 59] : List UInt8).toArray⟩ : ByteArray)), .val (.int .i64 0), .val (.slice none 0 0)]]], [.val (.int .i64 1), .val (.string (⟨([] : List UInt8).toArray⟩ : ByteArray)), .val (.int .i64 1), .val (.slice none 0 0)], [.val (.int .i64 0), .val (.string (⟨([101, 110, 100] : List UInt8).toArray⟩ : ByteArray)), .val (.int .i64 0), .val (.slice none 0 0)]])]
theorem r13 : callP prgN (ZJ prgN 40) 22 [] [] = some sS := by kernel_rfl
theorem r14 : callP prgN (ZJ prgN 40) 15 [sS] [] = some (.tup [vi .i64 9, vi .i64 3]) := by kernel_rfl
theorem r7c : callP prgN (ZJ prgN 40) 8 [.agg [vi .i64 9, vs (⟨([] : List UInt8).toArray⟩ : ByteArray), vi .i64 0, .p (.val (.slice none 0 0))], vi .i64 10] [] = some (.tup [vs (⟨([] : List UInt8).toArray⟩ : ByteArray), vi .i64 260]) := by kernel_rfl
theorem r7d : callP prgN (ZJ prgN 40) 8 [sS, vi .i64 0] [] = some (.tup [vs (⟨([] : List UInt8).toArray⟩ : ByteArray), vi .i64 2]) := by kernel_rfl
theorem r7a : callP prgN (ZJ prgN 40) 8 [sS, vi .i64 20] [] = some (.tup [vs (⟨([105, 102, 32, 97, 59, 32, 98, 59, 32, 101, 110, 100] : List UInt8).toArray⟩ : ByteArray), vi .i64 0]) := by kernel_rfl
theorem r7b : callP prgN (ZJ prgN 40) 8 [sS, vi .i64 10] [] = some (.tup [vs (⟨([105, 102, 10, 32, 32, 97, 59, 10, 32, 32, 98, 59, 10, 101, 110, 100] : List UInt8).toArray⟩ : ByteArray), vi .i64 0]) := by kernel_rfl
def sSc : List AV := match sS with | .agg xs => xs | _ => []
def hW : List AB := [.row 28 4 0 [], .cells 28 sSc]
theorem cpw {fn : Nat} {args : List AV} {x : AV} (hp : AV.pure.pures args = true) (h : callP prgN (ZJ prgN 40) fn args [] = some x) (h0 : List AB) : CP prgN fn args h0 = some x := by
 have := Ah 40 h
 rw [Bd _ _ hp] at this ⊢
 exact this
def rA : AV := .tup [vs (⟨([105, 102, 32, 97, 59, 32, 98, 59, 32, 101, 110, 100] : List UInt8).toArray⟩ : ByteArray), vi .i64 0]
def rB : AV := .tup [vs (⟨([105, 102, 10, 32, 32, 97, 59, 10, 32, 32, 98, 59, 10, 101, 110, 100] : List UInt8).toArray⟩ : ByteArray), vi .i64 0]
def rC : AV := .tup [vs (⟨([] : List UInt8).toArray⟩ : ByteArray), vi .i64 260]
def rD : AV := .tup [vs (⟨([] : List UInt8).toArray⟩ : ByteArray), vi .i64 2]
def rE : AV := .tup [vi .i64 9, vi .i64 3]
def bad9 : AV := .agg [vi .i64 9, vs (⟨([] : List UInt8).toArray⟩ : ByteArray), vi .i64 0, .p (.val (.slice none 0 0))]
theorem Bq : PR1 prgN 6 [] (vb true) :=
 fpr [(12, .v sS), (15, .v rA), (20, .v rB), (25, .v rC), (30, .v rD), (35, .v rE)]
  (apc (cpw rfl r13 [] : CP prgN 22 [] [] = some sS) (apc (cpw rfl r7a hW : CP prgN 8 [sS, vi .i64 20] hW = some rA) (apc (cpw rfl r7b hW : CP prgN 8 [sS, vi .i64 10] hW = some rB)
   (apc (cpw rfl r7c hW : CP prgN 8 [bad9, vi .i64 10] hW = some rC) (apc (cpw rfl r7d hW : CP prgN 8 [sS, vi .i64 0] hW = some rD) (apc (cpw rfl r14 hW : CP prgN 15 [sS] hW = some rE) apn)))))) rfl (by kernel_rfl)
def Cc (n : Nat) (args : List AV) (h : List AB) : Option (AV × List AB) := match n.beq 53 with
 | true => repA args h
 | false => match n.beq 6 && args.isEmpty with
  | true => some (vb true, h)
  | false => none
def prg : Prg := ⟨fun n => match n.beq 53 || n.beq 6 with | true => none | false => fns n, fun _ => none, Cc, frs⟩
theorem prg_ok : PrgOk prog prg := by
 refine ⟨fun f F h => ?_, fun f args h v h' hc => ?_⟩
 ·have h : (match f.beq 53 || f.beq 6 with | true => none | false => fns f) = some F := h
  split at h
  ·cases h
  ·exact F4 f F h
 ·have hc : Cc f args h = some (v, h') := hc
  unfold Cc at hc
  split at hc
  ·rename_i e
   obtain rfl := Nat.eq_of_beq_eq_true e
   exact F5 _ hc
  ·split at hc
   ·rename_i e
    have e1 : f = 6 := Nat.eq_of_beq_eq_true (by cases h1 : f.beq 6 with | true => rfl | false => rw [h1] at e; cases e)
    subst e1
    have e2 : args = [] := by cases args with | nil => rfl | cons _ _ => cases e
    subst e2
    cases hc
    exact LQ (p := prgN) Cb (Bq.cp rfl h)
   ·cases hc
theorem Cd (s : ByteArray) (n : Int) (h : rpOk s n = true) : PR1 prg 53 [vs s, vi .i64 n] (vs (repS s n)) := ⟨vs (repS s n), [], by
 show repA [vs s, vi .i64 n] [] = _
 simp only [repA]
 rw [if_pos h], rfl⟩
theorem Ap : PR1 prg 6 [] (vb true) := ⟨vb true, [], by unfold CS callS; rfl, rfl⟩
inductive BoxD where
 | mk (kind : Int) (text : ByteArray) (n : Int) (kids : List BoxD)
def BoxD.kind : BoxD → Int | .mk k _ _ _ => k
def BoxD.text : BoxD → ByteArray | .mk _ t _ _ => t
def BoxD.n : BoxD → Int | .mk _ _ n _ => n
def BoxD.kids : BoxD → List BoxD | .mk _ _ _ l => l
mutual
def eBox : BoxD → List PV
 | .mk k t n l => [.val (.int .i64 k), .val (.string t), .val (.int .i64 n), .lst 4 (Zb l)]
def Zb : List BoxD → List (List PV)
 | [] => []
 | t :: ts => eBox t :: Zb ts
end
def cBx (t : BoxD) : List PV := [.val (.int .i64 t.kind), .val (.string t.text), .val (.int .i64 t.n), .lst 4 (Zb t.kids)]
theorem Br : ∀ t, eBox t = cBx t
 | .mk _ _ _ _ => rfl
theorem ZF : ∀ ts, Zb ts = ts.map cBx
 | [] => rfl
 | t :: ts => by simp only [Zb, List.map_cons, ZF ts, Br]
structure ThingD where
 kind : Int
 text : ByteArray
 n : Int
 kids : List BoxD
 depth : Int
 way : Int
 at_ : Int
def Za (a : ThingD) : List PV := [.val (.int .i64 a.kind), .val (.string a.text), .val (.int .i64 a.n), .lst 4 (Zb a.kids), .val (.int .i64 a.depth), .val (.int .i64 a.way), .val (.int .i64 a.at_)]
def eI64 (n : Int) : List PV := [.val (.int .i64 n)]
def eU8 (n : Int) : List PV := [.val (.int .u8 n)]
def Zc (b : Bool) : List PV := [.val (.bool b)]
def eStr (s : ByteArray) : List PV := [.val (.string s)]
abbrev i6 (n : Int) : AV := vi .i64 n
noncomputable def F35 (a1 : ByteArray) (a2 : Int) : Option ByteArray := bif rpOk a1 a2 then some (repS a1 a2) else none
def Aq (a1 : ByteArray) (a2 : Int) (x0 : ByteArray) : AV := vs x0
theorem F8 (a1 : ByteArray) (a2 : Int) {r : ByteArray} (h : F35 a1 a2 = some r) : PR1 prg 53 [vs a1, vi .i64 a2] (Aq a1 a2 r) := by
 unfold F35 at h
 cases hk : rpOk a1 a2 with
 | true => rw [hk] at h; cases h; exact Cd a1 a2 hk
 | false => rw [hk] at h; cases h
noncomputable def F6 : Option Bool := some true
def F6_v (x0 : Bool) : AV := vb x0
theorem ON {r : Bool} (h : F6 = some r) : PR1 prg 6 [] (F6_v r) := by cases h; exact Ap
abbrev ls {α : Type} (n : Nat) (e : α → List PV) (x : List α) : AV := .p (.lst n (x.map e))
abbrev w6 (n : Int) : Int := IntKind.wrap .i64 n
abbrev n0 : AV := .p (.val (.slice .none 0 0))
abbrev yU (g : Nat) (x : List Int) : AB := .row 5 1 g (ra eU8 x)
abbrev yT (g : Nat) (x : List ThingD) : AB := .row 77 7 g (ra Za x)
abbrev yB (g : Nat) (x : List Bool) : AB := .row 4 1 g (ra Zc x)
abbrev yI (g : Nat) (x : List Int) : AB := .row 3 1 g (ra eI64 x)
abbrev yT0 : AB := .row 77 7 0 (ra Za [])
abbrev yB0 : AB := .row 4 1 0 (ra Zc [])
abbrev yI0 : AB := .row 3 1 0 (ra eI64 [])
theorem ar {m t s g : Nat} {α : Type} {e : α → List PV} {xs : List α} {l : List AB} (h : l.all (AB.blw m) = true) : (AB.row t s g (ra e xs) :: l).all (AB.blw m) = true := Zv Di h
theorem ac {m : Nat} {x : AB} {l : List AB} (hs : l.all (AB.blw m) = true) (h : x.blw m = true := by exact rfl) : (x :: l).all (AB.blw m) = true := Zv h hs
theorem av {b c : Bool} {qs : List Prop} (h : b = c) (hs : AllP qs) : AllP ((vb b = vb c) :: qs) := apc (cv h) hs
noncomputable def joP (a b : List Prop) : List Prop := List.rec (motive := fun _ => List Prop) b (fun x _ r => x :: r) a
noncomputable def joH (a b : List (Nat × Hint)) : List (Nat × Hint) := List.rec (motive := fun _ => List (Nat × Hint)) b (fun x _ r => x :: r) a
abbrev KP (_ : List (Nat × Hint)) (P : List Prop → List Prop) : Prop := ∀ l, AllP l → AllP (P l)
abbrev kH {H : List (Nat × Hint)} {P : List Prop → List Prop} (_ : KP H P) : List (Nat × Hint) := H
theorem MG {l : List Prop} (hl : AllP l) : ∀ {ps : List Prop}, AllP ps → AllP (joP ps l)
 | [], _ => hl
 | _ :: _, h => WD.2 ⟨(WD.1 h).1, MG hl (WD.1 h).2⟩
theorem ka (H : List (Nat × Hint)) {ps : List Prop} (hp : AllP ps) : KP H (joP ps) := fun _ hl => MG hl hp
theorem KP.a {H : List (Nat × Hint)} {P : List Prop → List Prop} {qs : List Prop} (k : KP H P) (H2 : List (Nat × Hint)) (hq : AllP qs) : KP (joH H2 H) (fun l => P (joP qs l)) := fun _ hl => k _ (MG hl hq)
theorem KP.b {H : List (Nat × Hint)} {P : List Prop → List Prop} {qs : List Prop} (k : KP H P) (hq : AllP qs) : AllP (P qs) := k _ hq
section
variable {p : Prg} {m id fn : Nat} {live : List Nat} {b : IC} {s s2 : St} {ps : List Prop} {N : Nat} {h h0 : List AB} {L : List (Nat × AV)} {args : List AV} {v : AV}
theorem rn (H : List (Nat × Hint)) (hp : AllP ps) (e : YN p 30 H m live b s = some (ps, .norm, s2) := by kernel_rfl) : evH p m live b s = evH p m live b s2 := rnd H hp e
theorem xb (H : List (Nat × Hint)) (hp : AllP ps) (e : ME L (YN p 30 H m live b s) = some (ps, .brk id, L, N, h) := by kernel_rfl) : ∃ g, evH p m live b s = some (.brk id, ⟨fr N g L, h⟩) := xbrk H hp e
theorem xr (H : List (Nat × Hint)) (hp : AllP ps) (e : ME L (YN p 30 H m live b s) = some (ps, .ret, L, N, h) := by kernel_rfl) : ∃ g, evH p m live b s = some (.ret, ⟨fr N g L, h⟩) := xret H hp e
theorem xy (H : List (Nat × Hint)) (hp : AllP ps) (e : Dg L (YN p 30 H m live b s) = some (ps, .ret, L, N) := by kernel_rfl) : ∃ g y, evH p m live b s = some (.ret, ⟨fr N g L, y⟩) := Am H hp e
theorem fc (H : List (Nat × Hint)) (hp : AllP ps) (e : Ti p 30 H fn args h0 = some (ps, v, h) := by kernel_rfl) : CS p fn args h0 = some (v, h) := fcs H hp e
theorem fq (H : List (Nat × Hint)) (hp : AllP ps) (hv : v.pure = true := by exact rfl) (e : (Ti p 30 H fn args []).map (fun r => (r.1, r.2.1)) = some (ps, v) := by kernel_rfl) : PR1 p fn args v := fpr H hp hv e
end
abbrev Eqq : ByteArray := (⟨([] : List UInt8).toArray⟩ : ByteArray)
abbrev Tqq := List ThingD
abbrev Iqq := List Int
abbrev Bqq := List BoxD
abbrev Oqq := List Bool
end Go.Proofs.Tryd
