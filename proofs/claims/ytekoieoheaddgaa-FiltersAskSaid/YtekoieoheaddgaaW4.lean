/- Seat 12: the program as the abstract machine has it. -/
import Derived.Test.YtekoieoheaddgaaIr4
import Derived.Test.YtekoieoheaddgaaVE
namespace Go.Proofs.Try
set_option linter.unusedSimpArgs false
set_option linter.unusedVariables false
open Go Go.Vs
def frs (n : Nat) : Bool := false
def prg0 : Prg := ⟨fns, fun _ => none, fun _ _ _ => none, frs⟩
theorem prg0_ok : PrgOk prog prg0 := ⟨fns_ok, fun _ _ _ _ _ h => by cases h⟩
def ksym : List PV := [.val (.int .i64 0), .val (.int .u64 0), .val (.int .u64 8589934592), .val (.int .u64 0), .val (.int .u64 0), .val (.int .i64 0)]
def kprods : List (List PV) := [
 [.val (.int .i64 0), .lst 6 [ksym], .val (.string ⟨([] : List UInt8).toArray⟩), .val (.int .i64 0), .val (.bool false), .val (.bool false), .val (.int .i64 (-1))],
 [.val (.int .i64 0), .lst 6 [ksym, ksym], .val (.string ⟨([] : List UInt8).toArray⟩), .val (.int .i64 0), .val (.bool false), .val (.bool false), .val (.int .i64 (-1))],
 [.val (.int .i64 0), .lst 6 [ksym], .val (.string ⟨([] : List UInt8).toArray⟩), .val (.int .i64 11), .val (.bool false), .val (.bool false), .val (.int .i64 (-1))]]
def ksort : List (List PV) := [[.val (.string ⟨([83] : List UInt8).toArray⟩)]]
def kfoll : List (List PV) := [[.val (.int .i64 0), .val (.int .u64 0), .val (.int .u64 17179869184), .val (.int .u64 0), .val (.int .u64 0)]]
def kcs : List AV := [.p (.lst 1 ksort), .p (.lst 7 kprods), .p (.val (.int .i64 0)), .p (.val (.slice none 0 0)), .p (.lst 5 kfoll)]
def kg : AV := .agg kcs
def kr_one : List (List PV) := [[.val (.int .i64 0), .val (.int .i64 0), .val (.int .i64 1), .val (.int .i64 0), .lst 1 [[.val (.int .i64 1)]]]]
def kr_two : List (List PV) := [[.val (.int .i64 0), .val (.int .i64 0), .val (.int .i64 2), .val (.int .i64 1), .lst 1 [[.val (.int .i64 1)], [.val (.int .i64 2)]]]]
def kone : AV := .p (.lst 5 kr_one)
def ktwo : AV := .p (.lst 5 kr_two)
def w97 : AV := vs ⟨([97] : List UInt8).toArray⟩
def w9797 : AV := vs ⟨([97, 97] : List UInt8).toArray⟩
def w979798 : AV := vs ⟨([97, 97, 98] : List UInt8).toArray⟩
def w9798 : AV := vs ⟨([97, 98] : List UInt8).toArray⟩
def kr1 : AV := .tup [.p (.lst 5 []), vi .i64 0]
def kr2 : AV := .tup [ktwo, vi .i64 0]
def kr3 : AV := .tup [.p (.lst 1 [[.val (.int .i64 2)]]), vi .i64 0]
def kr4 : AV := .tup [vb true, vi .i64 0]
def kr5 : AV := .tup [vb false, vi .i64 4]
theorem kn1 : callP prg0 (evalN prg0 60) 12 [kg, w97, kone] [] = some kr1 := by kernel_rfl
theorem kn2 : callP prg0 (evalN prg0 60) 12 [kg, w9797, ktwo] [] = some kr2 := by kernel_rfl
theorem kn3 : callP prg0 (evalN prg0 60) 13 [kg, w979798, ktwo] [] = some kr3 := by kernel_rfl
theorem kn4 : callP prg0 (evalN prg0 60) 17 [kg, vi .i64 0, w97] [] = some kr4 := by kernel_rfl
theorem kn5 : callP prg0 (evalN prg0 60) 18 [kg, vi .i64 0, w9798, vi .i64 1] [] = some kr4 := by kernel_rfl
theorem kn6 : callP prg0 (evalN prg0 60) 17 [kg, vi .i64 1, w97] [] = some kr5 := by kernel_rfl
theorem kAll {n fn : Nat} {args : List AV} {v : AV} (k : callP prg0 (evalN prg0 n) fn args [] = some v) (hp : AV.pure.pures args = true) (h : List AB) : CP prg0 fn args h = some v := by
 have := CP_of n k
 rw [CP_in _ _ hp] at this ⊢
 exact this
def kh : List AB := [.cells 75 (ksym.map .p), .frz 1 0 ksort, .frz 6 0 [ksym], .frz 6 0 [ksym, ksym], .frz 6 0 [ksym], .frz 7 0 kprods, .frz 5 0 kfoll, .row 9 1 0 [], .row 52 7 0 [], .row 65 3 0 [], .row 70 5 0 [], .cells 27 kcs, .frz 1 0 [[.val (.int .i64 1)]], .frz 5 0 kr_one, .frz 1 0 [[.val (.int .i64 1)], [.val (.int .i64 2)]], .frz 5 0 kr_two]
theorem known1 : PR1 prg0 10 [] (vb true) :=
 fpr [(44, .v kr1), (50, .v kr2), (56, .v kr3), (61, .v kr4), (66, .v kr4), (71, .v kr5)]
  (apc (kAll kn1 rfl kh) (apc (kAll kn2 rfl kh) (apc (kAll kn3 rfl kh) (apc (kAll kn4 rfl kh) (apc (kAll kn5 rfl kh) (apc (kAll kn6 rfl kh) (show AllP [] from trivial))))))) rfl (by kernel_rfl)
def primK (n : Nat) (args : List AV) (h : List AB) : Option (AV × List AB) := match n.beq 10 && args.isEmpty with
 | true => some (vb true, h)
 | false => none
def prg : Prg := ⟨fun n => match n.beq 10 with | true => none | false => fns n, fun _ => none, primK, frs⟩
theorem prg_ok : PrgOk prog prg := by
 refine ⟨fun f F h => ?_, fun f args h v h' hc => ?_⟩
 ·have h : (match f.beq 10 with | true => none | false => fns f) = some F := h
  split at h
  ·cases h
  ·exact fns_ok f F h
 ·have hc : primK f args h = some (v, h') := hc
  unfold primK at hc
  split at hc
  ·rename_i e
   have e1 : f = 10 := Nat.eq_of_beq_eq_true (by cases h1 : f.beq 10 with | true => rfl | false => rw [h1] at e; cases e)
   subst e1
   have e2 : args = [] := by cases args with | nil => rfl | cons _ _ => cases e
   subst e2
   cases hc
   exact CP_sound (p := prg0) prg0_ok (known1.cp rfl _)
  ·cases hc
theorem known : PR1 prg 10 [] (vb true) := ⟨vb true, [], by unfold CS callS; rfl, rfl⟩
structure SetD where
 a : Int
 b : Int
 c : Int
 d : Int
structure SymD where
 kind : Int
 a : Int
 b : Int
 c : Int
 d : Int
 sort : Int
structure ProdD where
 left : Int
 right : List SymD
 cons : ByteArray
 role : Int
 prefer : Bool
 avoid : Bool
 frm : Int
structure ForbD where
 parent : Int
 at_ : Int
 child : Int
structure FollD where
 sort : Int
 a : Int
 b : Int
 c : Int
 d : Int
structure GramD where
 sorts : List ByteArray
 prods : List ProdD
 start : Int
 forbid : List ForbD
 follow : List FollD
def eStr (s : ByteArray) : List PV := [.val (.string s)]
def eSym (s : SymD) : List PV := [.val (.int .i64 s.kind), .val (.int .u64 s.a), .val (.int .u64 s.b), .val (.int .u64 s.c), .val (.int .u64 s.d), .val (.int .i64 s.sort)]
def eProd (p : ProdD) : List PV := [.val (.int .i64 p.left), .lst 6 (p.right.map eSym), .val (.string p.cons), .val (.int .i64 p.role), .val (.bool p.prefer), .val (.bool p.avoid), .val (.int .i64 p.frm)]
def eForb (f : ForbD) : List PV := [.val (.int .i64 f.parent), .val (.int .i64 f.at_), .val (.int .i64 f.child)]
def eFoll (f : FollD) : List PV := [.val (.int .i64 f.sort), .val (.int .u64 f.a), .val (.int .u64 f.b), .val (.int .u64 f.c), .val (.int .u64 f.d)]
def eGram (g : GramD) : List PV := [.lst 1 (g.sorts.map eStr), .lst 7 (g.prods.map eProd), .val (.int .i64 g.start), .lst 3 (g.forbid.map eForb), .lst 5 (g.follow.map eFoll)]
def bG (g : GramD) : AB := .cells 27 ((eGram g).map .p)
def bP (p : ProdD) : AB := .cells 52 ((eProd p).map .p)
def aG (g : GramD) : AV := .agg ((eGram g).map .p)
def aP (p : ProdD) : AV := .agg ((eProd p).map .p)
def w6 (n : Int) : Int := IntKind.wrap .i64 n
def b0 : ByteArray := (⟨([] : List UInt8).toArray⟩ : ByteArray)
abbrev i6 (n : Int) : AV := vi .i64 n
noncomputable def F10 : Option Bool := some true
def F10_v (x0 : Bool) : AV := vb x0
theorem F10_ok {r : Bool} (h : F10 = some r) : PR1 prg 10 [] (F10_v r) := by cases h; exact known
abbrev yY0 : AB := .row 75 6 0 (ra eSym [])
abbrev ls {α : Type} (n : Nat) (e : α → List PV) (x : List α) : AV := .p (.lst n (x.map e))
abbrev n0 : AV := .p (.val (.slice .none 0 0))
abbrev lS (g : GramD) : Int := (g.sorts.length : Int)
abbrev lP (g : GramD) : Int := (g.prods.length : Int)
abbrev lF (g : GramD) : Int := (g.forbid.length : Int)
abbrev lW (g : GramD) : Int := (g.follow.length : Int)
theorem ar {m t s g : Nat} {α : Type} {e : α → List PV} {xs : List α} {l : List AB} (h : l.all (AB.blw m) = true) : (AB.row t s g (ra e xs) :: l).all (AB.blw m) = true := abl_cons abl_row h
theorem ac {m : Nat} {x : AB} {l : List AB} (hs : l.all (AB.blw m) = true) (h : x.blw m = true := by exact rfl) : (x :: l).all (AB.blw m) = true := abl_cons h hs
theorem av {b c : Bool} {qs : List Prop} (h : b = c) (hs : AllP qs) : AllP ((vb b = vb c) :: qs) := apc (cv h) hs
noncomputable def joP (a b : List Prop) : List Prop := List.rec (motive := fun _ => List Prop) b (fun x _ r => x :: r) a
noncomputable def joH (a b : List (Nat × Hint)) : List (Nat × Hint) := List.rec (motive := fun _ => List (Nat × Hint)) b (fun x _ r => x :: r) a
abbrev KP (_ : List (Nat × Hint)) (P : List Prop → List Prop) : Prop := ∀ l, AllP l → AllP (P l)
abbrev kH {H : List (Nat × Hint)} {P : List Prop → List Prop} (_ : KP H P) : List (Nat × Hint) := H
theorem joP_all {l : List Prop} (hl : AllP l) : ∀ {ps : List Prop}, AllP ps → AllP (joP ps l)
 | [], _ => hl
 | _ :: _, h => AllP_cons.2 ⟨(AllP_cons.1 h).1, joP_all hl (AllP_cons.1 h).2⟩
theorem ka (H : List (Nat × Hint)) {ps : List Prop} (hp : AllP ps) : KP H (joP ps) := fun _ hl => joP_all hl hp
theorem KP.a {H : List (Nat × Hint)} {P : List Prop → List Prop} {qs : List Prop} (k : KP H P) (H2 : List (Nat × Hint)) (hq : AllP qs) : KP (joH H2 H) (fun l => P (joP qs l)) := fun _ hl => k _ (joP_all hl hq)
theorem KP.b {H : List (Nat × Hint)} {P : List Prop → List Prop} {qs : List Prop} (k : KP H P) (hq : AllP qs) : AllP (P qs) := k _ hq
section
variable {p : Prg} {m id fn : Nat} {live : List Nat} {b : IC} {s s2 : St} {ps : List Prop} {N : Nat} {h h0 : List AB} {L : List (Nat × AV)} {args : List AV} {v : AV}
theorem rn (H : List (Nat × Hint)) (hp : AllP ps) (e : roundD p 30 H m live b s = some (ps, .norm, s2) := by kernel_rfl) : evH p m live b s = evH p m live b s2 := rnd H hp e
theorem xb (H : List (Nat × Hint)) (hp : AllP ps) (e : exitL L (roundD p 30 H m live b s) = some (ps, .brk id, L, N, h) := by kernel_rfl) : ∃ g, evH p m live b s = some (.brk id, ⟨fr N g L, h⟩) := xbrk H hp e
theorem xy (H : List (Nat × Hint)) (hp : AllP ps) (e : exitV L (roundD p 30 H m live b s) = some (ps, .ret, L, N) := by kernel_rfl) : ∃ g y, evH p m live b s = some (.ret, ⟨fr N g L, y⟩) := xretY H hp e
theorem fc (H : List (Nat × Hint)) (hp : AllP ps) (e : callDS p 30 H fn args h0 = some (ps, v, h) := by kernel_rfl) : CS p fn args h0 = some (v, h) := fcs H hp e
theorem fq (H : List (Nat × Hint)) (hp : AllP ps) (hv : v.pure = true := by exact rfl) (e : (callDS p 30 H fn args []).map (fun r => (r.1, r.2.1)) = some (ps, v) := by kernel_rfl) : PR1 p fn args v := fpr H hp hv e
end
end Go.Proofs.Try
