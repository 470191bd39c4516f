/- Seat 19: the program as the abstract machine has it; the laws' closed part, told. -/
import Derived.Test.YthlndaofdgpjfaaIr3
import Derived.Test.YthlndaofdgpjfaaVE
namespace Go.Proofs.Try
set_option linter.unusedSimpArgs false
set_option linter.unusedVariables false
open Go Go.Vs
def frs (n : Nat) : Bool := false
def prgN : Prg := ⟨fns, fun _ => none, fun _ _ _ => none, frs⟩
theorem prgN_ok : PrgOk prog prgN := ⟨fns_ok, fun _ _ _ _ _ h => by cases h⟩
theorem known0 : callP prgN (evalN prgN 60) 8 [] [] = some (vb true) := by kernel_rfl
def primK (n : Nat) (args : List AV) (h : List AB) : Option (AV × List AB) := match n.beq 8 && args.isEmpty with
 | true => some (vb true, h)
 | false => none
def prg : Prg := ⟨fun n => match n.beq 8 with | true => none | false => fns n, fun _ => none, primK, frs⟩
theorem prg_ok : PrgOk prog prg := by
 refine ⟨fun f F h => ?_, fun f args h v h' hc => ?_⟩
 ·have h : (match f.beq 8 with | true => none | false => fns f) = some F := h
  split at h
  ·cases h
  ·exact fns_ok f F h
 ·have hc : primK f args h = some (v, h') := hc
  unfold primK at hc
  split at hc
  ·rename_i e
   have e1 : f = 8 := Nat.eq_of_beq_eq_true (by cases h1 : f.beq 8 with | true => rfl | false => rw [h1] at e; cases e)
   subst e1
   have e2 : args = [] := by cases args with | nil => rfl | cons _ _ => cases e
   subst e2
   cases hc
   refine CP_sound (p := prgN) prgN_ok ?_
   have k := CP_of 60 known0
   rw [CP_in _ _ rfl] at k ⊢
   exact k
  ·cases hc
theorem known : PR1 prg 8 [] (vb true) := ⟨vb true, [], by unfold CS callS; rfl, rfl⟩
structure ScopeD where
 par : Int
 frm : Int
 til : Int
structure NameD where
 scp : Int
 spc : ByteArray
 txt : ByteArray
 frm : Int
 til : Int
structure ScopesD where
 all : List ScopeD
 decl : List NameD
 uses : List NameD
def eScope (a : ScopeD) : List PV := [.val (.int .i64 a.par), .val (.int .i64 a.frm), .val (.int .i64 a.til)]
def eName (a : NameD) : List PV := [.val (.int .i64 a.scp), .val (.string a.spc), .val (.string a.txt), .val (.int .i64 a.frm), .val (.int .i64 a.til)]
def eScps (a : ScopesD) : List PV := [.lst 3 (a.all.map eScope), .lst 5 (a.decl.map eName), .lst 5 (a.uses.map eName)]
abbrev i6 (n : Int) : AV := vi .i64 n
noncomputable def F8 : Option Bool := some true
def F8_v (x0 : Bool) : AV := vb x0
theorem F8_ok {r : Bool} (h : F8 = some r) : PR1 prg 8 [] (F8_v r) := by cases h; exact known
abbrev ls {α : Type} (n : Nat) (e : α → List PV) (x : List α) : AV := .p (.lst n (x.map e))
abbrev w6 (n : Int) : Int := IntKind.wrap .i64 n
theorem ac {m : Nat} {x : AB} {l : List AB} (hs : l.all (AB.blw m) = true) (h : x.blw m = true := by exact rfl) : (x :: l).all (AB.blw m) = true := abl_cons h hs
theorem av {b c : Bool} {qs : List Prop} (h : b = c) (hs : AllP qs) : AllP ((vb b = vb c) :: qs) := apc (cv h) hs
noncomputable def joP (a b : List Prop) : List Prop := List.rec (motive := fun _ => List Prop) b (fun x _ r => x :: r) a
noncomputable def joH (a b : List (Nat × Hint)) : List (Nat × Hint) := List.rec (motive := fun _ => List (Nat × Hint)) b (fun x _ r => x :: r) a
abbrev KP (_ : List (Nat × Hint)) (P : List Prop → List Prop) : Prop := ∀ l, AllP l → AllP (P l)
abbrev kH {H : List (Nat × Hint)} {P : List Prop → List Prop} (_ : KP H P) : List (Nat × Hint) := H
theorem joP_all {l : List Prop} (hl : AllP l) : ∀ {ps : List Prop}, AllP ps → AllP (joP ps l)
 | [], _ => hl
 | _ :: _, h => AllP_cons.2 ⟨(AllP_cons.1 h).1, joP_all hl (AllP_cons.1 h).2⟩
theorem ka (H : List (Nat × Hint)) {ps : List Prop} (hp : AllP ps) : KP H (joP ps) := fun _ hl => joP_all hl hp
theorem KP.a {H : List (Nat × Hint)} {P : List Prop → List Prop} {qs : List Prop} (k : KP H P) (H2 : List (Nat × Hint)) (hq : AllP qs) : KP (joH H2 H) (fun l => P (joP qs l)) := fun _ hl => k _ (joP_all hl hq)
theorem KP.b {H : List (Nat × Hint)} {P : List Prop → List Prop} {qs : List Prop} (k : KP H P) (hq : AllP qs) : AllP (P qs) := k _ hq
section
variable {p : Prg} {m id fn : Nat} {live : List Nat} {b : IC} {s s2 : St} {ps : List Prop} {N : Nat} {h h0 : List AB} {L : List (Nat × AV)} {args : List AV} {v : AV}
theorem rn (H : List (Nat × Hint)) (hp : AllP ps) (e : roundD p 30 H m live b s = some (ps, .norm, s2) := by kernel_rfl) : evH p m live b s = evH p m live b s2 := rnd H hp e
theorem xb (H : List (Nat × Hint)) (hp : AllP ps) (e : exitL L (roundD p 30 H m live b s) = some (ps, .brk id, L, N, h) := by kernel_rfl) : ∃ g, evH p m live b s = some (.brk id, ⟨fr N g L, h⟩) := xbrk H hp e
theorem xy (H : List (Nat × Hint)) (hp : AllP ps) (e : exitV L (roundD p 30 H m live b s) = some (ps, .ret, L, N) := by kernel_rfl) : ∃ g y, evH p m live b s = some (.ret, ⟨fr N g L, y⟩) := xretY H hp e
theorem fq (H : List (Nat × Hint)) (hp : AllP ps) (hv : v.pure = true := by exact rfl) (e : (callDS p 30 H fn args []).map (fun r => (r.1, r.2.1)) = some (ps, v) := by kernel_rfl) : PR1 p fn args v := fpr H hp hv e
end
end Go.Proofs.Try
