/- The law's closed part: it answers true; the program with this told. -/
import Derived.Test.YthpmanlglbfcdaaDoorFT8
import Derived.Test.YthpmanlglbfcdaaDoorVE
namespace Go.Proofs.Tryd
set_option linter.unusedSimpArgs false
set_option linter.unusedVariables false
open Go Go.Vs
theorem known0 : callP prgN (evalN prgN 100) 9 [] [] = some (vb true) := by kernel_rfl
def primK (n : Nat) (args : List AV) (h : List AB) : Option (AV × List AB) := match n.beq 42 with
 | true => cloneA 34 3 32 args h
 | false => match n.beq 9 && args.isEmpty with
  | true => some (vb true, h)
  | false => match n.beq 21 with
   | true => repA args h
   | false => none
def prg : Prg := ⟨fun n => match n.beq 42 || n.beq 9 || n.beq 21 with | true => none | false => fns n, fun _ => none, primK, frs⟩
theorem prg_ok : PrgOk prog prg := by
 refine ⟨fun f F h => ?_, fun f args h v h' hc => ?_⟩
 ·have h : (match f.beq 42 || f.beq 9 || f.beq 21 with | true => none | false => fns f) = some F := h
  split at h
  ·cases h
  ·exact fns_ok f F h
 ·have hc : primK f args h = some (v, h') := hc
  unfold primK at hc
  split at hc
  ·rename_i e
   obtain rfl := Nat.eq_of_beq_eq_true e
   exact clone_ok hc _ rfl
  ·split at hc
   ·rename_i e
    have e1 : f = 9 := Nat.eq_of_beq_eq_true (by cases h1 : f.beq 9 with | true => rfl | false => rw [h1] at e; cases e)
    subst e1
    have e2 : args = [] := by cases args with | nil => rfl | cons _ _ => cases e
    subst e2
    cases hc
    refine CP_sound (p := prgN) prgN_ok ?_
    have k := CP_of 100 known0
    rw [CP_in _ _ rfl] at k ⊢
    exact k
   ·split at hc
    ·rename_i e
     obtain rfl := Nat.eq_of_beq_eq_true e
     exact rep_ok _ hc
    ·cases hc
theorem repeats (s : ByteArray) (n : Int) (h : rpOk s n = true) : PR1 prg 21 [vs s, vi .i64 n] (vs (repS s n)) := ⟨vs (repS s n), [], by
 show repA [vs s, vi .i64 n] [] = _
 simp only [repA]
 rw [if_pos h], rfl⟩
theorem known : PR1 prg 9 [] (vb true) := ⟨vb true, [], by unfold CS callS; rfl, rfl⟩
structure EditD where
 frm : Int
 til : Int
 text : ByteArray
def eI64 (n : Int) : List PV := [.val (.int .i64 n)]
def eU8 (n : Int) : List PV := [.val (.int .u8 n)]
def eEdit (e : EditD) : List PV := [.val (.int .i64 e.frm), .val (.int .i64 e.til), .val (.string e.text)]
abbrev i6 (n : Int) : AV := vi .i64 n
abbrev aE (e : EditD) : AV := .agg ((eEdit e).map .p)
theorem cs_cl {p : Prg} {fn : Nat} (hf : p.fn fn = none) {t : TypeId} {s bytes : Nat} (hpr : ∀ args h, p.prim fn args h = cloneA t s bytes args h) {α : Type} {e : α → List PV} {xs : List α} (ho : clOk xs.length bytes = true) (h : List AB) :
  CS p fn [.p (.lst s (xs.map e))] h = some (.sl (h.length + 1) (gnz xs) s 0 xs.length, h ++ [.row t s 0 (ra e []), .row t s (gnz xs) (ra e xs)]) := by
 have ho := of_decide_eq_true ho
 unfold CS callS
 rw [hf]
 simp only [hpr]
 cases xs with
 | nil => simp [cloneA, clE, gnz, ra]
 | cons x xs =>
  simp only [cloneA, List.map_cons]
  rw [if_pos ⟨trivial, by simpa using ho.1, by simpa using ho.2⟩]
  simp [clR, gnz, ra]
noncomputable def F21 (a1 : ByteArray) (a2 : Int) : Option ByteArray := bif rpOk a1 a2 then some (repS a1 a2) else none
def F21_v (a1 : ByteArray) (a2 : Int) (x0 : ByteArray) : AV := vs x0
theorem F21_ok (a1 : ByteArray) (a2 : Int) {r : ByteArray} (h : F21 a1 a2 = some r) : PR1 prg 21 [vs a1, vi .i64 a2] (F21_v a1 a2 r) := by
 unfold F21 at h
 cases hk : rpOk a1 a2 with
 | true => rw [hk] at h; cases h; exact repeats a1 a2 hk
 | false => rw [hk] at h; cases h
noncomputable def F9 : Option Bool := some true
def F9_v (x0 : Bool) : AV := vb x0
theorem F9_ok {r : Bool} (h : F9 = some r) : PR1 prg 9 [] (F9_v r) := by cases h; exact known
abbrev ls {α : Type} (n : Nat) (e : α → List PV) (x : List α) : AV := .p (.lst n (x.map e))
abbrev w6 (n : Int) : Int := IntKind.wrap .i64 n
abbrev yU (g : Nat) (x : List Int) : AB := .row 5 1 g (ra eU8 x)
abbrev yE (g : Nat) (x : List EditD) : AB := .row 34 3 g (ra eEdit x)
abbrev yE0 : AB := .row 34 3 0 (ra eEdit [])
theorem ar {m t s g : Nat} {α : Type} {e : α → List PV} {xs : List α} {l : List AB} (h : l.all (AB.blw m) = true) : (AB.row t s g (ra e xs) :: l).all (AB.blw m) = true := abl_cons abl_row h
theorem ac {m : Nat} {x : AB} {l : List AB} (hs : l.all (AB.blw m) = true) (h : x.blw m = true := by exact rfl) : (x :: l).all (AB.blw m) = true := abl_cons h hs
theorem av {b c : Bool} {qs : List Prop} (h : b = c) (hs : AllP qs) : AllP ((vb b = vb c) :: qs) := apc (cv h) hs
noncomputable def joP (a b : List Prop) : List Prop := List.rec (motive := fun _ => List Prop) b (fun x _ r => x :: r) a
noncomputable def joH (a b : List (Nat × Hint)) : List (Nat × Hint) := List.rec (motive := fun _ => List (Nat × Hint)) b (fun x _ r => x :: r) a
abbrev KP (_ : List (Nat × Hint)) (P : List Prop → List Prop) : Prop := ∀ l, AllP l → AllP (P l)
abbrev kH {H : List (Nat × Hint)} {P : List Prop → List Prop} (_ : KP H P) : List (Nat × Hint) := H
theorem joP_all {l : List Prop} (hl : AllP l) : ∀ {ps : List Prop}, AllP ps → AllP (joP ps l)
 | [], _ => hl
 | _ :: _, h => AllP_cons.2 ⟨(AllP_cons.1 h).1, joP_all hl (AllP_cons.1 h).2⟩
theorem ka (H : List (Nat × Hint)) {ps : List Prop} (hp : AllP ps) : KP H (joP ps) := fun _ hl => joP_all hl hp
theorem KP.a {H : List (Nat × Hint)} {P : List Prop → List Prop} {qs : List Prop} (k : KP H P) (H2 : List (Nat × Hint)) (hq : AllP qs) : KP (joH H2 H) (fun l => P (joP qs l)) := fun _ hl => k _ (joP_all hl hq)
theorem KP.b {H : List (Nat × Hint)} {P : List Prop → List Prop} {qs : List Prop} (k : KP H P) (hq : AllP qs) : AllP (P qs) := k _ hq
section
variable {p : Prg} {m id fn : Nat} {live : List Nat} {b : IC} {s s2 : St} {ps : List Prop} {N : Nat} {h h0 : List AB} {L : List (Nat × AV)} {args : List AV} {v : AV}
theorem rn (H : List (Nat × Hint)) (hp : AllP ps) (e : roundD p 30 H m live b s = some (ps, .norm, s2) := by kernel_rfl) : evH p m live b s = evH p m live b s2 := rnd H hp e
theorem xb (H : List (Nat × Hint)) (hp : AllP ps) (e : exitL L (roundD p 30 H m live b s) = some (ps, .brk id, L, N, h) := by kernel_rfl) : ∃ g, evH p m live b s = some (.brk id, ⟨fr N g L, h⟩) := xbrk H hp e
theorem xr (H : List (Nat × Hint)) (hp : AllP ps) (e : exitL L (roundD p 30 H m live b s) = some (ps, .ret, L, N, h) := by kernel_rfl) : ∃ g, evH p m live b s = some (.ret, ⟨fr N g L, h⟩) := xret H hp e
theorem xy (H : List (Nat × Hint)) (hp : AllP ps) (e : exitV L (roundD p 30 H m live b s) = some (ps, .ret, L, N) := by kernel_rfl) : ∃ g y, evH p m live b s = some (.ret, ⟨fr N g L, y⟩) := xretY H hp e
theorem fc (H : List (Nat × Hint)) (hp : AllP ps) (e : callDS p 30 H fn args h0 = some (ps, v, h) := by kernel_rfl) : CS p fn args h0 = some (v, h) := fcs H hp e
theorem fq (H : List (Nat × Hint)) (hp : AllP ps) (hv : v.pure = true := by exact rfl) (e : (callDS p 30 H fn args []).map (fun r => (r.1, r.2.1)) = some (ps, v) := by kernel_rfl) : PR1 p fn args v := fpr H hp hv e
end
end Go.Proofs.Tryd
