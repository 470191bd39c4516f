/- The law's closed part: it answers true; the program with this told. -/
import Derived.Test.YtpoclajcldnjeaaFT7
import Derived.Test.YtpoclajcldnjeaaVE
namespace Go.Proofs.Try
set_option linter.unusedSimpArgs false
set_option linter.unusedVariables false
open Go Go.Vs
theorem known0 : callP prgN (evalN prgN 100) 10 [] [] = some (vb true) := by kernel_rfl
def primK (n : Nat) (args : List AV) (h : List AB) : Option (AV × List AB) := match n.beq 56 with
 | true => cloneA 68 6 48 args h
 | false => match n.beq 10 && args.isEmpty with
  | true => some (vb true, h)
  | false => none
def prg : Prg := ⟨fun n => match n.beq 56 || n.beq 10 with | true => none | false => fns n, fun _ => none, primK, frs⟩
theorem prg_ok : PrgOk prog prg := by
 refine ⟨fun f F h => ?_, fun f args h v h' hc => ?_⟩
 ·have h : (match f.beq 56 || f.beq 10 with | true => none | false => fns f) = some F := h
  split at h
  ·cases h
  ·exact fns_ok f F h
 ·have hc : primK f args h = some (v, h') := hc
  unfold primK at hc
  split at hc
  ·rename_i e
   obtain rfl := Nat.eq_of_beq_eq_true e
   exact clone_ok hc _ rfl
  ·split at hc
   ·rename_i e
    have e1 : f = 10 := Nat.eq_of_beq_eq_true (by cases h1 : f.beq 10 with | true => rfl | false => rw [h1] at e; cases e)
    subst e1
    have e2 : args = [] := by cases args with | nil => rfl | cons _ _ => cases e
    subst e2
    cases hc
    refine CP_sound (p := prgN) prgN_ok ?_
    have k := CP_of 100 known0
    rw [CP_in _ _ rfl] at k ⊢
    exact k
   ·cases hc
theorem known : PR1 prg 10 [] (vb true) := ⟨vb true, [], by unfold CS callS; rfl, rfl⟩
structure SymD where
 kind : Int
 a : Int
 b : Int
 c : Int
 d : Int
 sort : Int
structure ProdD where
 left : Int
 right : List SymD
 cons : ByteArray
 role : Int
 prefer : Bool
 avoid : Bool
 frm : Int
structure ForbD where
 parent : Int
 at_ : Int
 child : Int
structure FollD where
 sort : Int
 a : Int
 b : Int
 c : Int
 d : Int
structure GramD where
 sorts : List ByteArray
 prods : List ProdD
 start : Int
 forbid : List ForbD
 follow : List FollD
def eI64 (n : Int) : List PV := [.val (.int .i64 n)]
def eBool (b : Bool) : List PV := [.val (.bool b)]
def eStr (s : ByteArray) : List PV := [.val (.string s)]
def eSym (s : SymD) : List PV := [.val (.int .i64 s.kind), .val (.int .u64 s.a), .val (.int .u64 s.b), .val (.int .u64 s.c), .val (.int .u64 s.d), .val (.int .i64 s.sort)]
def eProd (p : ProdD) : List PV := [.val (.int .i64 p.left), .lst 6 (p.right.map eSym), .val (.string p.cons), .val (.int .i64 p.role), .val (.bool p.prefer), .val (.bool p.avoid), .val (.int .i64 p.frm)]
def eForb (f : ForbD) : List PV := [.val (.int .i64 f.parent), .val (.int .i64 f.at_), .val (.int .i64 f.child)]
def eFoll (f : FollD) : List PV := [.val (.int .i64 f.sort), .val (.int .u64 f.a), .val (.int .u64 f.b), .val (.int .u64 f.c), .val (.int .u64 f.d)]
def eGram (g : GramD) : List PV := [.lst 1 (g.sorts.map eStr), .lst 7 (g.prods.map eProd), .val (.int .i64 g.start), .lst 3 (g.forbid.map eForb), .lst 5 (g.follow.map eFoll)]
inductive TreeD where
 | mk (prod byte : Int) (kids : List TreeD)
def TreeD.prod : TreeD → Int | .mk p _ _ => p
def TreeD.byte : TreeD → Int | .mk _ b _ => b
def TreeD.kids : TreeD → List TreeD | .mk _ _ ks => ks
mutual
def eTree : TreeD → List PV
 | .mk p b ks => [.val (.int .i64 p), .val (.int .u8 b), .lst 3 (eTrees ks)]
def eTrees : List TreeD → List (List PV)
 | [] => []
 | t :: ts => eTree t :: eTrees ts
end
def cT (t : TreeD) : List PV := [.val (.int .i64 t.prod), .val (.int .u8 t.byte), .lst 3 (eTrees t.kids)]
theorem eTree_c : ∀ t, eTree t = cT t
 | .mk _ _ _ => rfl
theorem tr_map : ∀ ts, eTrees ts = ts.map cT
 | [] => rfl
 | t :: ts => by simp only [eTrees, List.map_cons, tr_map ts, eTree_c]
structure AtD where
 prod : Int
 byte : Int
 kids : List TreeD
 n : Int
def eAt (a : AtD) : List PV := [.val (.int .i64 a.prod), .val (.int .u8 a.byte), .lst 3 (eTrees a.kids), .val (.int .i64 a.n)]
def bG (g : GramD) : AB := .cells 27 ((eGram g).map .p)
def bP (p : ProdD) : AB := .cells 46 ((eProd p).map .p)
def aG (g : GramD) : AV := .agg ((eGram g).map .p)
def aP (p : ProdD) : AV := .agg ((eProd p).map .p)
def w6 (n : Int) : Int := IntKind.wrap .i64 n
def b0 : ByteArray := (⟨([] : List UInt8).toArray⟩ : ByteArray)
abbrev i6 (n : Int) : AV := vi .i64 n
noncomputable def F10 : Option Bool := some true
def F10_v (x0 : Bool) : AV := vb x0
theorem F10_ok {r : Bool} (h : F10 = some r) : PR1 prg 10 [] (F10_v r) := by cases h; exact known
abbrev yS (g : Nat) (x : List ByteArray) : AB := .row 9 1 g (ra eStr x)
abbrev yP (g : Nat) (x : List ProdD) : AB := .row 46 7 g (ra eProd x)
abbrev yF (g : Nat) (x : List ForbD) : AB := .row 78 3 g (ra eForb x)
abbrev yW (g : Nat) (x : List FollD) : AB := .row 80 5 g (ra eFoll x)
abbrev yY (g : Nat) (x : List SymD) : AB := .row 68 6 g (ra eSym x)
abbrev yI (g : Nat) (x : List Int) : AB := .row 3 1 g (ra eI64 x)
abbrev yB (g : Nat) (x : List Bool) : AB := .row 4 1 g (ra eBool x)
abbrev yT (g : Nat) (x : List TreeD) : AB := .row 51 3 g (ra cT x)
abbrev yS0 : AB := .row 9 1 0 (ra eStr [])
abbrev yP0 : AB := .row 46 7 0 (ra eProd [])
abbrev yF0 : AB := .row 78 3 0 (ra eForb [])
abbrev yW0 : AB := .row 80 5 0 (ra eFoll [])
abbrev yY0 : AB := .row 68 6 0 (ra eSym [])
abbrev yI0 : AB := .row 3 1 0 (ra eI64 [])
abbrev yB0 : AB := .row 4 1 0 (ra eBool [])
abbrev yT0 : AB := .row 51 3 0 (ra cT [])
abbrev ls {α : Type} (n : Nat) (e : α → List PV) (x : List α) : AV := .p (.lst n (x.map e))
abbrev n0 : AV := .p (.val (.slice .none 0 0))
abbrev cG (a b c d e f : Nat) (x : Int) (g h i j k l : Nat) : AB := .cells 27 [.sl a b 1 0 c, .sl d e 7 0 f, i6 x, .sl g h 3 0 i, .sl j k 5 0 l]
abbrev cH (a : List ByteArray) (b : List ProdD) (x : Int) (c : List ForbD) (d : List FollD) : AB := .cells 27 [ls 1 eStr a, ls 7 eProd b, i6 x, ls 3 eForb c, ls 5 eFoll d]
abbrev aH (a : List ByteArray) (b : List ProdD) (x : Int) (c : List ForbD) (d : List FollD) : AV := .agg [ls 1 eStr a, ls 7 eProd b, i6 x, ls 3 eForb c, ls 5 eFoll d]
abbrev tS (g : GramD) : Nat := Int.toNat (g.sorts.length : Int)
abbrev tP (g : GramD) : Nat := Int.toNat (g.prods.length : Int)
abbrev lS (g : GramD) : Int := (g.sorts.length : Int)
abbrev lP (g : GramD) : Int := (g.prods.length : Int)
abbrev lF (g : GramD) : Int := (g.forbid.length : Int)
abbrev lW (g : GramD) : Int := (g.follow.length : Int)
theorem ar {m t s g : Nat} {α : Type} {e : α → List PV} {xs : List α} {l : List AB} (h : l.all (AB.blw m) = true) : (AB.row t s g (ra e xs) :: l).all (AB.blw m) = true := abl_cons abl_row h
theorem ac {m : Nat} {x : AB} {l : List AB} (hs : l.all (AB.blw m) = true) (h : x.blw m = true := by exact rfl) : (x :: l).all (AB.blw m) = true := abl_cons h hs
theorem oK {m : Nat} {h : List AB} (h2 : (h.take m).all (AB.blw m) = true) (h1 : m.ble h.length = true := by exact rfl) : okT m h = true := okT_of h1 h2
theorem av {b c : Bool} {qs : List Prop} (h : b = c) (hs : AllP qs) : AllP ((vb b = vb c) :: qs) := apc (cv h) hs
end Go.Proofs.Try
