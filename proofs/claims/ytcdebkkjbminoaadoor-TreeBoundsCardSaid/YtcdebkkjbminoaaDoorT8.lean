/- Seat 14: strconv.Itoa, strconv.ParseInt are the library's: their numbers here. -/
import Derived.Test.YtcdebkkjbminoaaDoorIr8
import Derived.Shelf.Strconv.Itoa3
import Derived.Shelf.Strconv.ParseIntPublic10
import Derived.Test.YtcdebkkjbminoaaDoorVF
import Derived.Test.YtcdebkkjbminoaaDoorVE
namespace Go.Proofs.Tryd
set_option linter.unusedSimpArgs false
set_option linter.unusedVariables false
set_option maxRecDepth 100000
open Go Go.Vs Go.Shelf Go.RowKit
def rhoIF (x : Nat) : Nat := match x with | 171 => 42 | 243 => 65 | 246 => 81 | 283 => 90 | 284 => 91 | 285 => 92 | 286 => 93 | 129 => 97 | 317 => 96 | 318 => 98 | 319 => 99 | 320 => 100 | 337 => 101 | 338 => 102 | n => n
def rhoIT (x : Nat) : Nat := match x with | 3 => 3 | 9 => 9 | 2 => 2 | 4 => 4 | 171 => 124 | 0 => 0 | 53 => 111 | 37 => 59 | 5 => 5 | 173 => 127 | 212 => 138 | 51 => 131 | 20 => 20 | 213 => 139 | 46 => 73 | 232 => 143 | 233 => 144 | n => n
def rhoIG (x : Nat) : Nat := match x with | 17 => 3 | 18 => 4 | 19 => 5 | n => n
def rhoI : Ren := ⟨rhoIF, rhoIT, rhoIG⟩
theorem laysI : LaysM.n171 prog rhoI := { mixed := Eq.refl true, f129 := func97, f171 := func42, f243 := func65, f246 := func81, f283 := func90, f284 := func91, f285 := func92, f286 := func93, f317 := func96, f318 := func98, f319 := func99, f320 := func100, f337 := func101, f338 := func102, t0 := underlying0, a0 := isAgg0, z0 := sizeOf0, v0 := zeroValue0, t2 := underlying2, a2 := isAgg2, z2 := sizeOf2, v2 := zeroValue2, t3 := underlying3, a3 := isAgg3, z3 := sizeOf3, v3 := zeroValue3, t4 := underlying4, a4 := isAgg4, z4 := sizeOf4, v4 := zeroValue4, t5 := underlying5, a5 := isAgg5, z5 := sizeOf5, v5 := zeroValue5, t9 := underlying9, a9 := isAgg9, z9 := sizeOf9, v9 := zeroValue9, t20 := underlying20, a20 := isAgg20, z20 := sizeOf20, v20 := zeroValue20, t37 := underlying59, a37 := isAgg59, z37 := sizeOf59, v37 := zeroValue59, t46 := underlying73, a46 := isAgg73, z46 := sizeOf73, v46 := zeroValue73, t51 := underlying131, a51 := isAgg131, z51 := sizeOf131, v51 := zeroValue131, t53 := underlying111, a53 := isAgg111, z53 := sizeOf111, v53 := zeroValue111, t171 := underlying124, a171 := isAgg124, z171 := sizeOf124, v171 := zeroValue124, t173 := underlying127, a173 := isAgg127, z173 := sizeOf127, v173 := zeroValue127, t212 := underlying138, a212 := isAgg138, z212 := sizeOf138, v212 := zeroValue138, t213 := underlying139, a213 := isAgg139, z213 := sizeOf139, t232 := underlying143, a232 := isAgg143, z232 := sizeOf143, v232 := zeroValue143, t233 := underlying144, a233 := isAgg144, z233 := sizeOf144, v233 := zeroValue144, g17 := by kernel_rfl, g18 := by kernel_rfl, g19 := by kernel_rfl, i0 := by kernel_rfl, i2 := by kernel_rfl, i3 := by kernel_rfl, i4 := by kernel_rfl, i5 := by kernel_rfl, i9 := by kernel_rfl, i20 := by kernel_rfl, i37 := by kernel_rfl, i46 := by kernel_rfl, i51 := by kernel_rfl, i53 := by kernel_rfl, i171 := by kernel_rfl, i173 := by kernel_rfl, i212 := by kernel_rfl, i232 := by kernel_rfl, i233 := by kernel_rfl, m17 := Eq.refl (some (rhoI.g 17)), m18 := Eq.refl (some (rhoI.g 18)), m19 := Eq.refl (some (rhoI.g 19)) }
def rhoPF (x : Nat) : Nat := match x with | 174 => 41 | 247 => 63 | 245 => 64 | 287 => 76 | 279 => 77 | 280 => 78 | 281 => 79 | 282 => 80 | 321 => 86 | 322 => 87 | 316 => 88 | 171 => 42 | 205 => 89 | 243 => 65 | 246 => 81 | 283 => 90 | 284 => 91 | 285 => 92 | 286 => 93 | 129 => 97 | 317 => 96 | 318 => 98 | 319 => 99 | 320 => 100 | 337 => 101 | 338 => 102 | n => n
def rhoPT (x : Nat) : Nat := match x with | 9 => 9 | 3 => 3 | 2 => 2 | 75 => 77 | 85 => 78 | 4 => 4 | 167 => 110 | 5 => 5 | 53 => 111 | 175 => 112 | 46 => 73 | 168 => 114 | 37 => 59 | 0 => 0 | 210 => 122 | 21 => 21 | 127 => 104 | 145 => 136 | 143 => 134 | 171 => 124 | 173 => 127 | 212 => 138 | 51 => 131 | 20 => 20 | 213 => 139 | 232 => 143 | 233 => 144 | 80 => 90 | n => n
def rhoPG (x : Nat) : Nat := match x with | 15 => 1 | 16 => 2 | 17 => 3 | 18 => 4 | 19 => 5 | n => n
def rhoP : Ren := ⟨rhoPF, rhoPT, rhoPG⟩
theorem laysP : LaysC.n174 prog rhoP := { mixed := Eq.refl true, f129 := func97, f171 := func42, f174 := func41, f205 := func89, f243 := func65, f245 := func64, f246 := func81, f247 := func63, f279 := func77, f280 := func78, f281 := func79, f282 := func80, f283 := func90, f284 := func91, f285 := func92, f286 := func93, f287 := func76, f316 := func88, f317 := func96, f318 := func98, f319 := func99, f320 := func100, f321 := func86, f322 := func87, f337 := func101, f338 := func102, t0 := underlying0, a0 := isAgg0, z0 := sizeOf0, v0 := zeroValue0, t2 := underlying2, a2 := isAgg2, z2 := sizeOf2, v2 := zeroValue2, t3 := underlying3, a3 := isAgg3, z3 := sizeOf3, v3 := zeroValue3, t4 := underlying4, a4 := isAgg4, z4 := sizeOf4, v4 := zeroValue4, t5 := underlying5, a5 := isAgg5, z5 := sizeOf5, v5 := zeroValue5, t9 := underlying9, a9 := isAgg9, z9 := sizeOf9, v9 := zeroValue9, t20 := underlying20, a20 := isAgg20, z20 := sizeOf20, v20 := zeroValue20, t21 := underlying21, a21 := isAgg21, z21 := sizeOf21, v21 := zeroValue21, t37 := underlying59, a37 := isAgg59, z37 := sizeOf59, v37 := zeroValue59, t46 := underlying73, a46 := isAgg73, z46 := sizeOf73, v46 := zeroValue73, t51 := underlying131, a51 := isAgg131, z51 := sizeOf131, v51 := zeroValue131, t53 := underlying111, a53 := isAgg111, z53 := sizeOf111, v53 := zeroValue111, t75 := underlying77, a75 := isAgg77, z75 := sizeOf77, v75 := zeroValue77, t85 := underlying78, a85 := isAgg78, z85 := sizeOf78, v85 := zeroValue78, t127 := underlying104, a127 := isAgg104, z127 := sizeOf104, v127 := zeroValue104, t143 := underlying134, a143 := isAgg134, z143 := sizeOf134, v143 := zeroValue134, t145 := underlying136, a145 := isAgg136, z145 := sizeOf136, v145 := zeroValue136, t167 := underlying110, a167 := isAgg110, z167 := sizeOf110, v167 := zeroValue110, t168 := underlying114, a168 := isAgg114, z168 := sizeOf114, v168 := zeroValue114, t171 := underlying124, a171 := isAgg124, z171 := sizeOf124, v171 := zeroValue124, t173 := underlying127, a173 := isAgg127, z173 := sizeOf127, v173 := zeroValue127, t175 := underlying112, a175 := isAgg112, z175 := sizeOf112, v175 := zeroValue112, t210 := underlying122, a210 := isAgg122, z210 := sizeOf122, v210 := zeroValue122, t212 := underlying138, a212 := isAgg138, z212 := sizeOf138, v212 := zeroValue138, t213 := underlying139, a213 := isAgg139, z213 := sizeOf139, t232 := underlying143, a232 := isAgg143, z232 := sizeOf143, v232 := zeroValue143, t233 := underlying144, a233 := isAgg144, z233 := sizeOf144, v233 := zeroValue144, g15 := by kernel_rfl, g16 := by kernel_rfl, g17 := by kernel_rfl, g18 := by kernel_rfl, g19 := by kernel_rfl, t80 := underlying90, a80 := isAgg90, z80 := sizeOf90, v80 := zeroValue90, i0 := by kernel_rfl, i2 := by kernel_rfl, i3 := by kernel_rfl, i4 := by kernel_rfl, i5 := by kernel_rfl, i9 := by kernel_rfl, i20 := by kernel_rfl, i21 := by kernel_rfl, i37 := by kernel_rfl, i46 := by kernel_rfl, i51 := by kernel_rfl, i53 := by kernel_rfl, i75 := by kernel_rfl, i80 := by kernel_rfl, i85 := by kernel_rfl, i127 := by kernel_rfl, i143 := by kernel_rfl, i145 := by kernel_rfl, i167 := by kernel_rfl, i168 := by kernel_rfl, i171 := by kernel_rfl, i173 := by kernel_rfl, i175 := by kernel_rfl, i210 := by kernel_rfl, i212 := by kernel_rfl, i232 := by kernel_rfl, i233 := by kernel_rfl, m15 := Eq.refl (some (rhoP.g 15)), m16 := Eq.refl (some (rhoP.g 16)), m17 := Eq.refl (some (rhoP.g 17)), m18 := Eq.refl (some (rhoP.g 18)), m19 := Eq.refl (some (rhoP.g 19)), c0 := Eq.refl (some false), c2 := Eq.refl (some true), c3 := Eq.refl (some true), c4 := Eq.refl (some true), c5 := Eq.refl (some true), c9 := Eq.refl (some true), c20 := Eq.refl (some true), c21 := Eq.refl (some true), c37 := Eq.refl (some false), c46 := Eq.refl (some true), c51 := Eq.refl (some true), c53 := Eq.refl (some true), c75 := Eq.refl (some true), c80 := Eq.refl (some false), c85 := Eq.refl (some false), c127 := Eq.refl (some true), c143 := Eq.refl (some true), c145 := Eq.refl (some true), c167 := Eq.refl (some true), c168 := Eq.refl (some true), c171 := Eq.refl (some true), c173 := Eq.refl (some false), c175 := Eq.refl (some false), c210 := Eq.refl (some true), c212 := Eq.refl (some true), c213 := Eq.refl (some true), c232 := Eq.refl (some true), c233 := Eq.refl (some true) }
open Go Go.Vs Go.Shelf
abbrev Er := Option ((TypeId × Value) × (TypeId × Value))
def gl14 (E : Er) (n : Nat) : Option (List PV) := match n.beq 3, n.beq 1, n.beq 2, E with
 | true, _, _, _ => some (Lib.pow10Tab.map fun z => .val (.int .u64 z))
 | false, true, _, some e => some [.val (.iface e.1.1 e.1.2)]
 | false, false, true, some e => some [.val (.iface e.2.1 e.2.2)]
 | _, _, _, _ => none
def frs (n : Nat) : Bool := n.beq 72 || n.beq 48 || n.beq 52 || n.beq 30
def fnsR (n : Nat) : Option IFun := match n.beq 41 || n.beq 42 || n.beq 53 with | true => none | false => fns n
def primR (E : Er) (n : Nat) (args : List AV) (h : List AB) : Option (AV × List AB) := match n.beq 42, n.beq 41 with
 | true, _ => itoaA args h
 | false, true => parseA E.isSome args h
 | false, false => none
def prgR (E : Er) : Prg := ⟨fnsR, gl14 E, primR E, frs⟩
theorem fnsR_ok : ∀ f F, fnsR f = some F → ∃ shf fd ann, prog.funcs[f]? = some fd ∧ compFn prog shf ann fd = some F := fun f F h => by
 unfold fnsR at h
 split at h
 ·cases h
 ·exact fns_ok f F h
theorem nd_prog : nd prog = true := by kernel_rfl
theorem g_pow : prog.globalNamed "internal/strconv.uint64pow10" = some 3 := by kernel_rfl
theorem ex42 : ∃ fd : Func, prog.funcs[(42 : Nat)]? = some fd ∧ fd.body.isNone = false ∧ (fd.name == "runtime.NumGoroutine") = false := ⟨f42, func42, by kernel_rfl, by kernel_rfl⟩
theorem ex41 : ∃ fd : Func, prog.funcs[(41 : Nat)]? = some fd ∧ fd.body.isNone = false ∧ (fd.name == "runtime.NumGoroutine") = false := ⟨f41, func41, by kernel_rfl, by kernel_rfl⟩
theorem primR_ok (E : Er) {f : Nat} {args : List AV} {h : List AB} {v : AV} {h' : List AB} (hc : primR E f args h = some (v, h')) : CallR prog (Go.Vs.Good prog) (gl14 E) f args h v h' := by
 unfold primR at hc
 split at hc
 ·rename_i e
  obtain rfl := Nat.eq_of_beq_eq_true e
  exact itoa_sound laysI ex42 g_pow rfl hc
 ·rename_i e1 e
  obtain rfl := Nat.eq_of_beq_eq_true e
  refine parse_sound laysP ex41 nd_prog (fun hE => ?_) hc
  cases E with
  | none => cases hE
  | some e => exact ⟨e.1.1, e.1.2, e.2.1, e.2.2, rfl, rfl⟩
 ·cases hc
theorem prgR_ok (E : Er) : PrgOk prog (prgR E) := ⟨fnsR_ok, fun f args h v h' hc => primR_ok E hc⟩
open Go Go.Vs
inductive TreeD where
 | mk (prod byte : Int) (kids : List TreeD)
def TreeD.prod : TreeD → Int | .mk p _ _ => p
def TreeD.byte : TreeD → Int | .mk _ b _ => b
def TreeD.kids : TreeD → List TreeD | .mk _ _ ks => ks
mutual
def eTree : TreeD → List PV
 | .mk p b ks => [.val (.int .i64 p), .val (.int .u8 b), .lst 3 (eTrees ks)]
def eTrees : List TreeD → List (List PV)
 | [] => []
 | t :: ts => eTree t :: eTrees ts
end
def cT (t : TreeD) : List PV := [.val (.int .i64 t.prod), .val (.int .u8 t.byte), .lst 3 (eTrees t.kids)]
theorem eTree_c : ∀ t, eTree t = cT t
 | .mk _ _ _ => rfl
theorem tr_map : ∀ ts, eTrees ts = ts.map cT
 | [] => rfl
 | t :: ts => by simp only [eTrees, List.map_cons, tr_map ts, eTree_c]
def eI64 (n : Int) : List PV := [.val (.int .i64 n)]
def eU8 (n : Int) : List PV := [.val (.int .u8 n)]
structure En where
 prod : Int
 byte : Int
 ad : Option Addr
 ln : Nat
 cp : Nat
def eEn (e : En) : List PV := [.val (.int .i64 e.prod), .val (.int .u8 e.byte), .val (.slice e.ad e.ln e.cp)]
def enOf (p b : Int) (k : PV) : En := match k with
 | .val (.slice a l c) => ⟨p, b, a, l, c⟩
 | _ => ⟨p, b, none, 0, 0⟩
noncomputable def F42 (n : Int) : Option ByteArray := bif decide (-9223372036854775808 ≤ n ∧ n ≤ 9223372036854775807) then some (itoaB n) else none
def F42_v (r : ByteArray) : AV := vs r
inductive R_F41 where
 | k0 (x0 : Int)
 | k1 (x0 : Int)
noncomputable def F41 (E : Er) (s : ByteArray) : Option R_F41 := bif decide (s.size ≤ 281474976710656) then
  match Lib.parseIntB 32 s.data.toList, E.isSome with
  | .ok n, _ => some (.k0 n)
  | Lib.NumEnd.syntax, true => some (.k1 0)
  | .range, true => some (.k1 (Lib.intSat 32 s.data.toList))
  | _, false => none
 else none
def F41_v (r : R_F41) : AV := match r with | .k0 n => .tup [vi .i64 n, .p (.val .nilIface)] | .k1 n => .tup [vi .i64 n, .anye]
theorem F42_ok {E : Er} (n : Int) {r : ByteArray} (h : F42 n = some r) : PR1 (prgR E) 42 [vi .i64 n] (F42_v r) := by
 unfold F42 at h
 cases hk : decide (-9223372036854775808 ≤ n ∧ n ≤ 9223372036854775807) with
 | false => rw [hk] at h; cases h
 | true =>
  rw [hk] at h
  simp only [cond_true, Option.some.injEq] at h
  subst h
  refine ⟨vs (itoaB n), [], ?_, rfl⟩
  show callS (prgR E) _ 42 _ [] = _
  show itoaA [vi .i64 n] [] = _
  simp only [itoaA, hk]
theorem F41_ok {E : Er} (s : ByteArray) {r : R_F41} (h : F41 E s = some r) : PR1 (prgR E) 41 [vs s, vi .i64 10, vi .i64 32] (F41_v r) := by
 unfold F41 at h
 have hc : ∀ v, purA [] v = some v → parseA E.isSome [vs s, vi .i64 10, vi .i64 32] [] = some (v, []) → PR1 (prgR E) 41 [vs s, vi .i64 10, vi .i64 32] v := fun v hq hv => ⟨v, [], (show callS (prgR E) _ 41 _ [] = _ from hv), hq⟩
 cases hk : decide (s.size ≤ 281474976710656) with
 | false => rw [hk] at h; cases h
 | true =>
  rw [hk] at h
  simp only [cond_true] at h
  refine hc _ (by cases r <;> rfl) ?_
  simp only [parseA, hk]
  cases hp : Lib.parseIntB 32 s.data.toList with
  | ok n =>
   rw [hp] at h
   simp only [Option.some.injEq] at h
   subst h
   cases E.isSome <;> rfl
  | range =>
   rw [hp] at h
   cases hE : E.isSome with
   | false => rw [hE] at h; cases h
   | true =>
    rw [hE] at h
    simp only [Option.some.injEq] at h
    subst h
    rfl
  | _ =>
   rw [hp] at h
   cases hE : E.isSome with
   | false => rw [hE] at h; cases h
   | true =>
    rw [hE] at h
    simp only [Option.some.injEq] at h
    subst h
    rfl
abbrev yU (g : Nat) (x : List Int) : AB := .row 5 1 g (ra eU8 x)
abbrev yU0 : AB := .row 5 1 0 (ra eU8 [])
abbrev yT0 : AB := .row 25 3 0 (ra cT [])
abbrev b0 : ByteArray := ⟨([] : List UInt8).toArray⟩
abbrev w6 (n : Int) : Int := IntKind.wrap .i64 n
abbrev i6 (n : Int) : AV := vi .i64 n
abbrev ls {α : Type} (n : Nat) (e : α → List PV) (x : List α) : AV := .p (.lst n (x.map e))
abbrev n0 : AV := .p (.val (.slice .none 0 0))
theorem ar {m t s g : Nat} {α : Type} {e : α → List PV} {xs : List α} {l : List AB} (h : l.all (AB.blw m) = true) : (AB.row t s g (ra e xs) :: l).all (AB.blw m) = true := abl_cons abl_row h
theorem ac {m : Nat} {x : AB} {l : List AB} (hs : l.all (AB.blw m) = true) (h : x.blw m = true := by exact rfl) : (x :: l).all (AB.blw m) = true := abl_cons h hs
theorem av {b c : Bool} {qs : List Prop} (h : b = c) (hs : AllP qs) : AllP ((vb b = vb c) :: qs) := apc (cv h) hs
noncomputable def joP (a b : List Prop) : List Prop := List.rec (motive := fun _ => List Prop) b (fun x _ r => x :: r) a
noncomputable def joH (a b : List (Nat × Hint)) : List (Nat × Hint) := List.rec (motive := fun _ => List (Nat × Hint)) b (fun x _ r => x :: r) a
abbrev KP (_ : List (Nat × Hint)) (P : List Prop → List Prop) : Prop := ∀ l, AllP l → AllP (P l)
abbrev kH {H : List (Nat × Hint)} {P : List Prop → List Prop} (_ : KP H P) : List (Nat × Hint) := H
theorem joP_all {l : List Prop} (hl : AllP l) : ∀ {ps : List Prop}, AllP ps → AllP (joP ps l)
 | [], _ => hl
 | _ :: _, h => AllP_cons.2 ⟨(AllP_cons.1 h).1, joP_all hl (AllP_cons.1 h).2⟩
theorem ka (H : List (Nat × Hint)) {ps : List Prop} (hp : AllP ps) : KP H (joP ps) := fun _ hl => joP_all hl hp
theorem KP.a {H : List (Nat × Hint)} {P : List Prop → List Prop} {qs : List Prop} (k : KP H P) (H2 : List (Nat × Hint)) (hq : AllP qs) : KP (joH H2 H) (fun l => P (joP qs l)) := fun _ hl => k _ (joP_all hl hq)
theorem KP.b {H : List (Nat × Hint)} {P : List Prop → List Prop} {qs : List Prop} (k : KP H P) (hq : AllP qs) : AllP (P qs) := k _ hq
section
variable {p : Prg} {m id fn : Nat} {live : List Nat} {b : IC} {s s2 : St} {ps : List Prop} {N : Nat} {h h0 : List AB} {L : List (Nat × AV)} {args : List AV} {v : AV}
theorem rn (H : List (Nat × Hint)) (hp : AllP ps) (e : roundD p 30 H m live b s = some (ps, .norm, s2) := by kernel_rfl) : evH p m live b s = evH p m live b s2 := rnd H hp e
theorem xb (H : List (Nat × Hint)) (hp : AllP ps) (e : exitL L (roundD p 30 H m live b s) = some (ps, .brk id, L, N, h) := by kernel_rfl) : ∃ g, evH p m live b s = some (.brk id, ⟨fr N g L, h⟩) := xbrk H hp e
theorem xr (H : List (Nat × Hint)) (hp : AllP ps) (e : exitL L (roundD p 30 H m live b s) = some (ps, .ret, L, N, h) := by kernel_rfl) : ∃ g, evH p m live b s = some (.ret, ⟨fr N g L, h⟩) := xret H hp e
theorem xy (H : List (Nat × Hint)) (hp : AllP ps) (e : exitV L (roundD p 30 H m live b s) = some (ps, .ret, L, N) := by kernel_rfl) : ∃ g y, evH p m live b s = some (.ret, ⟨fr N g L, y⟩) := xretY H hp e
theorem fc (H : List (Nat × Hint)) (hp : AllP ps) (e : callDS p 30 H fn args h0 = some (ps, v, h) := by kernel_rfl) : CS p fn args h0 = some (v, h) := fcs H hp e
theorem fq (H : List (Nat × Hint)) (hp : AllP ps) (hv : v.pure = true := by exact rfl) (e : (callDS p 30 H fn args []).map (fun r => (r.1, r.2.1)) = some (ps, v) := by kernel_rfl) : PR1 p fn args v := fpr H hp hv e
end
theorem cs_cl {p : Prg} {fn : Nat} (hf : p.fn fn = none) {t : TypeId} {s bytes : Nat} (hpr : ∀ args h, p.prim fn args h = cloneA t s bytes args h) {α : Type} {e : α → List PV} {xs : List α} (ho : clOk xs.length bytes = true) (h : List AB) :
  CS p fn [.p (.lst s (xs.map e))] h = some (.sl (h.length + 1) (gnz xs) s 0 xs.length, h ++ [.row t s 0 (ra e []), .row t s (gnz xs) (ra e xs)]) := by
 have ho := of_decide_eq_true ho
 unfold CS callS
 rw [hf]
 simp only [hpr]
 cases xs with
 | nil => simp [cloneA, clE, gnz, ra]
 | cons x xs =>
  simp only [cloneA, List.map_cons]
  rw [if_pos ⟨trivial, by simpa using ho.1, by simpa using ho.2⟩]
  simp [clR, gnz, ra]
theorem cs_clr {α : Type} {e : α → List PV} {lf : List α → List (List PV)} (hl : ∀ xs, lf xs = xs.map e) {p : Prg} {fn : Nat} {xs : List α} (hf : p.fn fn = none) {t : TypeId} {s bytes : Nat} (hpr : ∀ args h, p.prim fn args h = cloneA t s bytes args h) (ho : clOk xs.length bytes = true) (h : List AB) :
  CS p fn [.p (.lst s (lf xs))] h = some (.sl (h.length + 1) (gnz xs) s 0 xs.length, h ++ [.row t s 0 (ra e []), .row t s (gnz xs) (ra e xs)]) := by
 rw [hl]
 exact cs_cl hf hpr ho h
end Go.Proofs.Tryd
