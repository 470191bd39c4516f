/- Short words for blocks, values and steps. -/
import Derived.Test.YtbichljebmhmnaaDoorW7
import Derived.Test.YtbichljebmhmnaaDoorVE
namespace Go.Proofs.Tryd
set_option linter.unusedSimpArgs false
set_option linter.unusedVariables false
open Go Go.Vs
def kS (s : SetD) : AV := .agg [vi .u64 s.a, vi .u64 s.b, vi .u64 s.c, vi .u64 s.d]
def vI (n : Int) : AV := vi .i64 n
theorem key_set : KeyOk (K := SetD) kS true [1, 1, 1, 1] := by
 refine ⟨fun a => rfl, fun a b => ?_⟩
 obtain ⟨a1, a2, a3, a4⟩ := a
 obtain ⟨b1, b2, b3, b4⟩ := b
 simp only [kS, eqK, isAggA, and_self, if_true, cellsOf, AV.one, isOne, List.all_cons, List.all_nil, Bool.and_self, Option.bind_some, eqC, eqV, Bool.and_true]
 congr 1
 by_cases h1 : a1 = b1 <;> by_cases h2 : a2 = b2 <;> by_cases h3 : a3 = b3 <;> by_cases h4 : a4 = b4 <;> simp [h1, h2, h3, h4]
abbrev ls {α : Type} (n : Nat) (e : α → List PV) (x : List α) : AV := .p (.lst n (x.map e))
abbrev w6 (n : Int) : Int := IntKind.wrap .i64 n
abbrev n0 : AV := .p (.val (.slice .none 0 0))
abbrev yV (g : Nat) (x : List SetD) : AB := .row 29 4 g (ra eSet x)
abbrev yV0 : AB := .row 29 4 0 (ra eSet [])
theorem ar {m t s g : Nat} {α : Type} {e : α → List PV} {xs : List α} {l : List AB} (h : l.all (AB.blw m) = true) : (AB.row t s g (ra e xs) :: l).all (AB.blw m) = true := abl_cons abl_row h
theorem ac {m : Nat} {x : AB} {l : List AB} (hs : l.all (AB.blw m) = true) (h : x.blw m = true := by exact rfl) : (x :: l).all (AB.blw m) = true := abl_cons h hs
theorem av {b c : Bool} {qs : List Prop} (h : b = c) (hs : AllP qs) : AllP ((vb b = vb c) :: qs) := apc (cv h) hs
noncomputable def joP (a b : List Prop) : List Prop := List.rec (motive := fun _ => List Prop) b (fun x _ r => x :: r) a
noncomputable def joH (a b : List (Nat × Hint)) : List (Nat × Hint) := List.rec (motive := fun _ => List (Nat × Hint)) b (fun x _ r => x :: r) a
abbrev KP (_ : List (Nat × Hint)) (P : List Prop → List Prop) : Prop := ∀ l, AllP l → AllP (P l)
abbrev kH {H : List (Nat × Hint)} {P : List Prop → List Prop} (_ : KP H P) : List (Nat × Hint) := H
theorem joP_all {l : List Prop} (hl : AllP l) : ∀ {ps : List Prop}, AllP ps → AllP (joP ps l)
 | [], _ => hl
 | _ :: _, h => AllP_cons.2 ⟨(AllP_cons.1 h).1, joP_all hl (AllP_cons.1 h).2⟩
theorem ka (H : List (Nat × Hint)) {ps : List Prop} (hp : AllP ps) : KP H (joP ps) := fun _ hl => joP_all hl hp
theorem KP.a {H : List (Nat × Hint)} {P : List Prop → List Prop} {qs : List Prop} (k : KP H P) (H2 : List (Nat × Hint)) (hq : AllP qs) : KP (joH H2 H) (fun l => P (joP qs l)) := fun _ hl => k _ (joP_all hl hq)
theorem KP.b {H : List (Nat × Hint)} {P : List Prop → List Prop} {qs : List Prop} (k : KP H P) (hq : AllP qs) : AllP (P qs) := k _ hq
section
variable {p : Prg} {m id fn : Nat} {live : List Nat} {b : IC} {s s2 : St} {ps : List Prop} {N : Nat} {h h0 : List AB} {L : List (Nat × AV)} {args : List AV} {v : AV}
theorem rn (H : List (Nat × Hint)) (hp : AllP ps) (e : roundD p 30 H m live b s = some (ps, .norm, s2) := by kernel_rfl) : evH p m live b s = evH p m live b s2 := rnd H hp e
theorem xb (H : List (Nat × Hint)) (hp : AllP ps) (e : exitL L (roundD p 30 H m live b s) = some (ps, .brk id, L, N, h) := by kernel_rfl) : ∃ g, evH p m live b s = some (.brk id, ⟨fr N g L, h⟩) := xbrk H hp e
theorem xy (H : List (Nat × Hint)) (hp : AllP ps) (e : exitV L (roundD p 30 H m live b s) = some (ps, .ret, L, N) := by kernel_rfl) : ∃ g y, evH p m live b s = some (.ret, ⟨fr N g L, y⟩) := xretY H hp e
theorem fq (H : List (Nat × Hint)) (hp : AllP ps) (hv : v.pure = true := by exact rfl) (e : (callDS p 30 H fn args []).map (fun r => (r.1, r.2.1)) = some (ps, v) := by kernel_rfl) : PR1 p fn args v := fpr H hp hv e
end
def anI (x y : Int) : Int := IntKind.u64.wrap (BitVec.ofInt 64 x &&& ~~~ BitVec.ofInt 64 y).toNat
def mapS (f : Int → Int → Int) (x y : SetD) : SetD := ⟨f x.a y.a, f x.b y.b, f x.c y.c, f x.d y.d⟩
theorem PR1_of {fn : Nat} {args : List AV} {x : AV} (hp : AV.pure.pures args = true) (h : CP prg fn args [] = some x) : PR1 prg fn args x := by
 rw [CP_in _ _ hp] at h
 obtain ⟨r, h1, h2⟩ := Option.bind_eq_some_iff.1 h
 exact ⟨r.1, r.2, h1, h2⟩
theorem run18 (x y : SetD) : callD prg 60 [] 18 [.agg ((eSet x).map .p), .agg ((eSet y).map .p)] = some ([], .agg ((eSet (mapS andI x y)).map .p)) := by kernel_rfl
theorem run21 (x y : SetD) : callD prg 60 [] 21 [.agg ((eSet x).map .p), .agg ((eSet y).map .p)] = some ([], .agg ((eSet (mapS anI x y)).map .p)) := by kernel_rfl
def allS : SetD := ⟨18446744073709551615, 18446744073709551615, 18446744073709551615, 18446744073709551615⟩
theorem run16 : callD prg 60 [] 16 [] = some ([], .agg ((eSet allS).map .p)) := by kernel_rfl
noncomputable def F18 (x y : SetD) : Option SetD := some (mapS andI x y)
noncomputable def F18_v (x y : SetD) (r : SetD) : AV := .agg ((eSet r).map .p)
theorem F18_ok (x y : SetD) {r : SetD} (h : F18 x y = some r) : PR1 prg 18 [.agg ((eSet x).map .p), .agg ((eSet y).map .p)] (F18_v x y r) := by
 cases h; exact PR1_of rfl (CP_D (run18 x y) trivial rfl [])
noncomputable def F21 (x y : SetD) : Option SetD := some (mapS anI x y)
noncomputable def F21_v (x y : SetD) (r : SetD) : AV := .agg ((eSet r).map .p)
theorem F21_ok (x y : SetD) {r : SetD} (h : F21 x y = some r) : PR1 prg 21 [.agg ((eSet x).map .p), .agg ((eSet y).map .p)] (F21_v x y r) := by
 cases h; exact PR1_of rfl (CP_D (run21 x y) trivial rfl [])
noncomputable def F16 : Option SetD := some allS
noncomputable def F16_v (r : SetD) : AV := .agg ((eSet r).map .p)
theorem F16_ok {r : SetD} (h : F16 = some r) : PR1 prg 16 [] (F16_v r) := by
 cases h; exact PR1_of rfl (CP_D run16 trivial rfl [])
end Go.Proofs.Tryd
