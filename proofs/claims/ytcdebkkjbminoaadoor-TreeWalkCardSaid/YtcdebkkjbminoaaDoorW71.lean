/- The program above tree.Read and tree.asked; works is run. -/
import Derived.Test.YtcdebkkjbminoaaDoorP7
import Derived.Test.YtcdebkkjbminoaaDoorVE
namespace Go.Proofs.Tryd
set_option linter.unusedSimpArgs false
set_option linter.unusedVariables false
open Go Go.Vs Go.Shelf
def askA (ask : List AV → List AB → Option (AV × List AB)) (args : List AV) (h : List AB) : Option (AV × List AB) := match args with
 | [.agg [.p (.val (.int .i64 n)), .p (.val (.int .u8 b)), .p (.lst 3 k)], f] => match ask [aT3 n b k, i6 16384, f] h with
  | some (_, h1) => some (i6 0, h1)
  | none => none
 | _ => none
noncomputable def Js (E : Er) (args : List AV) (h : List AB) : Option (AV × List AB) := match args, h with
 | [.p (.val (.string s))], [] => match GS E s with
  | some r => some (.tup [.agg ((cT r.1).map .p), i6 r.2], [])
  | none => none
 | _, _ => none
theorem UY {E : Er} {args : List AV} {h h' : List AB} {v : AV} (hc : Js E args h = some (v, h')) : Yf prog (Go.Vs.Good prog) (gl14 E) 12 args h v h' := by
 unfold Js at hc
 split at hc
 ·split at hc
  ·rename_i r hr
   cases hc
   exact LA hr
  ·cases hc
 ·cases hc
theorem NI {E : Er} {ask : List AV → List AB → Option (AV × List AB)} (ha : ∀ args h v h1, ask args h = some (v, h1) → CS (prgR E) 72 args h = some (v, h1)) {args : List AV} {h h' : List AB} {v : AV} (hc : askA ask args h = some (v, h')) : Yf prog (Go.Vs.Good prog) (gl14 E) 53 args h v h' := by
 unfold askA at hc
 split at hc
 ·split at hc
  ·rename_i hr
   cases hc
   exact NH (ha _ _ _ _ hr)
  ·cases hc
 ·cases hc
def fns0 (n : Nat) : Option IFun := match n.beq 12 with | true => none | false => fnsR n
theorem LB : ∀ f F, fns0 f = some F → ∃ shf fd ann, prog.funcs[f]? = some fd ∧ Zl prog shf ann fd = some F := fun f F h => by
 unfold fns0 at h
 split at h
 ·cases h
 ·exact Lq f F h
def Jt (E : Er) (rd ask : List AV → List AB → Option (AV × List AB)) (n : Nat) (args : List AV) (h : List AB) : Option (AV × List AB) := match n.beq 12, n.beq 53 with
 | true, _ => rd args h
 | false, true => askA ask args h
 | false, false => Ji E n args h
theorem Ok {E : Er} {rd ask : List AV → List AB → Option (AV × List AB)} (hr : ∀ args h v h1, rd args h = some (v, h1) → Yf prog (Go.Vs.Good prog) (gl14 E) 12 args h v h1) (ha : ∀ args h v h1, ask args h = some (v, h1) → CS (prgR E) 72 args h = some (v, h1)) {f : Nat} {args : List AV} {h : List AB} {v : AV} {h' : List AB} (hc : Jt E rd ask f args h = some (v, h')) : Yf prog (Go.Vs.Good prog) (gl14 E) f args h v h' := by
 unfold Jt at hc
 split at hc
 ·rename_i e
  obtain rfl := Nat.eq_of_beq_eq_true e
  exact hr _ _ _ _ hc
 ·rename_i e1 e
  obtain rfl := Nat.eq_of_beq_eq_true e
  exact NI ha hc
 ·exact Of E hc
noncomputable def prg0 (E : Er) : Prg := ⟨fns0, gl14 E, Jt E (Js E) (callS (prgR E) (ZG (prgR E) 40) 72), frs⟩
theorem GU (E : Er) : PrgOk prog (prg0 E) := ⟨LB, fun f args h v h' hc => Ok (fun _ _ _ _ => UY) (fun args h v h1 hc => Ys (Yi _ _) hc) hc⟩
set_option maxRecDepth 100000
theorem Es (E : Er) : callP (prg0 E) (ZG (prg0 E) 60) 11 [] [] = some (vb true) := by kernel_rfl
theorem Et (E : Er) (h : List AB) : CP (prg0 E) 11 [] h = some (vb true) := by
 have := E7 60 (Es E)
 rw [Fv _ _ rfl] at this ⊢
 exact this
def fns1 (n : Nat) : Option IFun := match n.beq 11 || n.beq 73 with | true => none | false => fns0 n
theorem GV : ∀ f F, fns1 f = some F → ∃ shf fd ann, prog.funcs[f]? = some fd ∧ Zl prog shf ann fd = some F := fun f F h => by
 unfold fns1 at h
 split at h
 ·cases h
 ·exact LB f F h
noncomputable def Eu (E : Er) (n : Nat) (args : List AV) (h : List AB) : Option (AV × List AB) := match n.beq 11, args with
 | true, [] => some (vb true, h)
 | true, _ => none
 | false, _ => Jt E (Js E) (CS (prgR E) 72) n args h
theorem Ew (E : Er) (h : List AB) (c : Nat) : CS (prgR E) 73 [.p (.val (.slice none 0 c))] h = some (clE 25 3 h) :=
 CS_D (ps := []) (n := 5) (H := []) (by kernel_rfl) trivial
theorem Ex (E : Er) (h : List AB) (a : Addr) (c : Nat) : CS (prgR E) 73 [.p (.val (.slice (some a) 0 c))] h = some (clE 25 3 h) :=
 CS_D (n := 5) (H := [(7, .r (clE 25 3 h).1 (clE 25 3 h).2)]) (ps := [appA ((h ++ [.row 25 3 0 []]) ++ [.row 25 3 0 []]) 25 3 40 (.sl (h ++ [AB.row 25 3 0 []]).length 0 3 0 0) (.p (.val (.slice (some a) 0 c))) = some ((clE 25 3 h).1, (clE 25 3 h).2)]) (by kernel_rfl) (show appA _ 25 3 40 _ _ = _ from M9)
theorem Ey (E : Er) (h : List AB) (r : List PV) (rs : List (List PV)) (h1 : (0 + (r :: rs).length) * 40 ≤ Zi) (h2 : 0 + (r :: rs).length ≤ Zi) : CS (prgR E) 73 [.p (.lst 3 (r :: rs))] h = some (clR 25 3 r rs h) :=
 CS_D (n := 5) (H := [(7, .r (clR 25 3 r rs h).1 (clR 25 3 r rs h).2)]) (ps := [appA ((h ++ [.row 25 3 0 []]) ++ [.row 25 3 0 []]) 25 3 40 (.sl (h ++ [AB.row 25 3 0 []]).length 0 3 0 0) (.p (.lst 3 (r :: rs))) = some ((clR 25 3 r rs h).1, (clR 25 3 r rs h).2)]) (by kernel_rfl) (show appA _ 25 3 40 _ _ = _ from La h1 h2)
noncomputable def GW (E : Er) (n : Nat) (args : List AV) (h : List AB) : Option (AV × List AB) := match n.beq 73 with
 | true => UT 25 3 40 args h
 | false => Eu E n args h
noncomputable def prg (E : Er) : Prg := ⟨fns1, gl14 E, GW E, frs⟩
theorem prg_ok (E : Er) : PrgOk prog (prg E) := ⟨GV, fun f args h v h' hc => by
 replace hc : GW E f args h = some (v, h') := hc
 unfold GW at hc
 split at hc
 ·rename_i e
  obtain rfl := Nat.eq_of_beq_eq_true e
  exact QP (p := prgR E) (UW E) (Ew E) (Ex E) (Ey E) hc
 unfold Eu at hc
 split at hc
 ·rename_i e
  obtain rfl := Nat.eq_of_beq_eq_true e
  cases hc
  exact PX (GU E) (Et E h)
 ·cases hc
 ·exact Ok (fun _ _ _ _ => UY) (fun _ _ _ _ hc => hc) hc⟩
theorem Ez {E : Er} : PR1 (prg E) 11 [] (vb true) := ⟨vb true, [], rfl, rfl⟩
theorem Ju {E : Er} {t : TreeD} {f v : AV} {h h1 : List AB} (hc : CS (prgR E) 72 [.agg ((cT t).map .p), i6 16384, f] h = some (v, h1)) : CS (prg E) 53 [.agg ((cT t).map .p), f] h = some (i6 0, h1) := by
 show askA (CS (prgR E) 72) [.agg ((cT t).map .p), f] h = _
 have hc' : CS (prgR E) 72 [aT3 t.prod t.byte (Zb t.kids), i6 16384, f] h = some (v, h1) := hc
 show (match CS (prgR E) 72 [aT3 t.prod t.byte (Zb t.kids), i6 16384, f] h with | some (_, h1) => some (i6 0, h1) | none => none) = _
 rw [hc']
open Go Go.Vs
class ErC where
 e : Er
abbrev pgR [ErC] : Prg := prgR ErC.e
noncomputable abbrev pg [ErC] : Prg := prg ErC.e
end Go.Proofs.Tryd
