/- The program above tree.Read and tree.asked; works is run. -/
import Derived.Test.YtcdebkkjbminoaaDoorP3
import Derived.Test.YtcdebkkjbminoaaDoorVE
namespace Go.Proofs.Tryd
set_option linter.unusedSimpArgs false
set_option linter.unusedVariables false
open Go Go.Vs Go.Shelf
def askA (ask : List AV → List AB → Option (AV × List AB)) (args : List AV) (h : List AB) : Option (AV × List AB) := match args with
 | [.agg [.p (.val (.int .i64 n)), .p (.val (.int .u8 b)), .p (.lst 3 k)], f] => match ask [aT3 n b k, i6 16384, f] h with
  | some (_, h1) => some (i6 0, h1)
  | none => none
 | _ => none
noncomputable def readA (E : Er) (args : List AV) (h : List AB) : Option (AV × List AB) := match args, h with
 | [.p (.val (.string s))], [] => match readF E s with
  | some r => some (.tup [.agg ((cT r.1).map .p), i6 r.2], [])
  | none => none
 | _, _ => none
theorem readA_sound {E : Er} {args : List AV} {h h' : List AB} {v : AV} (hc : readA E args h = some (v, h')) : CallR prog (Go.Vs.Good prog) (gl14 E) 12 args h v h' := by
 unfold readA at hc
 split at hc
 ·split at hc
  ·rename_i r hr
   cases hc
   exact read_call hr
  ·cases hc
 ·cases hc
theorem askA_sound {E : Er} {ask : List AV → List AB → Option (AV × List AB)} (ha : ∀ args h v h1, ask args h = some (v, h1) → CS (prgR E) 72 args h = some (v, h1)) {args : List AV} {h h' : List AB} {v : AV} (hc : askA ask args h = some (v, h')) : CallR prog (Go.Vs.Good prog) (gl14 E) 53 args h v h' := by
 unfold askA at hc
 split at hc
 ·split at hc
  ·rename_i hr
   cases hc
   exact asked_call (ha _ _ _ _ hr)
  ·cases hc
 ·cases hc
def fns0 (n : Nat) : Option IFun := match n.beq 12 with | true => none | false => fnsR n
theorem fns0_ok : ∀ f F, fns0 f = some F → ∃ shf fd ann, prog.funcs[f]? = some fd ∧ compFn prog shf ann fd = some F := fun f F h => by
 unfold fns0 at h
 split at h
 ·cases h
 ·exact fnsR_ok f F h
def primA (E : Er) (rd ask : List AV → List AB → Option (AV × List AB)) (n : Nat) (args : List AV) (h : List AB) : Option (AV × List AB) := match n.beq 12, n.beq 53 with
 | true, _ => rd args h
 | false, true => askA ask args h
 | false, false => primR E n args h
theorem primA_ok {E : Er} {rd ask : List AV → List AB → Option (AV × List AB)} (hr : ∀ args h v h1, rd args h = some (v, h1) → CallR prog (Go.Vs.Good prog) (gl14 E) 12 args h v h1) (ha : ∀ args h v h1, ask args h = some (v, h1) → CS (prgR E) 72 args h = some (v, h1)) {f : Nat} {args : List AV} {h : List AB} {v : AV} {h' : List AB} (hc : primA E rd ask f args h = some (v, h')) : CallR prog (Go.Vs.Good prog) (gl14 E) f args h v h' := by
 unfold primA at hc
 split at hc
 ·rename_i e
  obtain rfl := Nat.eq_of_beq_eq_true e
  exact hr _ _ _ _ hc
 ·rename_i e1 e
  obtain rfl := Nat.eq_of_beq_eq_true e
  exact askA_sound ha hc
 ·exact primR_ok E hc
noncomputable def prg0 (E : Er) : Prg := ⟨fns0, gl14 E, primA E (readA E) (callS (prgR E) (evalN (prgR E) 40) 72), frs⟩
theorem prg0_ok (E : Er) : PrgOk prog (prg0 E) := ⟨fns0_ok, fun f args h v h' hc => primA_ok (fun _ _ _ _ => readA_sound) (fun args h v h1 hc => callS_mono (evalN_ev _ _) hc) hc⟩
set_option maxRecDepth 100000
theorem works0 (E : Er) : callP (prg0 E) (evalN (prg0 E) 60) 11 [] [] = some (vb true) := by kernel_rfl
theorem works1 (E : Er) (h : List AB) : CP (prg0 E) 11 [] h = some (vb true) := by
 have := CP_of 60 (works0 E)
 rw [CP_in _ _ rfl] at this ⊢
 exact this
def fns1 (n : Nat) : Option IFun := match n.beq 11 with | true => none | false => fns0 n
theorem fns1_ok : ∀ f F, fns1 f = some F → ∃ shf fd ann, prog.funcs[f]? = some fd ∧ compFn prog shf ann fd = some F := fun f F h => by
 unfold fns1 at h
 split at h
 ·cases h
 ·exact fns0_ok f F h
noncomputable def primB (E : Er) (n : Nat) (args : List AV) (h : List AB) : Option (AV × List AB) := match n.beq 11, args with
 | true, [] => some (vb true, h)
 | true, _ => none
 | false, _ => primA E (readA E) (CS (prgR E) 72) n args h
noncomputable def prg (E : Er) : Prg := ⟨fns1, gl14 E, primB E, frs⟩
theorem prg_ok (E : Er) : PrgOk prog (prg E) := ⟨fns1_ok, fun f args h v h' hc => by
 replace hc : primB E f args h = some (v, h') := hc
 unfold primB at hc
 split at hc
 ·rename_i e
  obtain rfl := Nat.eq_of_beq_eq_true e
  cases hc
  exact CP_sound (prg0_ok E) (works1 E h)
 ·cases hc
 ·exact primA_ok (fun _ _ _ _ => readA_sound) (fun _ _ _ _ hc => hc) hc⟩
theorem works {E : Er} : PR1 (prg E) 11 [] (vb true) := ⟨vb true, [], rfl, rfl⟩
inductive R_F12 where | k0 (t : TreeD) (n : Int)
theorem read_pr {E : Er} {s : ByteArray} {r : TreeD × Int} (h : readF E s = some r) : PR1 (prg E) 12 [vs s] (.tup [.agg ((cT r.1).map .p), i6 r.2]) := by
 refine ⟨.tup [.agg ((cT r.1).map .p), i6 r.2], [], ?_, rfl⟩
 show readA E [vs s] [] = _
 simp only [readA, h]
open Go Go.Vs
class ErC where
 e : Er
noncomputable abbrev pg [ErC] : Prg := prg ErC.e
end Go.Proofs.Tryd
