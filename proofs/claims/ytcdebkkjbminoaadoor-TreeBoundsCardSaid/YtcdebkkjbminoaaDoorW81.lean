/- The law's closed part: it answers true; the program above it. -/
import Derived.Test.YtcdebkkjbminoaaDoorP82
import Derived.Test.YtcdebkkjbminoaaDoorVE
namespace Go.Proofs.Tryd
set_option linter.unusedSimpArgs false
set_option linter.unusedVariables false
set_option maxRecDepth 100000
open Go Go.Vs Go.Shelf
theorem works0 (E : Er) : callP (prg0 E) (evalN (prg0 E) 60) 11 [] [] = some (vb true) := by kernel_rfl
theorem works1 (E : Er) (h : List AB) : CP (prg0 E) 11 [] h = some (vb true) := by
 have := CP_of 60 (works0 E)
 rw [CP_in _ _ rfl] at this ⊢
 exact this
def fns1 (n : Nat) : Option IFun := match n.beq 11 || (n.beq 73 || n.beq 33) with | true => none | false => fns0 n
theorem fns1_ok : ∀ f F, fns1 f = some F → ∃ shf fd ann, prog.funcs[f]? = some fd ∧ compFn prog shf ann fd = some F := fun f F h => by
 unfold fns1 at h
 split at h
 ·cases h
 ·exact fns0_ok f F h
noncomputable def primB (E : Er) (n : Nat) (args : List AV) (h : List AB) : Option (AV × List AB) := match n.beq 11, args with
 | true, [] => some (vb true, h)
 | true, _ => none
 | false, _ => primA E (readA E) (CS (prgR E) 72) n args h
theorem clone1 (E : Er) (h : List AB) (c : Nat) : CS (prgR E) 73 [.p (.val (.slice none 0 c))] h = some (clE 25 3 h) :=
 CS_D (ps := []) (n := 5) (H := []) (by kernel_rfl) trivial
theorem clone2 (E : Er) (h : List AB) (a : Addr) (c : Nat) : CS (prgR E) 73 [.p (.val (.slice (some a) 0 c))] h = some (clE 25 3 h) :=
 CS_D (n := 5) (H := [(7, .r (clE 25 3 h).1 (clE 25 3 h).2)]) (ps := [appA ((h ++ [.row 25 3 0 []]) ++ [.row 25 3 0 []]) 25 3 40 (.sl (h ++ [AB.row 25 3 0 []]).length 0 3 0 0) (.p (.val (.slice (some a) 0 c))) = some ((clE 25 3 h).1, (clE 25 3 h).2)]) (by kernel_rfl) (show appA _ 25 3 40 _ _ = _ from clone_ap0)
theorem clone3 (E : Er) (h : List AB) (r : List PV) (rs : List (List PV)) (h1 : (0 + (r :: rs).length) * 40 ≤ limit47) (h2 : 0 + (r :: rs).length ≤ limit47) : CS (prgR E) 73 [.p (.lst 3 (r :: rs))] h = some (clR 25 3 r rs h) :=
 CS_D (n := 5) (H := [(7, .r (clR 25 3 r rs h).1 (clR 25 3 r rs h).2)]) (ps := [appA ((h ++ [.row 25 3 0 []]) ++ [.row 25 3 0 []]) 25 3 40 (.sl (h ++ [AB.row 25 3 0 []]).length 0 3 0 0) (.p (.lst 3 (r :: rs))) = some ((clR 25 3 r rs h).1, (clR 25 3 r rs h).2)]) (by kernel_rfl) (show appA _ 25 3 40 _ _ = _ from clone_ap1 h1 h2)
noncomputable def primC (E : Er) (put : List AV → List AB → Option (AV × List AB)) (n : Nat) (args : List AV) (h : List AB) : Option (AV × List AB) := match n.beq 73, n.beq 33 with
 | true, _ => cloneA 25 3 40 args h
 | false, true => put args h
 | false, false => primB E n args h
noncomputable def prgX (E : Er) (put : List AV → List AB → Option (AV × List AB)) : Prg := ⟨fns1, gl14 E, primC E put, frs⟩
theorem prgX_ok (E : Er) {put : List AV → List AB → Option (AV × List AB)} (hput : ∀ args h v h', put args h = some (v, h') → CallR prog (Go.Vs.Good prog) (gl14 E) 33 args h v h') : PrgOk prog (prgX E put) := ⟨fns1_ok, fun f args h v h' hc => by
 replace hc : primC E put f args h = some (v, h') := hc
 unfold primC at hc
 split at hc
 ·rename_i e
  obtain rfl := Nat.eq_of_beq_eq_true e
  exact clone_sound (p := prgR E) (prgR_ok E) (clone1 E) (clone2 E) (clone3 E) hc
 ·rename_i e1 e
  obtain rfl := Nat.eq_of_beq_eq_true e
  exact hput _ _ _ _ hc
 unfold primB at hc
 split at hc
 ·rename_i e
  obtain rfl := Nat.eq_of_beq_eq_true e
  cases hc
  exact CP_sound (prg0_ok E) (works1 E h)
 ·cases hc
 ·exact primA_ok (fun _ _ _ _ => readA_sound) (fun _ _ _ _ hc => hc) hc⟩
abbrev noPut : List AV → List AB → Option (AV × List AB) := fun _ _ => none
noncomputable abbrev prg (E : Er) : Prg := prgX E noPut
theorem prg_ok (E : Er) : PrgOk prog (prg E) := prgX_ok E (fun _ _ _ _ h => by cases h)
theorem works {E : Er} {put} : PR1 (prgX E put) 11 [] (vb true) := ⟨vb true, [], rfl, rfl⟩
theorem read_pr {E : Er} {s : ByteArray} {r : TreeD × Int} (h : readF E s = some r) : PR1 (prg E) 12 [vs s] (.tup [.agg ((cT r.1).map .p), i6 r.2]) := by
 refine ⟨.tup [.agg ((cT r.1).map .p), i6 r.2], [], ?_, rfl⟩
 show readA E [vs s] [] = _
 simp only [readA, h]
theorem asked_cs {E : Er} {put} {t : TreeD} {f v : AV} {h h1 : List AB} (hc : CS (prgR E) 72 [.agg ((cT t).map .p), i6 16384, f] h = some (v, h1))  : CS (prgX E put) 53 [.agg ((cT t).map .p), f] h = some (i6 0, h1) := by
 show askA (CS (prgR E) 72) [.agg ((cT t).map .p), f] h = _
 have hc' : CS (prgR E) 72 [aT3 t.prod t.byte (eTrees t.kids), i6 16384, f] h = some (v, h1) := hc
 show (match CS (prgR E) 72 [aT3 t.prod t.byte (eTrees t.kids), i6 16384, f] h with | some (_, h1) => some (i6 0, h1) | none => none) = _
 rw [hc']
open Go Go.Vs
class ErC where
 e : Er
 put : List AV → List AB → Option (AV × List AB)
abbrev pgR [ErC] : Prg := prgR ErC.e
noncomputable abbrev pg [ErC] : Prg := prgX ErC.e ErC.put
end Go.Proofs.Tryd
