/- Seat 01: the program as the abstract machine has it; slices.Clone told by what it comes to. -/
import Derived.Test.YthpmanlglbfcdaaDoorIr3
import Derived.Test.YthpmanlglbfcdaaDoorVE
namespace Go.Proofs.Tryd
set_option linter.unusedSimpArgs false
set_option linter.unusedVariables false
open Go Go.Vs
def frs (n : Nat) : Bool := false
def prg0 : Prg := ⟨fns, fun _ => none, fun _ _ _ => none, frs⟩
def prgN : Prg := ⟨fun n => match n.beq 42 with | true => none | false => fns n, fun _ => none, fun n args h => match n.beq 42 with | true => cloneA 34 3 32 args h | false => none, frs⟩
theorem prg0_ok : PrgOk prog prg0 := ⟨fns_ok, fun _ _ _ _ _ h => by cases h⟩
theorem clone1 (h : List AB) (c : Nat) : CS prg0 42 [.p (.val (.slice none 0 c))] h = some (clE 34 3 h) :=
 CS_D (ps := []) (n := 5) (H := []) (by kernel_rfl) trivial
theorem clone2 (h : List AB) (a : Addr) (c : Nat) : CS prg0 42 [.p (.val (.slice (some a) 0 c))] h = some (clE 34 3 h) :=
 CS_D (n := 5) (H := [(7, .r (clE 34 3 h).1 (clE 34 3 h).2)]) (ps := [appA ((h ++ [.row 34 3 0 []]) ++ [.row 34 3 0 []]) 34 3 32 (.sl (h ++ [AB.row 34 3 0 []]).length 0 3 0 0) (.p (.val (.slice (some a) 0 c))) = some ((clE 34 3 h).1, (clE 34 3 h).2)]) (by kernel_rfl) (show appA _ 34 3 32 _ _ = _ from clone_ap0)
theorem clone3 (h : List AB) (r : List PV) (rs : List (List PV)) (h1 : (0 + (r :: rs).length) * 32 ≤ limit47) (h2 : 0 + (r :: rs).length ≤ limit47) : CS prg0 42 [.p (.lst 3 (r :: rs))] h = some (clR 34 3 r rs h) :=
 CS_D (n := 5) (H := [(7, .r (clR 34 3 r rs h).1 (clR 34 3 r rs h).2)]) (ps := [appA ((h ++ [.row 34 3 0 []]) ++ [.row 34 3 0 []]) 34 3 32 (.sl (h ++ [AB.row 34 3 0 []]).length 0 3 0 0) (.p (.lst 3 (r :: rs))) = some ((clR 34 3 r rs h).1, (clR 34 3 r rs h).2)]) (by kernel_rfl) (show appA _ 34 3 32 _ _ = _ from clone_ap1 h1 h2)
theorem clone_ok {args : List AV} {h h' : List AB} {v : AV} (hc : cloneA 34 3 32 args h = some (v, h')) (gl : Nat → Option (List PV)) (hg : gl = fun _ => none) : CallR prog (Go.Vs.Good prog) gl 42 args h v h' := by
 subst hg
 exact clone_sound (p := prg0) prg0_ok clone1 clone2 clone3 hc
theorem prgN_ok : PrgOk prog prgN := by
 refine ⟨fun f F h => ?_, fun f args h v h' hc => ?_⟩
 ·have h : (match f.beq 42 with | true => none | false => fns f) = some F := h
  split at h
  ·cases h
  ·exact fns_ok f F h
 ·have hc : (match f.beq 42 with | true => cloneA 34 3 32 args h | false => none) = some (v, h') := hc
  split at hc
  ·rename_i e
   obtain rfl := Nat.eq_of_beq_eq_true e
   exact clone_ok hc _ rfl
  ·cases hc
end Go.Proofs.Tryd
