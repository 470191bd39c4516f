/- Seat 01: the program as the abstract machine has it; slices.Clone told by what it comes to. -/
import Derived.Test.YthpmanlglbfcdaaDoorIr8
import Derived.Test.YthpmanlglbfcdaaDoorVE
import Derived.Test.YthpmanlglbfcdaaDoorVF
namespace Go.Proofs.Tryd
set_option linter.unusedSimpArgs false
set_option linter.unusedVariables false
open Go Go.Vs
def frs (n : Nat) : Bool := false
def prg0 : Prg := ⟨fns, fun _ => none, fun _ _ _ => none, frs⟩
def prgN : Prg := ⟨fun n => match n.beq 42 with | true => none | false => fns n, fun _ => none, fun n args h => match n.beq 42 with | true => cloneA 34 3 32 args h | false => none, frs⟩
theorem prg0_ok : PrgOk prog prg0 := ⟨fns_ok, fun _ _ _ _ _ h => by cases h⟩
theorem clone1 (h : List AB) (c : Nat) : CS prg0 42 [.p (.val (.slice none 0 c))] h = some (clE 34 3 h) :=
 CS_D (ps := []) (n := 5) (H := []) (by kernel_rfl) trivial
theorem clone2 (h : List AB) (a : Addr) (c : Nat) : CS prg0 42 [.p (.val (.slice (some a) 0 c))] h = some (clE 34 3 h) :=
 CS_D (n := 5) (H := [(7, .r (clE 34 3 h).1 (clE 34 3 h).2)]) (ps := [appA ((h ++ [.row 34 3 0 []]) ++ [.row 34 3 0 []]) 34 3 32 (.sl (h ++ [AB.row 34 3 0 []]).length 0 3 0 0) (.p (.val (.slice (some a) 0 c))) = some ((clE 34 3 h).1, (clE 34 3 h).2)]) (by kernel_rfl) (show appA _ 34 3 32 _ _ = _ from clone_ap0)
theorem clone3 (h : List AB) (r : List PV) (rs : List (List PV)) (h1 : (0 + (r :: rs).length) * 32 ≤ limit47) (h2 : 0 + (r :: rs).length ≤ limit47) : CS prg0 42 [.p (.lst 3 (r :: rs))] h = some (clR 34 3 r rs h) :=
 CS_D (n := 5) (H := [(7, .r (clR 34 3 r rs h).1 (clR 34 3 r rs h).2)]) (ps := [appA ((h ++ [.row 34 3 0 []]) ++ [.row 34 3 0 []]) 34 3 32 (.sl (h ++ [AB.row 34 3 0 []]).length 0 3 0 0) (.p (.lst 3 (r :: rs))) = some ((clR 34 3 r rs h).1, (clR 34 3 r rs h).2)]) (by kernel_rfl) (show appA _ 34 3 32 _ _ = _ from clone_ap1 h1 h2)
theorem clone_ok {args : List AV} {h h' : List AB} {v : AV} (hc : cloneA 34 3 32 args h = some (v, h')) (gl : Nat → Option (List PV)) (hg : gl = fun _ => none) : CallR prog (Go.Vs.Good prog) gl 42 args h v h' := by
 subst hg
 exact clone_sound (p := prg0) prg0_ok clone1 clone2 clone3 hc
theorem prgN_ok : PrgOk prog prgN := by
 refine ⟨fun f F h => ?_, fun f args h v h' hc => ?_⟩
 ·have h : (match f.beq 42 with | true => none | false => fns f) = some F := h
  split at h
  ·cases h
  ·exact fns_ok f F h
 ·have hc : (match f.beq 42 with | true => cloneA 34 3 32 args h | false => none) = some (v, h') := hc
  split at hc
  ·rename_i e
   obtain rfl := Nat.eq_of_beq_eq_true e
   exact clone_ok hc _ rfl
  ·cases hc
open Go Go.Vs Go.Shelf Go.RowKit
def rhoF (x : Nat) : Nat := match x with | 105 => 21 | 212 => 34 | 99 => 35 | 165 => 36 | 166 => 37 | 170 => 38 | 169 => 27 | 263 => 49 | 264 => 50 | 206 => 51 | 240 => 52 | 241 => 53 | 276 => 63 | 277 => 64 | n => n
def rhoT (x : Nat) : Nat := match x with | 9 => 9 | 3 => 3 | 4 => 4 | 20 => 20 | 0 => 0 | 46 => 72 | 109 => 73 | 5 => 5 | 72 => 61 | 76 => 78 | 51 => 90 | 146 => 91 | 53 => 93 | 148 => 94 | 70 => 58 | 37 => 59 | 75 => 77 | 127 => 88 | 164 => 104 | 80 => 65 | n => n
def rho : Ren := ⟨rhoF, rhoT, fun n => n⟩
theorem lays : Lays.n105 prog rho := { mixed := Eq.refl true, f99 := func35, f105 := func21, f165 := func36, f166 := func37, f169 := func27, f170 := func38, f206 := func51, f212 := func34, f240 := func52, f241 := func53, f263 := func49, f264 := func50, f276 := func63, f277 := func64, t0 := underlying0, a0 := isAgg0, z0 := sizeOf0, v0 := zeroValue0, t3 := underlying3, a3 := isAgg3, z3 := sizeOf3, v3 := zeroValue3, t4 := underlying4, a4 := isAgg4, z4 := sizeOf4, v4 := zeroValue4, t5 := underlying5, a5 := isAgg5, z5 := sizeOf5, v5 := zeroValue5, t9 := underlying9, a9 := isAgg9, z9 := sizeOf9, v9 := zeroValue9, t20 := underlying20, a20 := isAgg20, z20 := sizeOf20, v20 := zeroValue20, t37 := underlying59, a37 := isAgg59, z37 := sizeOf59, v37 := zeroValue59, t46 := underlying72, a46 := isAgg72, z46 := sizeOf72, v46 := zeroValue72, t51 := underlying90, a51 := isAgg90, z51 := sizeOf90, v51 := zeroValue90, t53 := underlying93, a53 := isAgg93, z53 := sizeOf93, v53 := zeroValue93, t70 := underlying58, a70 := isAgg58, z70 := sizeOf58, v70 := zeroValue58, t72 := underlying61, a72 := isAgg61, z72 := sizeOf61, v72 := zeroValue61, t75 := underlying77, a75 := isAgg77, z75 := sizeOf77, v75 := zeroValue77, t76 := underlying78, a76 := isAgg78, z76 := sizeOf78, v76 := zeroValue78, t109 := underlying73, a109 := isAgg73, z109 := sizeOf73, v109 := zeroValue73, t127 := underlying88, a127 := isAgg88, z127 := sizeOf88, v127 := zeroValue88, t146 := underlying91, a146 := isAgg91, z146 := sizeOf91, v146 := zeroValue91, t148 := underlying94, a148 := isAgg94, z148 := sizeOf94, v148 := zeroValue94, t164 := underlying104, a164 := isAgg104, z164 := sizeOf104, v164 := zeroValue104 }
theorem extra : Builder.Extra prog rho where
 sizeBuilder := by kernel_rfl
 liesBuilder := by kernel_rfl
 t5 := lays.t5
 a5 := lays.a5
 z5 := lays.z5
 v5 := lays.v5
 infoByte := by kernel_rfl
 cellsByte := by kernel_rfl
 sizeByte := by kernel_rfl
 neB5 := by decide
theorem rep_ok {args : List AV} {h h' : List AB} {v : AV} (gl : Nat → Option (List PV)) (he : repA args h = some (v, h')) : CallR prog (Go.Vs.Good prog) gl 21 args h v h' :=
 rep_sound ⟨f21, func21, by kernel_rfl, by kernel_rfl⟩ (fun s c w h1 h2 => Any.strings_Repeat lays extra s c w h1 h2) he
end Go.Proofs.Tryd
