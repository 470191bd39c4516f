/- Seat 16: strings.Repeat is the library's, so it answers as the library's does. -/
import Derived.Test.YtefbhnhekkncpaaIr4
import Derived.Test.YtefbhnhekkncpaaVF
namespace Go.Proofs.Try
set_option linter.unusedSimpArgs false
set_option linter.unusedVariables false
open Go Go.Vs Go.Shelf Go.RowKit
def rhoF (x : Nat) : Nat := match x with | 105 => 35 | 212 => 43 | 99 => 44 | 165 => 45 | 166 => 34 | 170 => 31 | 169 => 38 | 263 => 51 | 264 => 52 | 206 => 53 | 240 => 42 | 241 => 54 | 276 => 50 | 277 => 60 | n => n
def rhoT (x : Nat) : Nat := match x with | 9 => 9 | 3 => 3 | 4 => 4 | 20 => 20 | 0 => 0 | 46 => 83 | 109 => 84 | 5 => 5 | 72 => 64 | 76 => 75 | 51 => 93 | 146 => 94 | 53 => 96 | 148 => 97 | 70 => 62 | 37 => 50 | 75 => 74 | 127 => 90 | 164 => 91 | 80 => 67 | n => n
def rho : Ren := ⟨rhoF, rhoT, fun n => n⟩
theorem lays : Lays.n105 prog rho := { mixed := Eq.refl true, f99 := func44, f105 := func35, f165 := func45, f166 := func34, f169 := func38, f170 := func31, f206 := func53, f212 := func43, f240 := func42, f241 := func54, f263 := func51, f264 := func52, f276 := func50, f277 := func60, t0 := underlying0, a0 := isAgg0, z0 := sizeOf0, v0 := zeroValue0, t3 := underlying3, a3 := isAgg3, z3 := sizeOf3, v3 := zeroValue3, t4 := underlying4, a4 := isAgg4, z4 := sizeOf4, v4 := zeroValue4, t5 := underlying5, a5 := isAgg5, z5 := sizeOf5, v5 := zeroValue5, t9 := underlying9, a9 := isAgg9, z9 := sizeOf9, v9 := zeroValue9, t20 := underlying20, a20 := isAgg20, z20 := sizeOf20, v20 := zeroValue20, t37 := underlying50, a37 := isAgg50, z37 := sizeOf50, v37 := zeroValue50, t46 := underlying83, a46 := isAgg83, z46 := sizeOf83, v46 := zeroValue83, t51 := underlying93, a51 := isAgg93, z51 := sizeOf93, v51 := zeroValue93, t53 := underlying96, a53 := isAgg96, z53 := sizeOf96, v53 := zeroValue96, t70 := underlying62, a70 := isAgg62, z70 := sizeOf62, v70 := zeroValue62, t72 := underlying64, a72 := isAgg64, z72 := sizeOf64, v72 := zeroValue64, t75 := underlying74, a75 := isAgg74, z75 := sizeOf74, v75 := zeroValue74, t76 := underlying75, a76 := isAgg75, z76 := sizeOf75, v76 := zeroValue75, t109 := underlying84, a109 := isAgg84, z109 := sizeOf84, v109 := zeroValue84, t127 := underlying90, a127 := isAgg90, z127 := sizeOf90, v127 := zeroValue90, t146 := underlying94, a146 := isAgg94, z146 := sizeOf94, v146 := zeroValue94, t148 := underlying97, a148 := isAgg97, z148 := sizeOf97, v148 := zeroValue97, t164 := underlying91, a164 := isAgg91, z164 := sizeOf91, v164 := zeroValue91 }
theorem CV : Builder.Extra prog rho where
 sizeBuilder := by kernel_rfl
 liesBuilder := by kernel_rfl
 t5 := lays.t5
 a5 := lays.a5
 z5 := lays.z5
 v5 := lays.v5
 infoByte := by kernel_rfl
 cellsByte := by kernel_rfl
 sizeByte := by kernel_rfl
 neB5 := by decide
theorem GS {args : List AV} {h h' : List AB} {v : AV} (gl : Nat → Option (List PV)) (he : repA args h = some (v, h')) : W9 prog (Go.Vs.Good prog) gl 35 args h v h' :=
 rep_so ⟨f35, func35, by kernel_rfl, by kernel_rfl⟩ (fun s c w h1 h2 => Any.strings_Repeat lays CV s c w h1 h2) he
end Go.Proofs.Try
