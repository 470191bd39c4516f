/- Seat 17: strings.Repeat is the library's, so it answers as the library's does. -/
import Derived.Test.YtefbhnhekkncpaaDoorIr3
import Derived.Test.YtefbhnhekkncpaaDoorVF
namespace Go.Proofs.Tryd
set_option linter.unusedSimpArgs false
set_option linter.unusedVariables false
open Go Go.Vs Go.Shelf Go.RowKit
def rhoF (x : Nat) : Nat := match x with | 105 => 53 | 212 => 64 | 99 => 65 | 165 => 66 | 166 => 52 | 170 => 49 | 169 => 56 | 263 => 73 | 264 => 74 | 206 => 75 | 240 => 63 | 241 => 76 | 276 => 72 | 277 => 82 | n => n
def rhoT (x : Nat) : Nat := match x with | 9 => 9 | 3 => 3 | 4 => 4 | 20 => 20 | 0 => 0 | 46 => 108 | 109 => 109 | 5 => 5 | 72 => 81 | 76 => 97 | 51 => 118 | 146 => 119 | 53 => 121 | 148 => 122 | 70 => 79 | 37 => 51 | 75 => 96 | 127 => 115 | 164 => 116 | 80 => 84 | n => n
def rho : Ren := ⟨rhoF, rhoT, fun n => n⟩
theorem lays : Lays.n105 prog rho := { mixed := Eq.refl true, f99 := func65, f105 := func53, f165 := func66, f166 := func52, f169 := func56, f170 := func49, f206 := func75, f212 := func64, f240 := func63, f241 := func76, f263 := func73, f264 := func74, f276 := func72, f277 := func82, t0 := underlying0, a0 := isAgg0, z0 := sizeOf0, v0 := zeroValue0, t3 := underlying3, a3 := isAgg3, z3 := sizeOf3, v3 := zeroValue3, t4 := underlying4, a4 := isAgg4, z4 := sizeOf4, v4 := zeroValue4, t5 := underlying5, a5 := isAgg5, z5 := sizeOf5, v5 := zeroValue5, t9 := underlying9, a9 := isAgg9, z9 := sizeOf9, v9 := zeroValue9, t20 := underlying20, a20 := isAgg20, z20 := sizeOf20, v20 := zeroValue20, t37 := underlying51, a37 := isAgg51, z37 := sizeOf51, v37 := zeroValue51, t46 := underlying108, a46 := isAgg108, z46 := sizeOf108, v46 := zeroValue108, t51 := underlying118, a51 := isAgg118, z51 := sizeOf118, v51 := zeroValue118, t53 := underlying121, a53 := isAgg121, z53 := sizeOf121, v53 := zeroValue121, t70 := underlying79, a70 := isAgg79, z70 := sizeOf79, v70 := zeroValue79, t72 := underlying81, a72 := isAgg81, z72 := sizeOf81, v72 := zeroValue81, t75 := underlying96, a75 := isAgg96, z75 := sizeOf96, v75 := zeroValue96, t76 := underlying97, a76 := isAgg97, z76 := sizeOf97, v76 := zeroValue97, t109 := underlying109, a109 := isAgg109, z109 := sizeOf109, v109 := zeroValue109, t127 := underlying115, a127 := isAgg115, z127 := sizeOf115, v127 := zeroValue115, t146 := underlying119, a146 := isAgg119, z146 := sizeOf119, v146 := zeroValue119, t148 := underlying122, a148 := isAgg122, z148 := sizeOf122, v148 := zeroValue122, t164 := underlying116, a164 := isAgg116, z164 := sizeOf116, v164 := zeroValue116 }
theorem Ao : Builder.Extra prog rho where
 sizeBuilder := by kernel_rfl
 liesBuilder := by kernel_rfl
 t5 := lays.t5
 a5 := lays.a5
 z5 := lays.z5
 v5 := lays.v5
 infoByte := by kernel_rfl
 cellsByte := by kernel_rfl
 sizeByte := by kernel_rfl
 neB5 := by decide
theorem F5 {args : List AV} {h h' : List AB} {v : AV} (gl : Nat → Option (List PV)) (he : repA args h = some (v, h')) : Vi prog (Go.Vs.Good prog) gl 53 args h v h' :=
 Hb ⟨f53, func53, by kernel_rfl, by kernel_rfl⟩ (fun s c w h1 h2 => Any.strings_Repeat lays Ao s c w h1 h2) he
end Go.Proofs.Tryd
