/- FactsLong: the law, run for each number of sorts. -/
import Derived.Test.YtefidjmkfefilaaDoorK4
import Derived.Test.YtefidjmkfefilaaDoorIr4
import Derived.Test.YtefidjmkfefilaaDoorRL
import Derived.Test.YtefidjmkfefilaaDoorVE
namespace Go.Proofs.Tryd
set_option linter.unusedSimpArgs false
set_option linter.unusedVariables false
open Go Go.Vs

noncomputable def prgT : Prg := topP prg fnsF
theorem prgT_ok : PrgOk prog prgT := topP_ok prg_ok fnsF_ok
def aN (n : Nat) : AV := .agg [.sl 0 n 1 0 n, .sl 1 n 7 0 n, vi .i64 0, .sl 2 0 3 0 0, .sl 3 0 5 0 0]
def cN (n : Nat) : AB := .cells 27 [.sl 0 n 1 0 n, .sl 1 n 7 0 n, vi .i64 0, .sl 2 0 3 0 0, .sl 3 0 5 0 0]
def bN (n : Nat) : List AB := [.row 9 1 n (ra eStr (gN n).sorts), .row 53 7 n (ra eProd (gN n).prods), .row 85 3 0 [], .row 87 5 0 [], cN n]
def fN (n : Nat) : List AB := [.frz 1 n ((gN n).sorts.map eStr), .frz 7 n ((gN n).prods.map eProd), .frz 3 0 [], .frz 5 0 [], cN n]
def v13 (n : Nat) : AV := .tup [.p (.lst 1 ((shN n).map eI64)), vi .i64 0]
def v14 (t : ByteArray) (e : Int) : AV := .tup [vs t, vi .i64 e]
def hA (n : Nat) (t : ByteArray) : List (Nat × Hint) := [(63, .r (v13 n) (fN n)), (93, .v (v14 t 0)), (113, .d true), (120, .v (vb true))]
def hB (n : Nat) : List (Nat × Hint) := [(63, .r (v13 n) (fN n)), (93, .v (v14 eB 3)), (106, .v (vb true))]
noncomputable def pA (n : Nat) (t : ByteArray) : List Prop := [CS prgT 13 [aN n] (bN n) = some (v13 n, fN n), CP prgT 14 [aN n, vi .i64 0] (fN n) = some (v14 t 0), vb ((t.size : Int) == 2 ^ (n - 1)) = vb true, CP prgT 11 [] (fN n) = some (vb true)]
noncomputable def pB (n : Nat) : List Prop := [CS prgT 13 [aN n] (bN n) = some (v13 n, fN n), CP prgT 14 [aN n, vi .i64 0] (fN n) = some (v14 eB 3), CP prgT 11 [] (fN n) = some (vb true)]
theorem run_1 (t : ByteArray) : callD prgT 60 (hA 1 t) 4 [vi .i64 1] = some (pA 1 t, vb true) := by kernel_rfl
theorem run_2 (t : ByteArray) : callD prgT 60 (hA 2 t) 4 [vi .i64 2] = some (pA 2 t, vb true) := by kernel_rfl
theorem run_3 (t : ByteArray) : callD prgT 60 (hA 3 t) 4 [vi .i64 3] = some (pA 3 t, vb true) := by kernel_rfl
theorem run_4 (t : ByteArray) : callD prgT 60 (hA 4 t) 4 [vi .i64 4] = some (pA 4 t, vb true) := by kernel_rfl
theorem run_5 (t : ByteArray) : callD prgT 60 (hA 5 t) 4 [vi .i64 5] = some (pA 5 t, vb true) := by kernel_rfl
theorem run_6 (t : ByteArray) : callD prgT 60 (hA 6 t) 4 [vi .i64 6] = some (pA 6 t, vb true) := by kernel_rfl
theorem run_7 (t : ByteArray) : callD prgT 60 (hA 7 t) 4 [vi .i64 7] = some (pA 7 t, vb true) := by kernel_rfl
theorem run_8 (t : ByteArray) : callD prgT 60 (hA 8 t) 4 [vi .i64 8] = some (pA 8 t, vb true) := by kernel_rfl
theorem run_9 (t : ByteArray) : callD prgT 60 (hA 9 t) 4 [vi .i64 9] = some (pA 9 t, vb true) := by kernel_rfl
theorem run_10 (t : ByteArray) : callD prgT 60 (hA 10 t) 4 [vi .i64 10] = some (pA 10 t, vb true) := by kernel_rfl
theorem run_11 (t : ByteArray) : callD prgT 60 (hA 11 t) 4 [vi .i64 11] = some (pA 11 t, vb true) := by kernel_rfl
theorem run_12 (t : ByteArray) : callD prgT 60 (hA 12 t) 4 [vi .i64 12] = some (pA 12 t, vb true) := by kernel_rfl
theorem run_13 (t : ByteArray) : callD prgT 60 (hA 13 t) 4 [vi .i64 13] = some (pA 13 t, vb true) := by kernel_rfl
theorem run_14 (t : ByteArray) : callD prgT 60 (hA 14 t) 4 [vi .i64 14] = some (pA 14 t, vb true) := by kernel_rfl
theorem run_15 (t : ByteArray) : callD prgT 60 (hA 15 t) 4 [vi .i64 15] = some (pA 15 t, vb true) := by kernel_rfl
theorem run_16 (t : ByteArray) : callD prgT 60 (hA 16 t) 4 [vi .i64 16] = some (pA 16 t, vb true) := by kernel_rfl
theorem run_17 (t : ByteArray) : callD prgT 60 (hA 17 t) 4 [vi .i64 17] = some (pA 17 t, vb true) := by kernel_rfl
theorem run_18 (t : ByteArray) : callD prgT 60 (hA 18 t) 4 [vi .i64 18] = some (pA 18 t, vb true) := by kernel_rfl
theorem run_19 (t : ByteArray) : callD prgT 60 (hA 19 t) 4 [vi .i64 19] = some (pA 19 t, vb true) := by kernel_rfl
theorem run_20 (t : ByteArray) : callD prgT 60 (hA 20 t) 4 [vi .i64 20] = some (pA 20 t, vb true) := by kernel_rfl
theorem run_21 (t : ByteArray) : callD prgT 60 (hA 21 t) 4 [vi .i64 21] = some (pA 21 t, vb true) := by kernel_rfl
theorem run_22 : callD prgT 60 (hB 22) 4 [vi .i64 22] = some (pB 22, vb true) := by kernel_rfl
theorem frz_1 : selF (rowss [aN 1]) (bN 1) = some (fN 1) ∧ purZs (fN 1) [aN 1] = some [.agg ((eGram (gN 1)).map .p)] ∧ purAs (fN 1) [aN 1, vi .i64 0] = some [.agg ((eGram (gN 1)).map .p), vi .i64 0] := ⟨by kernel_rfl, by kernel_rfl, by kernel_rfl⟩
theorem frz_2 : selF (rowss [aN 2]) (bN 2) = some (fN 2) ∧ purZs (fN 2) [aN 2] = some [.agg ((eGram (gN 2)).map .p)] ∧ purAs (fN 2) [aN 2, vi .i64 0] = some [.agg ((eGram (gN 2)).map .p), vi .i64 0] := ⟨by kernel_rfl, by kernel_rfl, by kernel_rfl⟩
theorem frz_3 : selF (rowss [aN 3]) (bN 3) = some (fN 3) ∧ purZs (fN 3) [aN 3] = some [.agg ((eGram (gN 3)).map .p)] ∧ purAs (fN 3) [aN 3, vi .i64 0] = some [.agg ((eGram (gN 3)).map .p), vi .i64 0] := ⟨by kernel_rfl, by kernel_rfl, by kernel_rfl⟩
theorem frz_4 : selF (rowss [aN 4]) (bN 4) = some (fN 4) ∧ purZs (fN 4) [aN 4] = some [.agg ((eGram (gN 4)).map .p)] ∧ purAs (fN 4) [aN 4, vi .i64 0] = some [.agg ((eGram (gN 4)).map .p), vi .i64 0] := ⟨by kernel_rfl, by kernel_rfl, by kernel_rfl⟩
theorem frz_5 : selF (rowss [aN 5]) (bN 5) = some (fN 5) ∧ purZs (fN 5) [aN 5] = some [.agg ((eGram (gN 5)).map .p)] ∧ purAs (fN 5) [aN 5, vi .i64 0] = some [.agg ((eGram (gN 5)).map .p), vi .i64 0] := ⟨by kernel_rfl, by kernel_rfl, by kernel_rfl⟩
theorem frz_6 : selF (rowss [aN 6]) (bN 6) = some (fN 6) ∧ purZs (fN 6) [aN 6] = some [.agg ((eGram (gN 6)).map .p)] ∧ purAs (fN 6) [aN 6, vi .i64 0] = some [.agg ((eGram (gN 6)).map .p), vi .i64 0] := ⟨by kernel_rfl, by kernel_rfl, by kernel_rfl⟩
theorem frz_7 : selF (rowss [aN 7]) (bN 7) = some (fN 7) ∧ purZs (fN 7) [aN 7] = some [.agg ((eGram (gN 7)).map .p)] ∧ purAs (fN 7) [aN 7, vi .i64 0] = some [.agg ((eGram (gN 7)).map .p), vi .i64 0] := ⟨by kernel_rfl, by kernel_rfl, by kernel_rfl⟩
theorem frz_8 : selF (rowss [aN 8]) (bN 8) = some (fN 8) ∧ purZs (fN 8) [aN 8] = some [.agg ((eGram (gN 8)).map .p)] ∧ purAs (fN 8) [aN 8, vi .i64 0] = some [.agg ((eGram (gN 8)).map .p), vi .i64 0] := ⟨by kernel_rfl, by kernel_rfl, by kernel_rfl⟩
theorem frz_9 : selF (rowss [aN 9]) (bN 9) = some (fN 9) ∧ purZs (fN 9) [aN 9] = some [.agg ((eGram (gN 9)).map .p)] ∧ purAs (fN 9) [aN 9, vi .i64 0] = some [.agg ((eGram (gN 9)).map .p), vi .i64 0] := ⟨by kernel_rfl, by kernel_rfl, by kernel_rfl⟩
theorem frz_10 : selF (rowss [aN 10]) (bN 10) = some (fN 10) ∧ purZs (fN 10) [aN 10] = some [.agg ((eGram (gN 10)).map .p)] ∧ purAs (fN 10) [aN 10, vi .i64 0] = some [.agg ((eGram (gN 10)).map .p), vi .i64 0] := ⟨by kernel_rfl, by kernel_rfl, by kernel_rfl⟩
theorem frz_11 : selF (rowss [aN 11]) (bN 11) = some (fN 11) ∧ purZs (fN 11) [aN 11] = some [.agg ((eGram (gN 11)).map .p)] ∧ purAs (fN 11) [aN 11, vi .i64 0] = some [.agg ((eGram (gN 11)).map .p), vi .i64 0] := ⟨by kernel_rfl, by kernel_rfl, by kernel_rfl⟩
theorem frz_12 : selF (rowss [aN 12]) (bN 12) = some (fN 12) ∧ purZs (fN 12) [aN 12] = some [.agg ((eGram (gN 12)).map .p)] ∧ purAs (fN 12) [aN 12, vi .i64 0] = some [.agg ((eGram (gN 12)).map .p), vi .i64 0] := ⟨by kernel_rfl, by kernel_rfl, by kernel_rfl⟩
theorem frz_13 : selF (rowss [aN 13]) (bN 13) = some (fN 13) ∧ purZs (fN 13) [aN 13] = some [.agg ((eGram (gN 13)).map .p)] ∧ purAs (fN 13) [aN 13, vi .i64 0] = some [.agg ((eGram (gN 13)).map .p), vi .i64 0] := ⟨by kernel_rfl, by kernel_rfl, by kernel_rfl⟩
theorem frz_14 : selF (rowss [aN 14]) (bN 14) = some (fN 14) ∧ purZs (fN 14) [aN 14] = some [.agg ((eGram (gN 14)).map .p)] ∧ purAs (fN 14) [aN 14, vi .i64 0] = some [.agg ((eGram (gN 14)).map .p), vi .i64 0] := ⟨by kernel_rfl, by kernel_rfl, by kernel_rfl⟩
theorem frz_15 : selF (rowss [aN 15]) (bN 15) = some (fN 15) ∧ purZs (fN 15) [aN 15] = some [.agg ((eGram (gN 15)).map .p)] ∧ purAs (fN 15) [aN 15, vi .i64 0] = some [.agg ((eGram (gN 15)).map .p), vi .i64 0] := ⟨by kernel_rfl, by kernel_rfl, by kernel_rfl⟩
theorem frz_16 : selF (rowss [aN 16]) (bN 16) = some (fN 16) ∧ purZs (fN 16) [aN 16] = some [.agg ((eGram (gN 16)).map .p)] ∧ purAs (fN 16) [aN 16, vi .i64 0] = some [.agg ((eGram (gN 16)).map .p), vi .i64 0] := ⟨by kernel_rfl, by kernel_rfl, by kernel_rfl⟩
theorem frz_17 : selF (rowss [aN 17]) (bN 17) = some (fN 17) ∧ purZs (fN 17) [aN 17] = some [.agg ((eGram (gN 17)).map .p)] ∧ purAs (fN 17) [aN 17, vi .i64 0] = some [.agg ((eGram (gN 17)).map .p), vi .i64 0] := ⟨by kernel_rfl, by kernel_rfl, by kernel_rfl⟩
theorem frz_18 : selF (rowss [aN 18]) (bN 18) = some (fN 18) ∧ purZs (fN 18) [aN 18] = some [.agg ((eGram (gN 18)).map .p)] ∧ purAs (fN 18) [aN 18, vi .i64 0] = some [.agg ((eGram (gN 18)).map .p), vi .i64 0] := ⟨by kernel_rfl, by kernel_rfl, by kernel_rfl⟩
theorem frz_19 : selF (rowss [aN 19]) (bN 19) = some (fN 19) ∧ purZs (fN 19) [aN 19] = some [.agg ((eGram (gN 19)).map .p)] ∧ purAs (fN 19) [aN 19, vi .i64 0] = some [.agg ((eGram (gN 19)).map .p), vi .i64 0] := ⟨by kernel_rfl, by kernel_rfl, by kernel_rfl⟩
theorem frz_20 : selF (rowss [aN 20]) (bN 20) = some (fN 20) ∧ purZs (fN 20) [aN 20] = some [.agg ((eGram (gN 20)).map .p)] ∧ purAs (fN 20) [aN 20, vi .i64 0] = some [.agg ((eGram (gN 20)).map .p), vi .i64 0] := ⟨by kernel_rfl, by kernel_rfl, by kernel_rfl⟩
theorem frz_21 : selF (rowss [aN 21]) (bN 21) = some (fN 21) ∧ purZs (fN 21) [aN 21] = some [.agg ((eGram (gN 21)).map .p)] ∧ purAs (fN 21) [aN 21, vi .i64 0] = some [.agg ((eGram (gN 21)).map .p), vi .i64 0] := ⟨by kernel_rfl, by kernel_rfl, by kernel_rfl⟩
theorem frz_22 : selF (rowss [aN 22]) (bN 22) = some (fN 22) ∧ purZs (fN 22) [aN 22] = some [.agg ((eGram (gN 22)).map .p)] ∧ purAs (fN 22) [aN 22, vi .i64 0] = some [.agg ((eGram (gN 22)).map .p), vi .i64 0] := ⟨by kernel_rfl, by kernel_rfl, by kernel_rfl⟩
theorem frz_23 : selF (rowss [aN 23]) (bN 23) = some (fN 23) ∧ purZs (fN 23) [aN 23] = some [.agg ((eGram (gN 23)).map .p)] ∧ purAs (fN 23) [aN 23, vi .i64 0] = some [.agg ((eGram (gN 23)).map .p), vi .i64 0] := ⟨by kernel_rfl, by kernel_rfl, by kernel_rfl⟩
theorem frz_24 : selF (rowss [aN 24]) (bN 24) = some (fN 24) ∧ purZs (fN 24) [aN 24] = some [.agg ((eGram (gN 24)).map .p)] ∧ purAs (fN 24) [aN 24, vi .i64 0] = some [.agg ((eGram (gN 24)).map .p), vi .i64 0] := ⟨by kernel_rfl, by kernel_rfl, by kernel_rfl⟩
theorem frz_25 : selF (rowss [aN 25]) (bN 25) = some (fN 25) ∧ purZs (fN 25) [aN 25] = some [.agg ((eGram (gN 25)).map .p)] ∧ purAs (fN 25) [aN 25, vi .i64 0] = some [.agg ((eGram (gN 25)).map .p), vi .i64 0] := ⟨by kernel_rfl, by kernel_rfl, by kernel_rfl⟩
theorem frz_26 : selF (rowss [aN 26]) (bN 26) = some (fN 26) ∧ purZs (fN 26) [aN 26] = some [.agg ((eGram (gN 26)).map .p)] ∧ purAs (fN 26) [aN 26, vi .i64 0] = some [.agg ((eGram (gN 26)).map .p), vi .i64 0] := ⟨by kernel_rfl, by kernel_rfl, by kernel_rfl⟩
theorem frz_27 : selF (rowss [aN 27]) (bN 27) = some (fN 27) ∧ purZs (fN 27) [aN 27] = some [.agg ((eGram (gN 27)).map .p)] ∧ purAs (fN 27) [aN 27, vi .i64 0] = some [.agg ((eGram (gN 27)).map .p), vi .i64 0] := ⟨by kernel_rfl, by kernel_rfl, by kernel_rfl⟩
theorem frz_28 : selF (rowss [aN 28]) (bN 28) = some (fN 28) ∧ purZs (fN 28) [aN 28] = some [.agg ((eGram (gN 28)).map .p)] ∧ purAs (fN 28) [aN 28, vi .i64 0] = some [.agg ((eGram (gN 28)).map .p), vi .i64 0] := ⟨by kernel_rfl, by kernel_rfl, by kernel_rfl⟩
theorem frz_29 : selF (rowss [aN 29]) (bN 29) = some (fN 29) ∧ purZs (fN 29) [aN 29] = some [.agg ((eGram (gN 29)).map .p)] ∧ purAs (fN 29) [aN 29, vi .i64 0] = some [.agg ((eGram (gN 29)).map .p), vi .i64 0] := ⟨by kernel_rfl, by kernel_rfl, by kernel_rfl⟩
theorem frz_30 : selF (rowss [aN 30]) (bN 30) = some (fN 30) ∧ purZs (fN 30) [aN 30] = some [.agg ((eGram (gN 30)).map .p)] ∧ purAs (fN 30) [aN 30, vi .i64 0] = some [.agg ((eGram (gN 30)).map .p), vi .i64 0] := ⟨by kernel_rfl, by kernel_rfl, by kernel_rfl⟩
end Go.Proofs.Tryd
