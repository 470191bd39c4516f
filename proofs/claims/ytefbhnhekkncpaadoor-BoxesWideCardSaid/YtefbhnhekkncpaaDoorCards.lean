/-
  DERIVED. GIVEN WITH THE SEED: THE CARDS: each row of YtefbhnhekkncpaaDoorRows.lean that lists a variable, with what it lists TIED to the program's text (the seventh form; the later family's looks); each row that meets fmt, with fmt's text TOLD by the authors' own Lean function (tested against real Go, not proved from fmt's source: count such statements apart). THE CARD IS WHAT COUNTS. Prove the row's statement (the work); the ties are given (YtefbhnhekkncpaaDoorTie.lean); close each card by the builder's one call (the guide's Derived/Test/ToyasCard.lean, 'card_holds'). Laid BY PROGRAM, IN A SANDBOX (cutbox-door.mjs). By AI agents, Wed Nov 11 2026. No macro, syntax, notation, axiom, sorry.
-/
import Derived.Test.YtefbhnhekkncpaaDoorRows
import GoSem.ClaimSeven
namespace Go.Proofs.YtefbhnhekkncpaaDoor
namespace Rows

/-- THE TIED CARD OF 'rosettalaw16.BoxesWide'. -/
def boxesWideCard : Claim7 := { stood := { row := boxesWideRow, standIns := [], harness := (true, "662defa9f08f3d87bb049f5baacb39f170e55f19f60fb59e3a12e13fa5af66e3"), looks := false }, kinds := [], alts := [], laidByText := true, laidKinds := [.data, .pinned], laidTests := true, laidLooks := .later }
def BoxesWideCardSaid : Prop := Claim7.holds Tryd.pinned (.plain (OpenSpec.ofChange boxesWideSpec)) boxesWideCard

/-- THE TIED CARD OF 'rosettalaw16.BoxesTells'. -/
def boxesTellsCard : Claim7 := { stood := { row := boxesTellsRow, standIns := [], harness := (true, "662defa9f08f3d87bb049f5baacb39f170e55f19f60fb59e3a12e13fa5af66e3"), looks := false }, kinds := [], alts := [], laidByText := true, laidKinds := [.data, .pinned], laidTests := true, laidLooks := .later }
def BoxesTellsCardSaid : Prop := Claim7.holds Tryd.pinned (.plain (OpenSpec.ofChange boxesTellsSpec)) boxesTellsCard

/-- THE TIED CARD OF 'rosettalaw16.BoxesFlat'. -/
def boxesFlatCard : Claim7 := { stood := { row := boxesFlatRow, standIns := [], harness := (true, "662defa9f08f3d87bb049f5baacb39f170e55f19f60fb59e3a12e13fa5af66e3"), looks := false }, kinds := [], alts := [], laidByText := true, laidKinds := [.data, .pinned], laidTests := true, laidLooks := .later }
def BoxesFlatCardSaid : Prop := Claim7.holds Tryd.pinned (.plain (OpenSpec.ofChange boxesFlatSpec)) boxesFlatCard

/-- THE SECOND FORM's CARD OF 'rosettalaw16.BoxesWide'. -/
def boxesWideUptoCard : Claim7 := { stood := { row := boxesWideUptoRow, standIns := [], harness := (true, "662defa9f08f3d87bb049f5baacb39f170e55f19f60fb59e3a12e13fa5af66e3"), looks := false }, kinds := [], alts := [], laidByText := true, laidKinds := [.data, .pinned], laidTests := true, laidLooks := .later }
def BoxesWideUptoCardSaid : Prop := Claim7.holds Tryd.pinned (.plain (OpenSpec.upto boxesWideSpec)) boxesWideUptoCard

/-- THE SECOND FORM's CARD OF 'rosettalaw16.BoxesTells'. -/
def boxesTellsUptoCard : Claim7 := { stood := { row := boxesTellsUptoRow, standIns := [], harness := (true, "662defa9f08f3d87bb049f5baacb39f170e55f19f60fb59e3a12e13fa5af66e3"), looks := false }, kinds := [], alts := [], laidByText := true, laidKinds := [.data, .pinned], laidTests := true, laidLooks := .later }
def BoxesTellsUptoCardSaid : Prop := Claim7.holds Tryd.pinned (.plain (OpenSpec.upto boxesTellsSpec)) boxesTellsUptoCard

/-- THE SECOND FORM's CARD OF 'rosettalaw16.BoxesFlat'. -/
def boxesFlatUptoCard : Claim7 := { stood := { row := boxesFlatUptoRow, standIns := [], harness := (true, "662defa9f08f3d87bb049f5baacb39f170e55f19f60fb59e3a12e13fa5af66e3"), looks := false }, kinds := [], alts := [], laidByText := true, laidKinds := [.data, .pinned], laidTests := true, laidLooks := .later }
def BoxesFlatUptoCardSaid : Prop := Claim7.holds Tryd.pinned (.plain (OpenSpec.upto boxesFlatSpec)) boxesFlatUptoCard
end Rows
end Go.Proofs.YtefbhnhekkncpaaDoor
