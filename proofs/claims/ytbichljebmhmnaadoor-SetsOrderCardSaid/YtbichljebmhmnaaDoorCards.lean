/-
  DERIVED. GIVEN WITH THE SEED: THE CARDS: each row of YtbichljebmhmnaaDoorRows.lean that lists a variable, with what it lists TIED to the program's text (the seventh form; the later family's looks); each row that meets fmt, with fmt's text TOLD by the authors' own Lean function (tested against real Go, not proved from fmt's source: count such statements apart). THE CARD IS WHAT COUNTS. Prove the row's statement (the work); the ties are given (YtbichljebmhmnaaDoorTie.lean); close each card by the builder's one call (the guide's Derived/Test/ToyasCard.lean, 'card_holds'). Laid BY PROGRAM, IN A SANDBOX (cutbox-door.mjs). By AI agents, Wed Nov 11 2026. No macro, syntax, notation, axiom, sorry.
-/
import Derived.Test.YtbichljebmhmnaaDoorRows
import GoSem.ClaimSeven
namespace Go.Proofs.YtbichljebmhmnaaDoor
namespace Rows

/-- THE TIED CARD OF 'rosettalaw02.SetsMakes'. -/
def setsMakesCard : Claim7 := { stood := { row := setsMakesRow, standIns := [], harness := (true, "3abd38e65c591a39666cff86eaddd483bd325c1863a0e37660e6792847ca5c0b"), looks := false }, kinds := [], alts := [], laidByText := true, laidKinds := [.data], laidTests := true, laidLooks := .later }
def SetsMakesCardSaid : Prop := Claim7.holds Tryd.pinned (.plain (OpenSpec.ofChange setsMakesSpec)) setsMakesCard

/-- THE TIED CARD OF 'rosettalaw02.SetsLaws'. -/
def setsLawsCard : Claim7 := { stood := { row := setsLawsRow, standIns := [], harness := (true, "3abd38e65c591a39666cff86eaddd483bd325c1863a0e37660e6792847ca5c0b"), looks := false }, kinds := [], alts := [], laidByText := true, laidKinds := [.data], laidTests := true, laidLooks := .later }
def SetsLawsCardSaid : Prop := Claim7.holds Tryd.pinned (.plain (OpenSpec.ofChange setsLawsSpec)) setsLawsCard

/-- THE TIED CARD OF 'rosettalaw02.SetsJoins'. -/
def setsJoinsCard : Claim7 := { stood := { row := setsJoinsRow, standIns := [], harness := (true, "3abd38e65c591a39666cff86eaddd483bd325c1863a0e37660e6792847ca5c0b"), looks := false }, kinds := [], alts := [], laidByText := true, laidKinds := [.data], laidTests := true, laidLooks := .later }
def SetsJoinsCardSaid : Prop := Claim7.holds Tryd.pinned (.plain (OpenSpec.ofChange setsJoinsSpec)) setsJoinsCard

/-- THE TIED CARD OF 'rosettalaw02.SetsSplits'. -/
def setsSplitsCard : Claim7 := { stood := { row := setsSplitsRow, standIns := [], harness := (true, "3abd38e65c591a39666cff86eaddd483bd325c1863a0e37660e6792847ca5c0b"), looks := false }, kinds := [], alts := [], laidByText := true, laidKinds := [.data], laidTests := true, laidLooks := .later }
def SetsSplitsCardSaid : Prop := Claim7.holds Tryd.pinned (.plain (OpenSpec.ofChange setsSplitsSpec)) setsSplitsCard

/-- THE TIED CARD OF 'rosettalaw02.SetsOrder'. -/
def setsOrderCard : Claim7 := { stood := { row := setsOrderRow, standIns := [], harness := (true, "3abd38e65c591a39666cff86eaddd483bd325c1863a0e37660e6792847ca5c0b"), looks := false }, kinds := [], alts := [], laidByText := true, laidKinds := [.data], laidTests := true, laidLooks := .later }
def SetsOrderCardSaid : Prop := Claim7.holds Tryd.pinned (.plain (OpenSpec.ofChange setsOrderSpec)) setsOrderCard

/-- THE SECOND FORM's CARD OF 'rosettalaw02.SetsMakes'. -/
def setsMakesUptoCard : Claim7 := { stood := { row := setsMakesUptoRow, standIns := [], harness := (true, "3abd38e65c591a39666cff86eaddd483bd325c1863a0e37660e6792847ca5c0b"), looks := false }, kinds := [], alts := [], laidByText := true, laidKinds := [.data], laidTests := true, laidLooks := .later }
def SetsMakesUptoCardSaid : Prop := Claim7.holds Tryd.pinned (.plain (OpenSpec.upto setsMakesSpec)) setsMakesUptoCard

/-- THE SECOND FORM's CARD OF 'rosettalaw02.SetsLaws'. -/
def setsLawsUptoCard : Claim7 := { stood := { row := setsLawsUptoRow, standIns := [], harness := (true, "3abd38e65c591a39666cff86eaddd483bd325c1863a0e37660e6792847ca5c0b"), looks := false }, kinds := [], alts := [], laidByText := true, laidKinds := [.data], laidTests := true, laidLooks := .later }
def SetsLawsUptoCardSaid : Prop := Claim7.holds Tryd.pinned (.plain (OpenSpec.upto setsLawsSpec)) setsLawsUptoCard

/-- THE SECOND FORM's CARD OF 'rosettalaw02.SetsJoins'. -/
def setsJoinsUptoCard : Claim7 := { stood := { row := setsJoinsUptoRow, standIns := [], harness := (true, "3abd38e65c591a39666cff86eaddd483bd325c1863a0e37660e6792847ca5c0b"), looks := false }, kinds := [], alts := [], laidByText := true, laidKinds := [.data], laidTests := true, laidLooks := .later }
def SetsJoinsUptoCardSaid : Prop := Claim7.holds Tryd.pinned (.plain (OpenSpec.upto setsJoinsSpec)) setsJoinsUptoCard

/-- THE SECOND FORM's CARD OF 'rosettalaw02.SetsSplits'. -/
def setsSplitsUptoCard : Claim7 := { stood := { row := setsSplitsUptoRow, standIns := [], harness := (true, "3abd38e65c591a39666cff86eaddd483bd325c1863a0e37660e6792847ca5c0b"), looks := false }, kinds := [], alts := [], laidByText := true, laidKinds := [.data], laidTests := true, laidLooks := .later }
def SetsSplitsUptoCardSaid : Prop := Claim7.holds Tryd.pinned (.plain (OpenSpec.upto setsSplitsSpec)) setsSplitsUptoCard

/-- THE SECOND FORM's CARD OF 'rosettalaw02.SetsOrder'. -/
def setsOrderUptoCard : Claim7 := { stood := { row := setsOrderUptoRow, standIns := [], harness := (true, "3abd38e65c591a39666cff86eaddd483bd325c1863a0e37660e6792847ca5c0b"), looks := false }, kinds := [], alts := [], laidByText := true, laidKinds := [.data], laidTests := true, laidLooks := .later }
def SetsOrderUptoCardSaid : Prop := Claim7.holds Tryd.pinned (.plain (OpenSpec.upto setsOrderSpec)) setsOrderUptoCard
end Rows
end Go.Proofs.YtbichljebmhmnaaDoor
