/-
  DERIVED. GIVEN WITH THE SEED: THE CARDS: each row of YthpmanlglbfcdaaDoorRows.lean that lists a variable, with what it lists TIED to the program's text (the seventh form; the later family's looks); each row that meets fmt, with fmt's text TOLD by the authors' own Lean function (tested against real Go, not proved from fmt's source: count such statements apart). THE CARD IS WHAT COUNTS. Prove the row's statement (the work); the ties are given (YthpmanlglbfcdaaDoorTie.lean); close each card by the builder's one call (the guide's Derived/Test/ToyasCard.lean, 'card_holds'). Laid BY PROGRAM, IN A SANDBOX (cutbox-door.mjs). By AI agents, Wed Nov 11 2026. No macro, syntax, notation, axiom, sorry.
-/
import Derived.Test.YthpmanlglbfcdaaDoorRows
import GoSem.ClaimSeven
namespace Go.Proofs.YthpmanlglbfcdaaDoor
namespace Rows

/-- THE TIED CARD OF 'rosettalaw01.SpanPlaces'. -/
def spanPlacesCard : Claim7 := { stood := { row := spanPlacesRow, standIns := [], harness := (true, "1a8b31fa27f85ac3c87e50ebe5c2fc94dfff7ff34ec55a12b83f783267118118"), looks := false }, kinds := [], alts := [], laidByText := true, laidKinds := [.data, .pinned], laidTests := true, laidLooks := .later }
def SpanPlacesCardSaid : Prop := Claim7.holds Tryd.pinned (.plain (OpenSpec.ofChange spanPlacesSpec)) spanPlacesCard

/-- THE TIED CARD OF 'rosettalaw01.SpanDiff'. -/
def spanDiffCard : Claim7 := { stood := { row := spanDiffRow, standIns := [], harness := (true, "1a8b31fa27f85ac3c87e50ebe5c2fc94dfff7ff34ec55a12b83f783267118118"), looks := false }, kinds := [], alts := [], laidByText := true, laidKinds := [.data, .pinned], laidTests := true, laidLooks := .later }
def SpanDiffCardSaid : Prop := Claim7.holds Tryd.pinned (.plain (OpenSpec.ofChange spanDiffSpec)) spanDiffCard

/-- THE TIED CARD OF 'rosettalaw01.SpanTwice'. -/
def spanTwiceCard : Claim7 := { stood := { row := spanTwiceRow, standIns := [], harness := (true, "1a8b31fa27f85ac3c87e50ebe5c2fc94dfff7ff34ec55a12b83f783267118118"), looks := false }, kinds := [], alts := [], laidByText := true, laidKinds := [.data, .pinned], laidTests := true, laidLooks := .later }
def SpanTwiceCardSaid : Prop := Claim7.holds Tryd.pinned (.plain (OpenSpec.ofChange spanTwiceSpec)) spanTwiceCard

/-- THE TIED CARD OF 'rosettalaw01.SpanLines'. -/
def spanLinesCard : Claim7 := { stood := { row := spanLinesRow, standIns := [], harness := (true, "1a8b31fa27f85ac3c87e50ebe5c2fc94dfff7ff34ec55a12b83f783267118118"), looks := false }, kinds := [], alts := [], laidByText := true, laidKinds := [.data, .pinned], laidTests := true, laidLooks := .later }
def SpanLinesCardSaid : Prop := Claim7.holds Tryd.pinned (.plain (OpenSpec.ofChange spanLinesSpec)) spanLinesCard

/-- THE TIED CARD OF 'rosettalaw01.SpanApply'. -/
def spanApplyCard : Claim7 := { stood := { row := spanApplyRow, standIns := [], harness := (true, "1a8b31fa27f85ac3c87e50ebe5c2fc94dfff7ff34ec55a12b83f783267118118"), looks := false }, kinds := [], alts := [], laidByText := true, laidKinds := [.data, .pinned], laidTests := true, laidLooks := .later }
def SpanApplyCardSaid : Prop := Claim7.holds Tryd.pinned (.plain (OpenSpec.ofChange spanApplySpec)) spanApplyCard

/-- THE TIED CARD OF 'rosettalaw01.SpanLong'. -/
def spanLongCard : Claim7 := { stood := { row := spanLongRow, standIns := [], harness := (true, "1a8b31fa27f85ac3c87e50ebe5c2fc94dfff7ff34ec55a12b83f783267118118"), looks := false }, kinds := [], alts := [], laidByText := true, laidKinds := [.data, .pinned], laidTests := true, laidLooks := .later }
def SpanLongCardSaid : Prop := Claim7.holds Tryd.pinned (.plain (OpenSpec.ofChange spanLongSpec)) spanLongCard

/-- THE SECOND FORM's CARD OF 'rosettalaw01.SpanPlaces'. -/
def spanPlacesUptoCard : Claim7 := { stood := { row := spanPlacesUptoRow, standIns := [], harness := (true, "1a8b31fa27f85ac3c87e50ebe5c2fc94dfff7ff34ec55a12b83f783267118118"), looks := false }, kinds := [], alts := [], laidByText := true, laidKinds := [.data, .pinned], laidTests := true, laidLooks := .later }
def SpanPlacesUptoCardSaid : Prop := Claim7.holds Tryd.pinned (.plain (OpenSpec.upto spanPlacesSpec)) spanPlacesUptoCard

/-- THE SECOND FORM's CARD OF 'rosettalaw01.SpanDiff'. -/
def spanDiffUptoCard : Claim7 := { stood := { row := spanDiffUptoRow, standIns := [], harness := (true, "1a8b31fa27f85ac3c87e50ebe5c2fc94dfff7ff34ec55a12b83f783267118118"), looks := false }, kinds := [], alts := [], laidByText := true, laidKinds := [.data, .pinned], laidTests := true, laidLooks := .later }
def SpanDiffUptoCardSaid : Prop := Claim7.holds Tryd.pinned (.plain (OpenSpec.upto spanDiffSpec)) spanDiffUptoCard

/-- THE SECOND FORM's CARD OF 'rosettalaw01.SpanTwice'. -/
def spanTwiceUptoCard : Claim7 := { stood := { row := spanTwiceUptoRow, standIns := [], harness := (true, "1a8b31fa27f85ac3c87e50ebe5c2fc94dfff7ff34ec55a12b83f783267118118"), looks := false }, kinds := [], alts := [], laidByText := true, laidKinds := [.data, .pinned], laidTests := true, laidLooks := .later }
def SpanTwiceUptoCardSaid : Prop := Claim7.holds Tryd.pinned (.plain (OpenSpec.upto spanTwiceSpec)) spanTwiceUptoCard

/-- THE SECOND FORM's CARD OF 'rosettalaw01.SpanLines'. -/
def spanLinesUptoCard : Claim7 := { stood := { row := spanLinesUptoRow, standIns := [], harness := (true, "1a8b31fa27f85ac3c87e50ebe5c2fc94dfff7ff34ec55a12b83f783267118118"), looks := false }, kinds := [], alts := [], laidByText := true, laidKinds := [.data, .pinned], laidTests := true, laidLooks := .later }
def SpanLinesUptoCardSaid : Prop := Claim7.holds Tryd.pinned (.plain (OpenSpec.upto spanLinesSpec)) spanLinesUptoCard

/-- THE SECOND FORM's CARD OF 'rosettalaw01.SpanApply'. -/
def spanApplyUptoCard : Claim7 := { stood := { row := spanApplyUptoRow, standIns := [], harness := (true, "1a8b31fa27f85ac3c87e50ebe5c2fc94dfff7ff34ec55a12b83f783267118118"), looks := false }, kinds := [], alts := [], laidByText := true, laidKinds := [.data, .pinned], laidTests := true, laidLooks := .later }
def SpanApplyUptoCardSaid : Prop := Claim7.holds Tryd.pinned (.plain (OpenSpec.upto spanApplySpec)) spanApplyUptoCard

/-- THE SECOND FORM's CARD OF 'rosettalaw01.SpanLong'. -/
def spanLongUptoCard : Claim7 := { stood := { row := spanLongUptoRow, standIns := [], harness := (true, "1a8b31fa27f85ac3c87e50ebe5c2fc94dfff7ff34ec55a12b83f783267118118"), looks := false }, kinds := [], alts := [], laidByText := true, laidKinds := [.data, .pinned], laidTests := true, laidLooks := .later }
def SpanLongUptoCardSaid : Prop := Claim7.holds Tryd.pinned (.plain (OpenSpec.upto spanLongSpec)) spanLongUptoCard
end Rows
end Go.Proofs.YthpmanlglbfcdaaDoor
