/-
  NARROWER THAN 'FOR EVERY INPUT', by the rows' own cells (each row's printed sentence says how): SpanPlaces: laid · SpanDiff: laid · SpanTwice: laid · SpanLines: laid · SpanApply: laid · SpanLong: laid.
  DERIVED. THE GIVEN ROWS OF THIS SEAT. 6 by the template 'for every input the law returns true; each argument reads behind the call as it read before'; 0 by the template 'total and deterministic' (their statements: YthpmanlglbfcdaaDoorTotals.lean).
  GIVEN WITH THE SEED: the statements are not yours to turn. If you find one false, say at which input.
  Laid BY PROGRAM, IN A SANDBOX (cutbox-rows.mjs): the forced cells as the released guide's own fill.sh prints them over the translation c536d9222d80ee08… (all of the seat's roots in one cut). By AI agents, Wed Nov 11 2026. No macro, syntax, notation, axiom, sorry.
-/
import Derived.Test.YthpmanlglbfcdaaDoorChecked
import GoSem.PinnedTables
import GoSem.Claim
import GoSem.ClaimJoined
import GoSem.ClaimMapViews
import Derived.JoinedTies
import Derived.KernelRfl
namespace Go.Proofs.YthpmanlglbfcdaaDoor
/- THE CELL 'sum', in the pinned program and in every row, IS THE sha256 OF THE DUMP (.gsa) THAT YthpmanlglbfcdaaDoorProg.lean LOADS. Nothing in Lean hashes anything: it is a label: what it is worth is what the hold of that sum in a sandbox is worth. -/
noncomputable def Tryd.pinned : Pinned := { name := "ythpmanlglbfcdaadoor", sum := "c536d9222d80ee08009e420543f2d3fec3dbc6b80124788a3d559e3d9a86c621", checked := Tryd.checked }
namespace Rows
def none {H : Type} : Left H := { results := [], args := [] }

/- WHAT THE LISTED PACKAGE-LEVEL VARIABLES READ AS WHEN THE CALL BEGINS. Each datum BY PROGRAM (the guide's laid-datum.mjs) off the statement by which the dump's own 'gosem.cut.vars' lays the variable. In a bare row this is a premise. The card (YthpmanlglbfcdaaDoorCards.lean) ties it to the program's text. -/
def laid_unicode_utf8_acceptRanges {H : Type} : DataW H := .agg [.agg [.lit (.int .u8 128), .lit (.int .u8 191)], .agg [.lit (.int .u8 160), .lit (.int .u8 191)], .agg [.lit (.int .u8 128), .lit (.int .u8 159)], .agg [.lit (.int .u8 144), .lit (.int .u8 191)], .agg [.lit (.int .u8 128), .lit (.int .u8 143)], .agg [.lit (.int .u8 0), .lit (.int .u8 0)], .agg [.lit (.int .u8 0), .lit (.int .u8 0)], .agg [.lit (.int .u8 0), .lit (.int .u8 0)], .agg [.lit (.int .u8 0), .lit (.int .u8 0)], .agg [.lit (.int .u8 0), .lit (.int .u8 0)], .agg [.lit (.int .u8 0), .lit (.int .u8 0)], .agg [.lit (.int .u8 0), .lit (.int .u8 0)], .agg [.lit (.int .u8 0), .lit (.int .u8 0)], .agg [.lit (.int .u8 0), .lit (.int .u8 0)], .agg [.lit (.int .u8 0), .lit (.int .u8 0)], .agg [.lit (.int .u8 0), .lit (.int .u8 0)]]
/-- One of Go's own tables, pinned by name: the form's constant. -/
def laid_unicode_utf8_first : DataW Unit := Go.Pinned.utf8First

/-- 'rosettalaw01.SpanPlaces': WHATEVER THE INPUT: true; the input reads as it did. -/
def spanPlacesSpec : ChangeSpec := { name := "spanPlaces", fn := fun _ => fun
  | [d1, d2, d3] => { results := [.lit (.bool true)], args := [d1, d2, d3] }
  | _ => none }
def spanPlacesRow : OpenClaim := { program := "ythpmanlglbfcdaadoor", sum := "c536d9222d80ee08009e420543f2d3fec3dbc6b80124788a3d559e3d9a86c621", func := "rosetta/rosettalaw01.SpanPlaces", spec := "spanPlaces", inPlace := ["internal/bytealg.CountString", "internal/bytealg.IndexByteString", "internal/bytealg.IndexString", "internal/abi.NoEscape"], unfollowed := true, recurses := true, named := ["internal/bytealg.MaxLen", "unicode/utf8.first", "unicode/utf8.acceptRanges"], apart := false, laid := [("unicode/utf8.acceptRanges", laid_unicode_utf8_acceptRanges), ("unicode/utf8.first", laid_unicode_utf8_first)] }
def SpanPlacesSaid : Prop := spanPlacesRow.holds Tryd.pinned (OpenSpec.ofChange spanPlacesSpec)

/-- ITS FALSE NEIGHBOUR: 'it returns false'. Refute it at one input. -/
def spanPlacesWrong : ChangeSpec := { name := "spanPlaces", fn := fun _ => fun
  | [d1, d2, d3] => { results := [.lit (.bool false)], args := [d1, d2, d3] }
  | _ => none }
def SpanPlacesWrongFalsely : Prop := spanPlacesRow.holds Tryd.pinned (OpenSpec.ofChange spanPlacesWrong)

/-- 'rosettalaw01.SpanDiff': WHATEVER THE INPUT: true; the input reads as it did. -/
def spanDiffSpec : ChangeSpec := { name := "spanDiff", fn := fun _ => fun
  | [d1, d2] => { results := [.lit (.bool true)], args := [d1, d2] }
  | _ => none }
def spanDiffRow : OpenClaim := { program := "ythpmanlglbfcdaadoor", sum := "c536d9222d80ee08009e420543f2d3fec3dbc6b80124788a3d559e3d9a86c621", func := "rosetta/rosettalaw01.SpanDiff", spec := "spanDiff", inPlace := ["internal/bytealg.CountString", "internal/bytealg.IndexByteString", "internal/bytealg.IndexString", "internal/abi.NoEscape"], unfollowed := true, recurses := true, named := ["internal/bytealg.MaxLen", "unicode/utf8.first", "unicode/utf8.acceptRanges"], apart := false, laid := [("unicode/utf8.acceptRanges", laid_unicode_utf8_acceptRanges), ("unicode/utf8.first", laid_unicode_utf8_first)] }
def SpanDiffSaid : Prop := spanDiffRow.holds Tryd.pinned (OpenSpec.ofChange spanDiffSpec)

/-- ITS FALSE NEIGHBOUR: 'it returns false'. Refute it at one input. -/
def spanDiffWrong : ChangeSpec := { name := "spanDiff", fn := fun _ => fun
  | [d1, d2] => { results := [.lit (.bool false)], args := [d1, d2] }
  | _ => none }
def SpanDiffWrongFalsely : Prop := spanDiffRow.holds Tryd.pinned (OpenSpec.ofChange spanDiffWrong)

/-- 'rosettalaw01.SpanTwice': WHATEVER THE INPUT: true; the input reads as it did. -/
def spanTwiceSpec : ChangeSpec := { name := "spanTwice", fn := fun _ => fun
  | [d1, d2] => { results := [.lit (.bool true)], args := [d1, d2] }
  | _ => none }
def spanTwiceRow : OpenClaim := { program := "ythpmanlglbfcdaadoor", sum := "c536d9222d80ee08009e420543f2d3fec3dbc6b80124788a3d559e3d9a86c621", func := "rosetta/rosettalaw01.SpanTwice", spec := "spanTwice", inPlace := ["internal/bytealg.CountString", "internal/bytealg.IndexByteString", "internal/bytealg.IndexString", "internal/abi.NoEscape"], unfollowed := true, recurses := true, named := ["internal/bytealg.MaxLen", "unicode/utf8.first", "unicode/utf8.acceptRanges"], apart := false, laid := [("unicode/utf8.acceptRanges", laid_unicode_utf8_acceptRanges), ("unicode/utf8.first", laid_unicode_utf8_first)] }
def SpanTwiceSaid : Prop := spanTwiceRow.holds Tryd.pinned (OpenSpec.ofChange spanTwiceSpec)

/-- ITS FALSE NEIGHBOUR: 'it returns false'. Refute it at one input. -/
def spanTwiceWrong : ChangeSpec := { name := "spanTwice", fn := fun _ => fun
  | [d1, d2] => { results := [.lit (.bool false)], args := [d1, d2] }
  | _ => none }
def SpanTwiceWrongFalsely : Prop := spanTwiceRow.holds Tryd.pinned (OpenSpec.ofChange spanTwiceWrong)

/-- 'rosettalaw01.SpanLines': WHATEVER THE INPUT: true; the input reads as it did. -/
def spanLinesSpec : ChangeSpec := { name := "spanLines", fn := fun _ => fun
  | [d1, d2] => { results := [.lit (.bool true)], args := [d1, d2] }
  | _ => none }
def spanLinesRow : OpenClaim := { program := "ythpmanlglbfcdaadoor", sum := "c536d9222d80ee08009e420543f2d3fec3dbc6b80124788a3d559e3d9a86c621", func := "rosetta/rosettalaw01.SpanLines", spec := "spanLines", inPlace := ["internal/bytealg.CountString", "internal/bytealg.IndexByteString", "internal/bytealg.IndexString", "internal/abi.NoEscape"], unfollowed := true, recurses := true, named := ["internal/bytealg.MaxLen", "unicode/utf8.first", "unicode/utf8.acceptRanges"], apart := false, laid := [("unicode/utf8.acceptRanges", laid_unicode_utf8_acceptRanges), ("unicode/utf8.first", laid_unicode_utf8_first)] }
def SpanLinesSaid : Prop := spanLinesRow.holds Tryd.pinned (OpenSpec.ofChange spanLinesSpec)

/-- ITS FALSE NEIGHBOUR: 'it returns false'. Refute it at one input. -/
def spanLinesWrong : ChangeSpec := { name := "spanLines", fn := fun _ => fun
  | [d1, d2] => { results := [.lit (.bool false)], args := [d1, d2] }
  | _ => none }
def SpanLinesWrongFalsely : Prop := spanLinesRow.holds Tryd.pinned (OpenSpec.ofChange spanLinesWrong)

/-- 'rosettalaw01.SpanApply': WHATEVER THE INPUT: true; the input reads as it did. -/
def spanApplySpec : ChangeSpec := { name := "spanApply", fn := fun _ => fun
  | [d1, d2] => { results := [.lit (.bool true)], args := [d1, d2] }
  | _ => none }
def spanApplyRow : OpenClaim := { program := "ythpmanlglbfcdaadoor", sum := "c536d9222d80ee08009e420543f2d3fec3dbc6b80124788a3d559e3d9a86c621", func := "rosetta/rosettalaw01.SpanApply", spec := "spanApply", inPlace := ["internal/bytealg.CountString", "internal/bytealg.IndexByteString", "internal/bytealg.IndexString", "internal/abi.NoEscape"], unfollowed := true, recurses := true, named := ["internal/bytealg.MaxLen", "unicode/utf8.first", "unicode/utf8.acceptRanges"], apart := false, laid := [("unicode/utf8.acceptRanges", laid_unicode_utf8_acceptRanges), ("unicode/utf8.first", laid_unicode_utf8_first)] }
def SpanApplySaid : Prop := spanApplyRow.holds Tryd.pinned (OpenSpec.ofChange spanApplySpec)

/-- ITS FALSE NEIGHBOUR: 'it returns false'. Refute it at one input. -/
def spanApplyWrong : ChangeSpec := { name := "spanApply", fn := fun _ => fun
  | [d1, d2] => { results := [.lit (.bool false)], args := [d1, d2] }
  | _ => none }
def SpanApplyWrongFalsely : Prop := spanApplyRow.holds Tryd.pinned (OpenSpec.ofChange spanApplyWrong)

/-- 'rosettalaw01.SpanLong': WHATEVER THE INPUT: true; the input reads as it did. -/
def spanLongSpec : ChangeSpec := { name := "spanLong", fn := fun _ => fun
  | [d1, d2] => { results := [.lit (.bool true)], args := [d1, d2] }
  | _ => none }
def spanLongRow : OpenClaim := { program := "ythpmanlglbfcdaadoor", sum := "c536d9222d80ee08009e420543f2d3fec3dbc6b80124788a3d559e3d9a86c621", func := "rosetta/rosettalaw01.SpanLong", spec := "spanLong", inPlace := ["internal/bytealg.CountString", "internal/bytealg.IndexByteString", "internal/bytealg.IndexString", "internal/abi.NoEscape", "internal/bytealg.MakeNoZero"], unfollowed := true, recurses := true, named := ["internal/bytealg.MaxLen", "unicode/utf8.first", "unicode/utf8.acceptRanges"], apart := false, laid := [("unicode/utf8.acceptRanges", laid_unicode_utf8_acceptRanges), ("unicode/utf8.first", laid_unicode_utf8_first)] }
def SpanLongSaid : Prop := spanLongRow.holds Tryd.pinned (OpenSpec.ofChange spanLongSpec)

/-- ITS FALSE NEIGHBOUR: 'it returns false'. Refute it at one input. -/
def spanLongWrong : ChangeSpec := { name := "spanLong", fn := fun _ => fun
  | [d1, d2] => { results := [.lit (.bool false)], args := [d1, d2] }
  | _ => none }
def SpanLongWrongFalsely : Prop := spanLongRow.holds Tryd.pinned (OpenSpec.ofChange spanLongWrong)

/- THE SECOND FORM. 'bulk': how many values and letters a reading holds, each counted each time it is reached (what is shared counts as often as it is met; a slice's spare places count too). A statement '..UptoSaid' is the law's where the arguments, and the package variables that the reading takes, are together of bulk at most 1048576: NARROWER than '..Said'. Prove '..Said' where nothing that the law and all that it calls make is longer than what came in: it says more and counts as full. Else prove '..UptoSaid'. A law counts once. -/
mutual
def uptoBulk {H : Type} : DataW H → Nat
  | .lit (.string bytes) => bytes.length + 1
  | .lit _ => 1
  | .nil => 1
  | .ptr d => uptoBulk d + 1
  | .slice elems spare => uptoBulkAll elems + uptoBulkAll spare + 1
  | .agg parts => uptoBulkAll parts + 1
  | .iface _ d => uptoBulk d + 1
  | .map entries => uptoBulkEntries entries + 1
  | .held _ => 1
def uptoBulkAll {H : Type} : List (DataW H) → Nat
  | [] => 0
  | d :: r => uptoBulk d + uptoBulkAll r
def uptoBulkEntries {H : Type} : List (Lit × DataW H) → Nat
  | [] => 0
  | x :: r => uptoBulkEntry x + uptoBulkEntries r
def uptoBulkEntry {H : Type} : Lit × DataW H → Nat
  | (.string bytes, d) => bytes.length + uptoBulk d + 1
  | (_, d) => uptoBulk d + 1
 end
def uptoSmall : (H : Type) → List (DataW H) → Bool := fun _ ds => decide (uptoBulkAll ds ≤ 1048576)
def OpenSpec.upto (s : _root_.Go.ChangeSpec) : _root_.Go.OpenSpec := { _root_.Go.OpenSpec.ofChange s with cond := some uptoSmall }

/-- 'rosettalaw01.SpanPlaces', WHERE WHAT IT READS IS OF BULK AT MOST 1048576: true; the input reads as it did. -/
def spanPlacesUptoRow : OpenClaim := { program := "ythpmanlglbfcdaadoor", sum := "c536d9222d80ee08009e420543f2d3fec3dbc6b80124788a3d559e3d9a86c621", func := "rosetta/rosettalaw01.SpanPlaces", spec := "spanPlaces", inPlace := ["internal/bytealg.CountString", "internal/bytealg.IndexByteString", "internal/bytealg.IndexString", "internal/abi.NoEscape"], unfollowed := true, recurses := true, named := ["internal/bytealg.MaxLen", "unicode/utf8.first", "unicode/utf8.acceptRanges"], apart := false, laid := [("unicode/utf8.acceptRanges", laid_unicode_utf8_acceptRanges), ("unicode/utf8.first", laid_unicode_utf8_first)], narrowed := true }
def SpanPlacesUptoSaid : Prop := spanPlacesUptoRow.holds Tryd.pinned (OpenSpec.upto spanPlacesSpec)

/-- 'rosettalaw01.SpanDiff', WHERE WHAT IT READS IS OF BULK AT MOST 1048576: true; the input reads as it did. -/
def spanDiffUptoRow : OpenClaim := { program := "ythpmanlglbfcdaadoor", sum := "c536d9222d80ee08009e420543f2d3fec3dbc6b80124788a3d559e3d9a86c621", func := "rosetta/rosettalaw01.SpanDiff", spec := "spanDiff", inPlace := ["internal/bytealg.CountString", "internal/bytealg.IndexByteString", "internal/bytealg.IndexString", "internal/abi.NoEscape"], unfollowed := true, recurses := true, named := ["internal/bytealg.MaxLen", "unicode/utf8.first", "unicode/utf8.acceptRanges"], apart := false, laid := [("unicode/utf8.acceptRanges", laid_unicode_utf8_acceptRanges), ("unicode/utf8.first", laid_unicode_utf8_first)], narrowed := true }
def SpanDiffUptoSaid : Prop := spanDiffUptoRow.holds Tryd.pinned (OpenSpec.upto spanDiffSpec)

/-- 'rosettalaw01.SpanTwice', WHERE WHAT IT READS IS OF BULK AT MOST 1048576: true; the input reads as it did. -/
def spanTwiceUptoRow : OpenClaim := { program := "ythpmanlglbfcdaadoor", sum := "c536d9222d80ee08009e420543f2d3fec3dbc6b80124788a3d559e3d9a86c621", func := "rosetta/rosettalaw01.SpanTwice", spec := "spanTwice", inPlace := ["internal/bytealg.CountString", "internal/bytealg.IndexByteString", "internal/bytealg.IndexString", "internal/abi.NoEscape"], unfollowed := true, recurses := true, named := ["internal/bytealg.MaxLen", "unicode/utf8.first", "unicode/utf8.acceptRanges"], apart := false, laid := [("unicode/utf8.acceptRanges", laid_unicode_utf8_acceptRanges), ("unicode/utf8.first", laid_unicode_utf8_first)], narrowed := true }
def SpanTwiceUptoSaid : Prop := spanTwiceUptoRow.holds Tryd.pinned (OpenSpec.upto spanTwiceSpec)

/-- 'rosettalaw01.SpanLines', WHERE WHAT IT READS IS OF BULK AT MOST 1048576: true; the input reads as it did. -/
def spanLinesUptoRow : OpenClaim := { program := "ythpmanlglbfcdaadoor", sum := "c536d9222d80ee08009e420543f2d3fec3dbc6b80124788a3d559e3d9a86c621", func := "rosetta/rosettalaw01.SpanLines", spec := "spanLines", inPlace := ["internal/bytealg.CountString", "internal/bytealg.IndexByteString", "internal/bytealg.IndexString", "internal/abi.NoEscape"], unfollowed := true, recurses := true, named := ["internal/bytealg.MaxLen", "unicode/utf8.first", "unicode/utf8.acceptRanges"], apart := false, laid := [("unicode/utf8.acceptRanges", laid_unicode_utf8_acceptRanges), ("unicode/utf8.first", laid_unicode_utf8_first)], narrowed := true }
def SpanLinesUptoSaid : Prop := spanLinesUptoRow.holds Tryd.pinned (OpenSpec.upto spanLinesSpec)

/-- 'rosettalaw01.SpanApply', WHERE WHAT IT READS IS OF BULK AT MOST 1048576: true; the input reads as it did. -/
def spanApplyUptoRow : OpenClaim := { program := "ythpmanlglbfcdaadoor", sum := "c536d9222d80ee08009e420543f2d3fec3dbc6b80124788a3d559e3d9a86c621", func := "rosetta/rosettalaw01.SpanApply", spec := "spanApply", inPlace := ["internal/bytealg.CountString", "internal/bytealg.IndexByteString", "internal/bytealg.IndexString", "internal/abi.NoEscape"], unfollowed := true, recurses := true, named := ["internal/bytealg.MaxLen", "unicode/utf8.first", "unicode/utf8.acceptRanges"], apart := false, laid := [("unicode/utf8.acceptRanges", laid_unicode_utf8_acceptRanges), ("unicode/utf8.first", laid_unicode_utf8_first)], narrowed := true }
def SpanApplyUptoSaid : Prop := spanApplyUptoRow.holds Tryd.pinned (OpenSpec.upto spanApplySpec)

/-- 'rosettalaw01.SpanLong', WHERE WHAT IT READS IS OF BULK AT MOST 1048576: true; the input reads as it did. -/
def spanLongUptoRow : OpenClaim := { program := "ythpmanlglbfcdaadoor", sum := "c536d9222d80ee08009e420543f2d3fec3dbc6b80124788a3d559e3d9a86c621", func := "rosetta/rosettalaw01.SpanLong", spec := "spanLong", inPlace := ["internal/bytealg.CountString", "internal/bytealg.IndexByteString", "internal/bytealg.IndexString", "internal/abi.NoEscape", "internal/bytealg.MakeNoZero"], unfollowed := true, recurses := true, named := ["internal/bytealg.MaxLen", "unicode/utf8.first", "unicode/utf8.acceptRanges"], apart := false, laid := [("unicode/utf8.acceptRanges", laid_unicode_utf8_acceptRanges), ("unicode/utf8.first", laid_unicode_utf8_first)], narrowed := true }
def SpanLongUptoSaid : Prop := spanLongUptoRow.holds Tryd.pinned (OpenSpec.upto spanLongSpec)

end Rows
end Go.Proofs.YthpmanlglbfcdaaDoor
