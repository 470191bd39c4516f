/-
  No cell of these rows narrows 'for every input' (looked for: loops, veiled, ifaces, maps, wideKeys, modest, calm, conditions, laid).
  DERIVED. THE GIVEN ROWS OF THIS SEAT. 5 by the template 'for every input the law returns true; each argument reads behind the call as it read before'; 0 by the template 'total and deterministic' (their statements: YtekoieoheaddgaaTotals.lean).
  GIVEN WITH THE SEED: the statements are not yours to turn. If you find one false, say at which input.
  Laid BY PROGRAM, IN A SANDBOX (cutbox-rows.mjs): the forced cells as the released guide's own fill.sh prints them over the translation 9576bc2cda162c2f… (all of the seat's roots in one cut). By AI agents, Wed Nov 11 2026. No macro, syntax, notation, axiom, sorry.
-/
import Derived.Test.YtekoieoheaddgaaChecked
import GoSem.Claim
import GoSem.ClaimJoined
import GoSem.ClaimMapViews
import Derived.JoinedTies
import Derived.KernelRfl
namespace Go.Proofs.Ytekoieoheaddgaa
/- THE CELL 'sum', in the pinned program and in every row, IS THE sha256 OF THE DUMP (.gsa) THAT YtekoieoheaddgaaProg.lean LOADS. Nothing in Lean hashes anything: it is a label: what it is worth is what the hold of that sum in a sandbox is worth. -/
noncomputable def Try.pinned : Pinned := { name := "ytekoieoheaddgaa", sum := "9576bc2cda162c2ff8c5d6e67d62dd31c0a2dba06cb6ef84b5e28e186b236e3a", checked := Try.checked }
namespace Rows
def none {H : Type} : Left H := { results := [], args := [] }

/-- 'rosettalaw12.FiltersFilter': WHATEVER THE INPUT: true; the input reads as it did. -/
def filtersFilterSpec : ChangeSpec := { name := "filtersFilter", fn := fun _ => fun
  | [d1, d2, d3] => { results := [.lit (.bool true)], args := [d1, d2, d3] }
  | _ => none }
def filtersFilterRow : OpenClaim := { program := "ytekoieoheaddgaa", sum := "9576bc2cda162c2ff8c5d6e67d62dd31c0a2dba06cb6ef84b5e28e186b236e3a", func := "rosetta/rosettalaw12.FiltersFilter", spec := "filtersFilter", unfollowed := true, recurses := true, plainKeys := false, apart := false }
def FiltersFilterSaid : Prop := filtersFilterRow.holds Try.pinned (OpenSpec.ofChange filtersFilterSpec)

/-- ITS FALSE NEIGHBOUR: 'it returns false'. Refute it at one input. -/
def filtersFilterWrong : ChangeSpec := { name := "filtersFilter", fn := fun _ => fun
  | [d1, d2, d3] => { results := [.lit (.bool false)], args := [d1, d2, d3] }
  | _ => none }
def FiltersFilterWrongFalsely : Prop := filtersFilterRow.holds Try.pinned (OpenSpec.ofChange filtersFilterWrong)

/-- 'rosettalaw12.FiltersAsk': WHATEVER THE INPUT: true; the input reads as it did. -/
def filtersAskSpec : ChangeSpec := { name := "filtersAsk", fn := fun _ => fun
  | [d1, d2, d3] => { results := [.lit (.bool true)], args := [d1, d2, d3] }
  | _ => none }
def filtersAskRow : OpenClaim := { program := "ytekoieoheaddgaa", sum := "9576bc2cda162c2ff8c5d6e67d62dd31c0a2dba06cb6ef84b5e28e186b236e3a", func := "rosetta/rosettalaw12.FiltersAsk", spec := "filtersAsk", unfollowed := true, recurses := true, plainKeys := false, apart := false }
def FiltersAskSaid : Prop := filtersAskRow.holds Try.pinned (OpenSpec.ofChange filtersAskSpec)

/-- ITS FALSE NEIGHBOUR: 'it returns false'. Refute it at one input. -/
def filtersAskWrong : ChangeSpec := { name := "filtersAsk", fn := fun _ => fun
  | [d1, d2, d3] => { results := [.lit (.bool false)], args := [d1, d2, d3] }
  | _ => none }
def FiltersAskWrongFalsely : Prop := filtersAskRow.holds Try.pinned (OpenSpec.ofChange filtersAskWrong)

/-- 'rosettalaw12.FiltersKeep': WHATEVER THE INPUT: true; the input reads as it did. -/
def filtersKeepSpec : ChangeSpec := { name := "filtersKeep", fn := fun _ => fun
  | [d1, d2] => { results := [.lit (.bool true)], args := [d1, d2] }
  | _ => none }
def filtersKeepRow : OpenClaim := { program := "ytekoieoheaddgaa", sum := "9576bc2cda162c2ff8c5d6e67d62dd31c0a2dba06cb6ef84b5e28e186b236e3a", func := "rosetta/rosettalaw12.FiltersKeep", spec := "filtersKeep", unfollowed := true, recurses := true, plainKeys := false, apart := false }
def FiltersKeepSaid : Prop := filtersKeepRow.holds Try.pinned (OpenSpec.ofChange filtersKeepSpec)

/-- ITS FALSE NEIGHBOUR: 'it returns false'. Refute it at one input. -/
def filtersKeepWrong : ChangeSpec := { name := "filtersKeep", fn := fun _ => fun
  | [d1, d2] => { results := [.lit (.bool false)], args := [d1, d2] }
  | _ => none }
def FiltersKeepWrongFalsely : Prop := filtersKeepRow.holds Try.pinned (OpenSpec.ofChange filtersKeepWrong)

/-- 'rosettalaw12.FiltersBad': WHATEVER THE INPUT: true; the input reads as it did. -/
def filtersBadSpec : ChangeSpec := { name := "filtersBad", fn := fun _ => fun
  | [d1, d2, d3] => { results := [.lit (.bool true)], args := [d1, d2, d3] }
  | _ => none }
def filtersBadRow : OpenClaim := { program := "ytekoieoheaddgaa", sum := "9576bc2cda162c2ff8c5d6e67d62dd31c0a2dba06cb6ef84b5e28e186b236e3a", func := "rosetta/rosettalaw12.FiltersBad", spec := "filtersBad", unfollowed := true, recurses := true, plainKeys := false, apart := false }
def FiltersBadSaid : Prop := filtersBadRow.holds Try.pinned (OpenSpec.ofChange filtersBadSpec)

/-- ITS FALSE NEIGHBOUR: 'it returns false'. Refute it at one input. -/
def filtersBadWrong : ChangeSpec := { name := "filtersBad", fn := fun _ => fun
  | [d1, d2, d3] => { results := [.lit (.bool false)], args := [d1, d2, d3] }
  | _ => none }
def FiltersBadWrongFalsely : Prop := filtersBadRow.holds Try.pinned (OpenSpec.ofChange filtersBadWrong)

/-- 'rosettalaw12.FiltersTwice': WHATEVER THE INPUT: true; the input reads as it did. -/
def filtersTwiceSpec : ChangeSpec := { name := "filtersTwice", fn := fun _ => fun
  | [d1, d2] => { results := [.lit (.bool true)], args := [d1, d2] }
  | _ => none }
def filtersTwiceRow : OpenClaim := { program := "ytekoieoheaddgaa", sum := "9576bc2cda162c2ff8c5d6e67d62dd31c0a2dba06cb6ef84b5e28e186b236e3a", func := "rosetta/rosettalaw12.FiltersTwice", spec := "filtersTwice", unfollowed := true, recurses := true, plainKeys := false, apart := false }
def FiltersTwiceSaid : Prop := filtersTwiceRow.holds Try.pinned (OpenSpec.ofChange filtersTwiceSpec)

/-- ITS FALSE NEIGHBOUR: 'it returns false'. Refute it at one input. -/
def filtersTwiceWrong : ChangeSpec := { name := "filtersTwice", fn := fun _ => fun
  | [d1, d2] => { results := [.lit (.bool false)], args := [d1, d2] }
  | _ => none }
def FiltersTwiceWrongFalsely : Prop := filtersTwiceRow.holds Try.pinned (OpenSpec.ofChange filtersTwiceWrong)

/- THE SECOND FORM. 'bulk': how many values and letters a reading holds, each counted each time it is reached (what is shared counts as often as it is met; a slice's spare places count too). A statement '..UptoSaid' is the law's where the arguments, and the package variables that the reading takes, are together of bulk at most 1048576: NARROWER than '..Said'. Prove '..Said' where nothing that the law and all that it calls make is longer than what came in: it says more and counts as full. Else prove '..UptoSaid'. A law counts once. -/
mutual
def uptoBulk {H : Type} : DataW H → Nat
  | .lit (.string bytes) => bytes.length + 1
  | .lit _ => 1
  | .nil => 1
  | .ptr d => uptoBulk d + 1
  | .slice elems spare => uptoBulkAll elems + uptoBulkAll spare + 1
  | .agg parts => uptoBulkAll parts + 1
  | .iface _ d => uptoBulk d + 1
  | .map entries => uptoBulkEntries entries + 1
  | .held _ => 1
def uptoBulkAll {H : Type} : List (DataW H) → Nat
  | [] => 0
  | d :: r => uptoBulk d + uptoBulkAll r
def uptoBulkEntries {H : Type} : List (Lit × DataW H) → Nat
  | [] => 0
  | x :: r => uptoBulkEntry x + uptoBulkEntries r
def uptoBulkEntry {H : Type} : Lit × DataW H → Nat
  | (.string bytes, d) => bytes.length + uptoBulk d + 1
  | (_, d) => uptoBulk d + 1
 end
def uptoSmall : (H : Type) → List (DataW H) → Bool := fun _ ds => decide (uptoBulkAll ds ≤ 1048576)
def OpenSpec.upto (s : _root_.Go.ChangeSpec) : _root_.Go.OpenSpec := { _root_.Go.OpenSpec.ofChange s with cond := some uptoSmall }

/-- 'rosettalaw12.FiltersFilter', WHERE WHAT IT READS IS OF BULK AT MOST 1048576: true; the input reads as it did. -/
def filtersFilterUptoRow : OpenClaim := { program := "ytekoieoheaddgaa", sum := "9576bc2cda162c2ff8c5d6e67d62dd31c0a2dba06cb6ef84b5e28e186b236e3a", func := "rosetta/rosettalaw12.FiltersFilter", spec := "filtersFilter", unfollowed := true, recurses := true, plainKeys := false, apart := false, narrowed := true }
def FiltersFilterUptoSaid : Prop := filtersFilterUptoRow.holds Try.pinned (OpenSpec.upto filtersFilterSpec)

/-- 'rosettalaw12.FiltersAsk', WHERE WHAT IT READS IS OF BULK AT MOST 1048576: true; the input reads as it did. -/
def filtersAskUptoRow : OpenClaim := { program := "ytekoieoheaddgaa", sum := "9576bc2cda162c2ff8c5d6e67d62dd31c0a2dba06cb6ef84b5e28e186b236e3a", func := "rosetta/rosettalaw12.FiltersAsk", spec := "filtersAsk", unfollowed := true, recurses := true, plainKeys := false, apart := false, narrowed := true }
def FiltersAskUptoSaid : Prop := filtersAskUptoRow.holds Try.pinned (OpenSpec.upto filtersAskSpec)

/-- 'rosettalaw12.FiltersKeep', WHERE WHAT IT READS IS OF BULK AT MOST 1048576: true; the input reads as it did. -/
def filtersKeepUptoRow : OpenClaim := { program := "ytekoieoheaddgaa", sum := "9576bc2cda162c2ff8c5d6e67d62dd31c0a2dba06cb6ef84b5e28e186b236e3a", func := "rosetta/rosettalaw12.FiltersKeep", spec := "filtersKeep", unfollowed := true, recurses := true, plainKeys := false, apart := false, narrowed := true }
def FiltersKeepUptoSaid : Prop := filtersKeepUptoRow.holds Try.pinned (OpenSpec.upto filtersKeepSpec)

/-- 'rosettalaw12.FiltersBad', WHERE WHAT IT READS IS OF BULK AT MOST 1048576: true; the input reads as it did. -/
def filtersBadUptoRow : OpenClaim := { program := "ytekoieoheaddgaa", sum := "9576bc2cda162c2ff8c5d6e67d62dd31c0a2dba06cb6ef84b5e28e186b236e3a", func := "rosetta/rosettalaw12.FiltersBad", spec := "filtersBad", unfollowed := true, recurses := true, plainKeys := false, apart := false, narrowed := true }
def FiltersBadUptoSaid : Prop := filtersBadUptoRow.holds Try.pinned (OpenSpec.upto filtersBadSpec)

/-- 'rosettalaw12.FiltersTwice', WHERE WHAT IT READS IS OF BULK AT MOST 1048576: true; the input reads as it did. -/
def filtersTwiceUptoRow : OpenClaim := { program := "ytekoieoheaddgaa", sum := "9576bc2cda162c2ff8c5d6e67d62dd31c0a2dba06cb6ef84b5e28e186b236e3a", func := "rosetta/rosettalaw12.FiltersTwice", spec := "filtersTwice", unfollowed := true, recurses := true, plainKeys := false, apart := false, narrowed := true }
def FiltersTwiceUptoSaid : Prop := filtersTwiceUptoRow.holds Try.pinned (OpenSpec.upto filtersTwiceSpec)

end Rows
end Go.Proofs.Ytekoieoheaddgaa
