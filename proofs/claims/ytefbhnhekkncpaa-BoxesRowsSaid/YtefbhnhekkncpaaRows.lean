/-
  NARROWER THAN 'FOR EVERY INPUT', by the rows' own cells (each row's printed sentence says how): BoxesSame: loops · BoxesRows: loops.
  DERIVED. THE GIVEN ROWS OF THIS SEAT. 2 by the template 'for every input the law returns true; each argument reads behind the call as it read before'; 0 by the template 'total and deterministic' (their statements: YtefbhnhekkncpaaTotals.lean).
  GIVEN WITH THE SEED: the statements are not yours to turn. If you find one false, say at which input.
  Laid BY PROGRAM, IN A SANDBOX (cutbox-rows.mjs): the forced cells as the released guide's own fill.sh prints them over the translation 2d20d5158cd3c941… (all of the seat's roots in one cut). By AI agents, Wed Nov 11 2026. No macro, syntax, notation, axiom, sorry.
-/
import Derived.Test.YtefbhnhekkncpaaChecked
import GoSem.Claim
import GoSem.ClaimJoined
import GoSem.ClaimMapViews
import Derived.JoinedTies
import Derived.KernelRfl
namespace Go.Proofs.Ytefbhnhekkncpaa
/- THE CELL 'sum', in the pinned program and in every row, IS THE sha256 OF THE DUMP (.gsa) THAT YtefbhnhekkncpaaProg.lean LOADS. Nothing in Lean hashes anything: it is a label: what it is worth is what the hold of that sum in a sandbox is worth. -/
noncomputable def Try.pinned : Pinned := { name := "ytefbhnhekkncpaa", sum := "2d20d5158cd3c94169cf4e2ed23d369ad0f90a365588aa7304f13d1bd98d75a7", checked := Try.checked }
namespace Rows
def none {H : Type} : Left H := { results := [], args := [] }

/-- 'rosettalaw16.BoxesSame': WHATEVER THE INPUT: true; the input reads as it did. -/
def boxesSameSpec : ChangeSpec := { name := "boxesSame", fn := fun _ => fun
  | [d1, d2, d3] => { results := [.lit (.bool true)], args := [d1, d2, d3] }
  | _ => none }
def boxesSameRow : OpenClaim := { program := "ytefbhnhekkncpaa", sum := "2d20d5158cd3c94169cf4e2ed23d369ad0f90a365588aa7304f13d1bd98d75a7", func := "rosetta/rosettalaw16.BoxesSame", spec := "boxesSame", inPlace := ["internal/bytealg.IndexByteString", "internal/bytealg.IndexString", "internal/abi.NoEscape", "internal/bytealg.MakeNoZero"], unfollowed := true, recurses := true, named := ["internal/bytealg.MaxLen"], loops := true, apart := false }
def BoxesSameSaid : Prop := boxesSameRow.holds Try.pinned (OpenSpec.ofChange boxesSameSpec)

/-- ITS FALSE NEIGHBOUR: 'it returns false'. Refute it at one input. -/
def boxesSameWrong : ChangeSpec := { name := "boxesSame", fn := fun _ => fun
  | [d1, d2, d3] => { results := [.lit (.bool false)], args := [d1, d2, d3] }
  | _ => none }
def BoxesSameWrongFalsely : Prop := boxesSameRow.holds Try.pinned (OpenSpec.ofChange boxesSameWrong)

/-- 'rosettalaw16.BoxesRows': WHATEVER THE INPUT: true; the input reads as it did. -/
def boxesRowsSpec : ChangeSpec := { name := "boxesRows", fn := fun _ => fun
  | [d1, d2, d3] => { results := [.lit (.bool true)], args := [d1, d2, d3] }
  | _ => none }
def boxesRowsRow : OpenClaim := { program := "ytefbhnhekkncpaa", sum := "2d20d5158cd3c94169cf4e2ed23d369ad0f90a365588aa7304f13d1bd98d75a7", func := "rosetta/rosettalaw16.BoxesRows", spec := "boxesRows", inPlace := ["internal/bytealg.IndexByteString", "internal/bytealg.IndexString", "internal/abi.NoEscape", "internal/bytealg.MakeNoZero"], unfollowed := true, recurses := true, named := ["internal/bytealg.MaxLen"], loops := true, apart := false }
def BoxesRowsSaid : Prop := boxesRowsRow.holds Try.pinned (OpenSpec.ofChange boxesRowsSpec)

/-- ITS FALSE NEIGHBOUR: 'it returns false'. Refute it at one input. -/
def boxesRowsWrong : ChangeSpec := { name := "boxesRows", fn := fun _ => fun
  | [d1, d2, d3] => { results := [.lit (.bool false)], args := [d1, d2, d3] }
  | _ => none }
def BoxesRowsWrongFalsely : Prop := boxesRowsRow.holds Try.pinned (OpenSpec.ofChange boxesRowsWrong)

/- THE SECOND FORM. 'bulk': how many values and letters a reading holds, each counted each time it is reached (what is shared counts as often as it is met; a slice's spare places count too). A statement '..UptoSaid' is the law's where the arguments, and the package variables that the reading takes, are together of bulk at most 1048576: NARROWER than '..Said'. Prove '..Said' where nothing that the law and all that it calls make is longer than what came in: it says more and counts as full. Else prove '..UptoSaid'. A law counts once. -/
mutual
def uptoBulk {H : Type} : DataW H → Nat
  | .lit (.string bytes) => bytes.length + 1
  | .lit _ => 1
  | .nil => 1
  | .ptr d => uptoBulk d + 1
  | .slice elems spare => uptoBulkAll elems + uptoBulkAll spare + 1
  | .agg parts => uptoBulkAll parts + 1
  | .iface _ d => uptoBulk d + 1
  | .map entries => uptoBulkEntries entries + 1
  | .held _ => 1
def uptoBulkAll {H : Type} : List (DataW H) → Nat
  | [] => 0
  | d :: r => uptoBulk d + uptoBulkAll r
def uptoBulkEntries {H : Type} : List (Lit × DataW H) → Nat
  | [] => 0
  | x :: r => uptoBulkEntry x + uptoBulkEntries r
def uptoBulkEntry {H : Type} : Lit × DataW H → Nat
  | (.string bytes, d) => bytes.length + uptoBulk d + 1
  | (_, d) => uptoBulk d + 1
 end
def uptoSmall : (H : Type) → List (DataW H) → Bool := fun _ ds => decide (uptoBulkAll ds ≤ 1048576)
def OpenSpec.upto (s : _root_.Go.ChangeSpec) : _root_.Go.OpenSpec := { _root_.Go.OpenSpec.ofChange s with cond := some uptoSmall }

/-- 'rosettalaw16.BoxesSame', WHERE WHAT IT READS IS OF BULK AT MOST 1048576: true; the input reads as it did. -/
def boxesSameUptoRow : OpenClaim := { program := "ytefbhnhekkncpaa", sum := "2d20d5158cd3c94169cf4e2ed23d369ad0f90a365588aa7304f13d1bd98d75a7", func := "rosetta/rosettalaw16.BoxesSame", spec := "boxesSame", inPlace := ["internal/bytealg.IndexByteString", "internal/bytealg.IndexString", "internal/abi.NoEscape", "internal/bytealg.MakeNoZero"], unfollowed := true, recurses := true, named := ["internal/bytealg.MaxLen"], loops := true, apart := false, narrowed := true }
def BoxesSameUptoSaid : Prop := boxesSameUptoRow.holds Try.pinned (OpenSpec.upto boxesSameSpec)

/-- 'rosettalaw16.BoxesRows', WHERE WHAT IT READS IS OF BULK AT MOST 1048576: true; the input reads as it did. -/
def boxesRowsUptoRow : OpenClaim := { program := "ytefbhnhekkncpaa", sum := "2d20d5158cd3c94169cf4e2ed23d369ad0f90a365588aa7304f13d1bd98d75a7", func := "rosetta/rosettalaw16.BoxesRows", spec := "boxesRows", inPlace := ["internal/bytealg.IndexByteString", "internal/bytealg.IndexString", "internal/abi.NoEscape", "internal/bytealg.MakeNoZero"], unfollowed := true, recurses := true, named := ["internal/bytealg.MaxLen"], loops := true, apart := false, narrowed := true }
def BoxesRowsUptoSaid : Prop := boxesRowsUptoRow.holds Try.pinned (OpenSpec.upto boxesRowsSpec)

end Rows
end Go.Proofs.Ytefbhnhekkncpaa
