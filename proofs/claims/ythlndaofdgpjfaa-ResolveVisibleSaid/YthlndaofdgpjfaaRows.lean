/-
  No cell of these rows narrows 'for every input' (looked for: loops, veiled, ifaces, maps, wideKeys, modest, calm, conditions, laid).
  DERIVED. THE GIVEN ROWS OF THIS SEAT. 4 by the template 'for every input the law returns true; each argument reads behind the call as it read before'; 0 by the template 'total and deterministic' (their statements: YthlndaofdgpjfaaTotals.lean).
  GIVEN WITH THE SEED: the statements are not yours to turn. If you find one false, say at which input.
  Laid BY PROGRAM, IN A SANDBOX (cutbox-rows.mjs): the forced cells as the released guide's own fill.sh prints them over the translation 27e3c22be6769c1c… (all of the seat's roots in one cut). By AI agents, Wed Nov 11 2026. No macro, syntax, notation, axiom, sorry.
-/
import Derived.Test.YthlndaofdgpjfaaChecked
import GoSem.Claim
import GoSem.ClaimJoined
import GoSem.ClaimMapViews
import Derived.JoinedTies
import Derived.KernelRfl
namespace Go.Proofs.Ythlndaofdgpjfaa
/- THE CELL 'sum', in the pinned program and in every row, IS THE sha256 OF THE DUMP (.gsa) THAT YthlndaofdgpjfaaProg.lean LOADS. Nothing in Lean hashes anything: it is a label: what it is worth is what the hold of that sum in a sandbox is worth. -/
noncomputable def Try.pinned : Pinned := { name := "ythlndaofdgpjfaa", sum := "27e3c22be6769c1c195d7c22742b0747b7d6c9658b1fefa0e2697212a6a1b873", checked := Try.checked }
namespace Rows
def none {H : Type} : Left H := { results := [], args := [] }

/-- 'rosettalaw19.ResolveName': WHATEVER THE INPUT: true; the input reads as it did. -/
def resolveNameSpec : ChangeSpec := { name := "resolveName", fn := fun _ => fun
  | [d1, d2] => { results := [.lit (.bool true)], args := [d1, d2] }
  | _ => none }
def resolveNameRow : OpenClaim := { program := "ythlndaofdgpjfaa", sum := "27e3c22be6769c1c195d7c22742b0747b7d6c9658b1fefa0e2697212a6a1b873", func := "rosetta/rosettalaw19.ResolveName", spec := "resolveName", unfollowed := true, recurses := true, plainKeys := false, apart := false }
def ResolveNameSaid : Prop := resolveNameRow.holds Try.pinned (OpenSpec.ofChange resolveNameSpec)

/-- ITS FALSE NEIGHBOUR: 'it returns false'. Refute it at one input. -/
def resolveNameWrong : ChangeSpec := { name := "resolveName", fn := fun _ => fun
  | [d1, d2] => { results := [.lit (.bool false)], args := [d1, d2] }
  | _ => none }
def ResolveNameWrongFalsely : Prop := resolveNameRow.holds Try.pinned (OpenSpec.ofChange resolveNameWrong)

/-- 'rosettalaw19.ResolveAll': WHATEVER THE INPUT: true; the input reads as it did. -/
def resolveAllSpec : ChangeSpec := { name := "resolveAll", fn := fun _ => fun
  | [d1, d2] => { results := [.lit (.bool true)], args := [d1, d2] }
  | _ => none }
def resolveAllRow : OpenClaim := { program := "ythlndaofdgpjfaa", sum := "27e3c22be6769c1c195d7c22742b0747b7d6c9658b1fefa0e2697212a6a1b873", func := "rosetta/rosettalaw19.ResolveAll", spec := "resolveAll", unfollowed := true, recurses := true, plainKeys := false, apart := false }
def ResolveAllSaid : Prop := resolveAllRow.holds Try.pinned (OpenSpec.ofChange resolveAllSpec)

/-- ITS FALSE NEIGHBOUR: 'it returns false'. Refute it at one input. -/
def resolveAllWrong : ChangeSpec := { name := "resolveAll", fn := fun _ => fun
  | [d1, d2] => { results := [.lit (.bool false)], args := [d1, d2] }
  | _ => none }
def ResolveAllWrongFalsely : Prop := resolveAllRow.holds Try.pinned (OpenSpec.ofChange resolveAllWrong)

/-- 'rosettalaw19.ResolveMore': WHATEVER THE INPUT: true; the input reads as it did. -/
def resolveMoreSpec : ChangeSpec := { name := "resolveMore", fn := fun _ => fun
  | [d1, d2, d3] => { results := [.lit (.bool true)], args := [d1, d2, d3] }
  | _ => none }
def resolveMoreRow : OpenClaim := { program := "ythlndaofdgpjfaa", sum := "27e3c22be6769c1c195d7c22742b0747b7d6c9658b1fefa0e2697212a6a1b873", func := "rosetta/rosettalaw19.ResolveMore", spec := "resolveMore", unfollowed := true, recurses := true, plainKeys := false, apart := false }
def ResolveMoreSaid : Prop := resolveMoreRow.holds Try.pinned (OpenSpec.ofChange resolveMoreSpec)

/-- ITS FALSE NEIGHBOUR: 'it returns false'. Refute it at one input. -/
def resolveMoreWrong : ChangeSpec := { name := "resolveMore", fn := fun _ => fun
  | [d1, d2, d3] => { results := [.lit (.bool false)], args := [d1, d2, d3] }
  | _ => none }
def ResolveMoreWrongFalsely : Prop := resolveMoreRow.holds Try.pinned (OpenSpec.ofChange resolveMoreWrong)

/-- 'rosettalaw19.ResolveVisible': WHATEVER THE INPUT: true; the input reads as it did. -/
def resolveVisibleSpec : ChangeSpec := { name := "resolveVisible", fn := fun _ => fun
  | [d1, d2] => { results := [.lit (.bool true)], args := [d1, d2] }
  | _ => none }
def resolveVisibleRow : OpenClaim := { program := "ythlndaofdgpjfaa", sum := "27e3c22be6769c1c195d7c22742b0747b7d6c9658b1fefa0e2697212a6a1b873", func := "rosetta/rosettalaw19.ResolveVisible", spec := "resolveVisible", unfollowed := true, recurses := true, plainKeys := false, apart := false }
def ResolveVisibleSaid : Prop := resolveVisibleRow.holds Try.pinned (OpenSpec.ofChange resolveVisibleSpec)

/-- ITS FALSE NEIGHBOUR: 'it returns false'. Refute it at one input. -/
def resolveVisibleWrong : ChangeSpec := { name := "resolveVisible", fn := fun _ => fun
  | [d1, d2] => { results := [.lit (.bool false)], args := [d1, d2] }
  | _ => none }
def ResolveVisibleWrongFalsely : Prop := resolveVisibleRow.holds Try.pinned (OpenSpec.ofChange resolveVisibleWrong)

/- THE SECOND FORM. 'bulk': how many values and letters a reading holds, each counted each time it is reached (what is shared counts as often as it is met; a slice's spare places count too). A statement '..UptoSaid' is the law's where the arguments, and the package variables that the reading takes, are together of bulk at most 1048576: NARROWER than '..Said'. Prove '..Said' where nothing that the law and all that it calls make is longer than what came in: it says more and counts as full. Else prove '..UptoSaid'. A law counts once. -/
mutual
def uptoBulk {H : Type} : DataW H → Nat
  | .lit (.string bytes) => bytes.length + 1
  | .lit _ => 1
  | .nil => 1
  | .ptr d => uptoBulk d + 1
  | .slice elems spare => uptoBulkAll elems + uptoBulkAll spare + 1
  | .agg parts => uptoBulkAll parts + 1
  | .iface _ d => uptoBulk d + 1
  | .map entries => uptoBulkEntries entries + 1
  | .held _ => 1
def uptoBulkAll {H : Type} : List (DataW H) → Nat
  | [] => 0
  | d :: r => uptoBulk d + uptoBulkAll r
def uptoBulkEntries {H : Type} : List (Lit × DataW H) → Nat
  | [] => 0
  | x :: r => uptoBulkEntry x + uptoBulkEntries r
def uptoBulkEntry {H : Type} : Lit × DataW H → Nat
  | (.string bytes, d) => bytes.length + uptoBulk d + 1
  | (_, d) => uptoBulk d + 1
 end
def uptoSmall : (H : Type) → List (DataW H) → Bool := fun _ ds => decide (uptoBulkAll ds ≤ 1048576)
def OpenSpec.upto (s : _root_.Go.ChangeSpec) : _root_.Go.OpenSpec := { _root_.Go.OpenSpec.ofChange s with cond := some uptoSmall }

/-- 'rosettalaw19.ResolveName', WHERE WHAT IT READS IS OF BULK AT MOST 1048576: true; the input reads as it did. -/
def resolveNameUptoRow : OpenClaim := { program := "ythlndaofdgpjfaa", sum := "27e3c22be6769c1c195d7c22742b0747b7d6c9658b1fefa0e2697212a6a1b873", func := "rosetta/rosettalaw19.ResolveName", spec := "resolveName", unfollowed := true, recurses := true, plainKeys := false, apart := false, narrowed := true }
def ResolveNameUptoSaid : Prop := resolveNameUptoRow.holds Try.pinned (OpenSpec.upto resolveNameSpec)

/-- 'rosettalaw19.ResolveAll', WHERE WHAT IT READS IS OF BULK AT MOST 1048576: true; the input reads as it did. -/
def resolveAllUptoRow : OpenClaim := { program := "ythlndaofdgpjfaa", sum := "27e3c22be6769c1c195d7c22742b0747b7d6c9658b1fefa0e2697212a6a1b873", func := "rosetta/rosettalaw19.ResolveAll", spec := "resolveAll", unfollowed := true, recurses := true, plainKeys := false, apart := false, narrowed := true }
def ResolveAllUptoSaid : Prop := resolveAllUptoRow.holds Try.pinned (OpenSpec.upto resolveAllSpec)

/-- 'rosettalaw19.ResolveMore', WHERE WHAT IT READS IS OF BULK AT MOST 1048576: true; the input reads as it did. -/
def resolveMoreUptoRow : OpenClaim := { program := "ythlndaofdgpjfaa", sum := "27e3c22be6769c1c195d7c22742b0747b7d6c9658b1fefa0e2697212a6a1b873", func := "rosetta/rosettalaw19.ResolveMore", spec := "resolveMore", unfollowed := true, recurses := true, plainKeys := false, apart := false, narrowed := true }
def ResolveMoreUptoSaid : Prop := resolveMoreUptoRow.holds Try.pinned (OpenSpec.upto resolveMoreSpec)

/-- 'rosettalaw19.ResolveVisible', WHERE WHAT IT READS IS OF BULK AT MOST 1048576: true; the input reads as it did. -/
def resolveVisibleUptoRow : OpenClaim := { program := "ythlndaofdgpjfaa", sum := "27e3c22be6769c1c195d7c22742b0747b7d6c9658b1fefa0e2697212a6a1b873", func := "rosetta/rosettalaw19.ResolveVisible", spec := "resolveVisible", unfollowed := true, recurses := true, plainKeys := false, apart := false, narrowed := true }
def ResolveVisibleUptoSaid : Prop := resolveVisibleUptoRow.holds Try.pinned (OpenSpec.upto resolveVisibleSpec)

end Rows
end Go.Proofs.Ythlndaofdgpjfaa
