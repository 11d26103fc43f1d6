/-
  No cell of these rows narrows 'for every input' (looked for: loops, veiled, ifaces, maps, wideKeys, modest, calm, conditions, laid).
  DERIVED. THE GIVEN ROWS OF THIS SEAT. 12 by the template 'for every input the law returns true; each argument reads behind the call as it read before'; 0 by the template 'total and deterministic' (their statements: YtppfplhbfgjjhaaTotals.lean).
  GIVEN WITH THE SEED: the statements are not yours to turn. If you find one false, say at which input.
  Laid BY PROGRAM, IN A SANDBOX (cutbox-rows.mjs): the forced cells as the released guide's own fill.sh prints them over the translation c55119f03d47f564… (all of the seat's roots in one cut). By AI agents, Wed Nov 11 2026. No macro, syntax, notation, axiom, sorry.
-/
import Derived.Test.YtppfplhbfgjjhaaChecked
import GoSem.Claim
import GoSem.ClaimJoined
import GoSem.ClaimMapViews
import Derived.JoinedTies
import Derived.KernelRfl
namespace Go.Proofs.Ytppfplhbfgjjhaa
/- THE CELL 'sum', in the pinned program and in every row, IS THE sha256 OF THE DUMP (.gsa) THAT YtppfplhbfgjjhaaProg.lean LOADS. Nothing in Lean hashes anything: it is a label: what it is worth is what the hold of that sum in a sandbox is worth. -/
noncomputable def Try.pinned : Pinned := { name := "ytppfplhbfgjjhaa", sum := "c55119f03d47f56464019e5ad4d9b2a7ba9540074e9e993ab3004f4fab812311", checked := Try.checked }
namespace Rows
def none {H : Type} : Left H := { results := [], args := [] }

/-- 'laws.FnExactHasColouring': WHATEVER THE INPUT: true; the input reads as it did. -/
def fnExactHasColouringSpec : ChangeSpec := { name := "fnExactHasColouring", fn := fun _ => fun
  | [d] => { results := [.lit (.bool true)], args := [d] }
  | _ => none }
def fnExactHasColouringRow : OpenClaim := { program := "ytppfplhbfgjjhaa", sum := "c55119f03d47f56464019e5ad4d9b2a7ba9540074e9e993ab3004f4fab812311", func := "loop.example/g01329/laws.FnExactHasColouring", spec := "fnExactHasColouring", unfollowed := true, recurses := true, apart := false }
def FnExactHasColouringSaid : Prop := fnExactHasColouringRow.holds Try.pinned (OpenSpec.ofChange fnExactHasColouringSpec)

/-- ITS FALSE NEIGHBOUR: 'it returns false'. Refute it at one input. -/
def fnExactHasColouringWrong : ChangeSpec := { name := "fnExactHasColouring", fn := fun _ => fun
  | [d] => { results := [.lit (.bool false)], args := [d] }
  | _ => none }
def FnExactHasColouringWrongFalsely : Prop := fnExactHasColouringRow.holds Try.pinned (OpenSpec.ofChange fnExactHasColouringWrong)

/-- 'laws.FnExactCountColourings': WHATEVER THE INPUT: true; the input reads as it did. -/
def fnExactCountColouringsSpec : ChangeSpec := { name := "fnExactCountColourings", fn := fun _ => fun
  | [d] => { results := [.lit (.bool true)], args := [d] }
  | _ => none }
def fnExactCountColouringsRow : OpenClaim := { program := "ytppfplhbfgjjhaa", sum := "c55119f03d47f56464019e5ad4d9b2a7ba9540074e9e993ab3004f4fab812311", func := "loop.example/g01329/laws.FnExactCountColourings", spec := "fnExactCountColourings", unfollowed := true, recurses := true, apart := false }
def FnExactCountColouringsSaid : Prop := fnExactCountColouringsRow.holds Try.pinned (OpenSpec.ofChange fnExactCountColouringsSpec)

/-- ITS FALSE NEIGHBOUR: 'it returns false'. Refute it at one input. -/
def fnExactCountColouringsWrong : ChangeSpec := { name := "fnExactCountColourings", fn := fun _ => fun
  | [d] => { results := [.lit (.bool false)], args := [d] }
  | _ => none }
def FnExactCountColouringsWrongFalsely : Prop := fnExactCountColouringsRow.holds Try.pinned (OpenSpec.ofChange fnExactCountColouringsWrong)

/-- 'laws.FnExactFirstColouring': WHATEVER THE INPUT: true; the input reads as it did. -/
def fnExactFirstColouringSpec : ChangeSpec := { name := "fnExactFirstColouring", fn := fun _ => fun
  | [d] => { results := [.lit (.bool true)], args := [d] }
  | _ => none }
def fnExactFirstColouringRow : OpenClaim := { program := "ytppfplhbfgjjhaa", sum := "c55119f03d47f56464019e5ad4d9b2a7ba9540074e9e993ab3004f4fab812311", func := "loop.example/g01329/laws.FnExactFirstColouring", spec := "fnExactFirstColouring", unfollowed := true, recurses := true, apart := false }
def FnExactFirstColouringSaid : Prop := fnExactFirstColouringRow.holds Try.pinned (OpenSpec.ofChange fnExactFirstColouringSpec)

/-- ITS FALSE NEIGHBOUR: 'it returns false'. Refute it at one input. -/
def fnExactFirstColouringWrong : ChangeSpec := { name := "fnExactFirstColouring", fn := fun _ => fun
  | [d] => { results := [.lit (.bool false)], args := [d] }
  | _ => none }
def FnExactFirstColouringWrongFalsely : Prop := fnExactFirstColouringRow.holds Try.pinned (OpenSpec.ofChange fnExactFirstColouringWrong)

/-- 'laws.FnExactNormalColourings': WHATEVER THE INPUT: true; the input reads as it did. -/
def fnExactNormalColouringsSpec : ChangeSpec := { name := "fnExactNormalColourings", fn := fun _ => fun
  | [d] => { results := [.lit (.bool true)], args := [d] }
  | _ => none }
def fnExactNormalColouringsRow : OpenClaim := { program := "ytppfplhbfgjjhaa", sum := "c55119f03d47f56464019e5ad4d9b2a7ba9540074e9e993ab3004f4fab812311", func := "loop.example/g01329/laws.FnExactNormalColourings", spec := "fnExactNormalColourings", unfollowed := true, recurses := true, apart := false }
def FnExactNormalColouringsSaid : Prop := fnExactNormalColouringsRow.holds Try.pinned (OpenSpec.ofChange fnExactNormalColouringsSpec)

/-- ITS FALSE NEIGHBOUR: 'it returns false'. Refute it at one input. -/
def fnExactNormalColouringsWrong : ChangeSpec := { name := "fnExactNormalColourings", fn := fun _ => fun
  | [d] => { results := [.lit (.bool false)], args := [d] }
  | _ => none }
def FnExactNormalColouringsWrongFalsely : Prop := fnExactNormalColouringsRow.holds Try.pinned (OpenSpec.ofChange fnExactNormalColouringsWrong)

/-- 'laws.FnExactCountFlows': WHATEVER THE INPUT: true; the input reads as it did. -/
def fnExactCountFlowsSpec : ChangeSpec := { name := "fnExactCountFlows", fn := fun _ => fun
  | [d1, d2] => { results := [.lit (.bool true)], args := [d1, d2] }
  | _ => none }
def fnExactCountFlowsRow : OpenClaim := { program := "ytppfplhbfgjjhaa", sum := "c55119f03d47f56464019e5ad4d9b2a7ba9540074e9e993ab3004f4fab812311", func := "loop.example/g01329/laws.FnExactCountFlows", spec := "fnExactCountFlows", unfollowed := true, recurses := true, apart := false }
def FnExactCountFlowsSaid : Prop := fnExactCountFlowsRow.holds Try.pinned (OpenSpec.ofChange fnExactCountFlowsSpec)

/-- ITS FALSE NEIGHBOUR: 'it returns false'. Refute it at one input. -/
def fnExactCountFlowsWrong : ChangeSpec := { name := "fnExactCountFlows", fn := fun _ => fun
  | [d1, d2] => { results := [.lit (.bool false)], args := [d1, d2] }
  | _ => none }
def FnExactCountFlowsWrongFalsely : Prop := fnExactCountFlowsRow.holds Try.pinned (OpenSpec.ofChange fnExactCountFlowsWrong)

/-- 'laws.FnExactCountPairFlows': WHATEVER THE INPUT: true; the input reads as it did. -/
def fnExactCountPairFlowsSpec : ChangeSpec := { name := "fnExactCountPairFlows", fn := fun _ => fun
  | [d] => { results := [.lit (.bool true)], args := [d] }
  | _ => none }
def fnExactCountPairFlowsRow : OpenClaim := { program := "ytppfplhbfgjjhaa", sum := "c55119f03d47f56464019e5ad4d9b2a7ba9540074e9e993ab3004f4fab812311", func := "loop.example/g01329/laws.FnExactCountPairFlows", spec := "fnExactCountPairFlows", unfollowed := true, recurses := true, apart := false }
def FnExactCountPairFlowsSaid : Prop := fnExactCountPairFlowsRow.holds Try.pinned (OpenSpec.ofChange fnExactCountPairFlowsSpec)

/-- ITS FALSE NEIGHBOUR: 'it returns false'. Refute it at one input. -/
def fnExactCountPairFlowsWrong : ChangeSpec := { name := "fnExactCountPairFlows", fn := fun _ => fun
  | [d] => { results := [.lit (.bool false)], args := [d] }
  | _ => none }
def FnExactCountPairFlowsWrongFalsely : Prop := fnExactCountPairFlowsRow.holds Try.pinned (OpenSpec.ofChange fnExactCountPairFlowsWrong)

/-- 'laws.FnExactFlowNumber': WHATEVER THE INPUT: true; the input reads as it did. -/
def fnExactFlowNumberSpec : ChangeSpec := { name := "fnExactFlowNumber", fn := fun _ => fun
  | [d] => { results := [.lit (.bool true)], args := [d] }
  | _ => none }
def fnExactFlowNumberRow : OpenClaim := { program := "ytppfplhbfgjjhaa", sum := "c55119f03d47f56464019e5ad4d9b2a7ba9540074e9e993ab3004f4fab812311", func := "loop.example/g01329/laws.FnExactFlowNumber", spec := "fnExactFlowNumber", unfollowed := true, recurses := true, apart := false }
def FnExactFlowNumberSaid : Prop := fnExactFlowNumberRow.holds Try.pinned (OpenSpec.ofChange fnExactFlowNumberSpec)

/-- ITS FALSE NEIGHBOUR: 'it returns false'. Refute it at one input. -/
def fnExactFlowNumberWrong : ChangeSpec := { name := "fnExactFlowNumber", fn := fun _ => fun
  | [d] => { results := [.lit (.bool false)], args := [d] }
  | _ => none }
def FnExactFlowNumberWrongFalsely : Prop := fnExactFlowNumberRow.holds Try.pinned (OpenSpec.ofChange fnExactFlowNumberWrong)

/-- 'laws.FnExactChainNumbers': WHATEVER THE INPUT: true; the input reads as it did. -/
def fnExactChainNumbersSpec : ChangeSpec := { name := "fnExactChainNumbers", fn := fun _ => fun
  | [d1, d2] => { results := [.lit (.bool true)], args := [d1, d2] }
  | _ => none }
def fnExactChainNumbersRow : OpenClaim := { program := "ytppfplhbfgjjhaa", sum := "c55119f03d47f56464019e5ad4d9b2a7ba9540074e9e993ab3004f4fab812311", func := "loop.example/g01329/laws.FnExactChainNumbers", spec := "fnExactChainNumbers", unfollowed := true, recurses := true, apart := false }
def FnExactChainNumbersSaid : Prop := fnExactChainNumbersRow.holds Try.pinned (OpenSpec.ofChange fnExactChainNumbersSpec)

/-- ITS FALSE NEIGHBOUR: 'it returns false'. Refute it at one input. -/
def fnExactChainNumbersWrong : ChangeSpec := { name := "fnExactChainNumbers", fn := fun _ => fun
  | [d1, d2] => { results := [.lit (.bool false)], args := [d1, d2] }
  | _ => none }
def FnExactChainNumbersWrongFalsely : Prop := fnExactChainNumbersRow.holds Try.pinned (OpenSpec.ofChange fnExactChainNumbersWrong)

/-- 'laws.FnExactNamedGraph': WHATEVER THE INPUT: true; the input reads as it did. -/
def fnExactNamedGraphSpec : ChangeSpec := { name := "fnExactNamedGraph", fn := fun _ => fun
  | [d] => { results := [.lit (.bool true)], args := [d] }
  | _ => none }
def fnExactNamedGraphRow : OpenClaim := { program := "ytppfplhbfgjjhaa", sum := "c55119f03d47f56464019e5ad4d9b2a7ba9540074e9e993ab3004f4fab812311", func := "loop.example/g01329/laws.FnExactNamedGraph", spec := "fnExactNamedGraph", unfollowed := true, recurses := true, apart := false }
def FnExactNamedGraphSaid : Prop := fnExactNamedGraphRow.holds Try.pinned (OpenSpec.ofChange fnExactNamedGraphSpec)

/-- ITS FALSE NEIGHBOUR: 'it returns false'. Refute it at one input. -/
def fnExactNamedGraphWrong : ChangeSpec := { name := "fnExactNamedGraph", fn := fun _ => fun
  | [d] => { results := [.lit (.bool false)], args := [d] }
  | _ => none }
def FnExactNamedGraphWrongFalsely : Prop := fnExactNamedGraphRow.holds Try.pinned (OpenSpec.ofChange fnExactNamedGraphWrong)

/-- 'laws.FnExactGraphOf': WHATEVER THE INPUT: true; the input reads as it did. -/
def fnExactGraphOfSpec : ChangeSpec := { name := "fnExactGraphOf", fn := fun _ => fun
  | [d1, d2] => { results := [.lit (.bool true)], args := [d1, d2] }
  | _ => none }
def fnExactGraphOfRow : OpenClaim := { program := "ytppfplhbfgjjhaa", sum := "c55119f03d47f56464019e5ad4d9b2a7ba9540074e9e993ab3004f4fab812311", func := "loop.example/g01329/laws.FnExactGraphOf", spec := "fnExactGraphOf", unfollowed := true, recurses := true, apart := false }
def FnExactGraphOfSaid : Prop := fnExactGraphOfRow.holds Try.pinned (OpenSpec.ofChange fnExactGraphOfSpec)

/-- ITS FALSE NEIGHBOUR: 'it returns false'. Refute it at one input. -/
def fnExactGraphOfWrong : ChangeSpec := { name := "fnExactGraphOf", fn := fun _ => fun
  | [d1, d2] => { results := [.lit (.bool false)], args := [d1, d2] }
  | _ => none }
def FnExactGraphOfWrongFalsely : Prop := fnExactGraphOfRow.holds Try.pinned (OpenSpec.ofChange fnExactGraphOfWrong)

/-- 'laws.FnExactPutBeside': WHATEVER THE INPUT: true; the input reads as it did. -/
def fnExactPutBesideSpec : ChangeSpec := { name := "fnExactPutBeside", fn := fun _ => fun
  | [d1, d2] => { results := [.lit (.bool true)], args := [d1, d2] }
  | _ => none }
def fnExactPutBesideRow : OpenClaim := { program := "ytppfplhbfgjjhaa", sum := "c55119f03d47f56464019e5ad4d9b2a7ba9540074e9e993ab3004f4fab812311", func := "loop.example/g01329/laws.FnExactPutBeside", spec := "fnExactPutBeside", unfollowed := true, recurses := true, apart := false }
def FnExactPutBesideSaid : Prop := fnExactPutBesideRow.holds Try.pinned (OpenSpec.ofChange fnExactPutBesideSpec)

/-- ITS FALSE NEIGHBOUR: 'it returns false'. Refute it at one input. -/
def fnExactPutBesideWrong : ChangeSpec := { name := "fnExactPutBeside", fn := fun _ => fun
  | [d1, d2] => { results := [.lit (.bool false)], args := [d1, d2] }
  | _ => none }
def FnExactPutBesideWrongFalsely : Prop := fnExactPutBesideRow.holds Try.pinned (OpenSpec.ofChange fnExactPutBesideWrong)

/-- 'laws.FnExactRenumberGraph': WHATEVER THE INPUT: true; the input reads as it did. -/
def fnExactRenumberGraphSpec : ChangeSpec := { name := "fnExactRenumberGraph", fn := fun _ => fun
  | [d1, d2] => { results := [.lit (.bool true)], args := [d1, d2] }
  | _ => none }
def fnExactRenumberGraphRow : OpenClaim := { program := "ytppfplhbfgjjhaa", sum := "c55119f03d47f56464019e5ad4d9b2a7ba9540074e9e993ab3004f4fab812311", func := "loop.example/g01329/laws.FnExactRenumberGraph", spec := "fnExactRenumberGraph", unfollowed := true, recurses := true, apart := false }
def FnExactRenumberGraphSaid : Prop := fnExactRenumberGraphRow.holds Try.pinned (OpenSpec.ofChange fnExactRenumberGraphSpec)

/-- ITS FALSE NEIGHBOUR: 'it returns false'. Refute it at one input. -/
def fnExactRenumberGraphWrong : ChangeSpec := { name := "fnExactRenumberGraph", fn := fun _ => fun
  | [d1, d2] => { results := [.lit (.bool false)], args := [d1, d2] }
  | _ => none }
def FnExactRenumberGraphWrongFalsely : Prop := fnExactRenumberGraphRow.holds Try.pinned (OpenSpec.ofChange fnExactRenumberGraphWrong)

/- THE SECOND FORM. 'bulk': how many values and letters a reading holds, each counted each time it is reached (what is shared counts as often as it is met; a slice's spare places count too). A statement '..UptoSaid' is the law's where the arguments, and the package variables that the reading takes, are together of bulk at most 1048576: NARROWER than '..Said'. Prove '..Said' where nothing that the law and all that it calls make is longer than what came in: it says more and counts as full. Else prove '..UptoSaid'. A law counts once. -/
mutual
def uptoBulk {H : Type} : DataW H → Nat
  | .lit (.string bytes) => bytes.length + 1
  | .lit _ => 1
  | .nil => 1
  | .ptr d => uptoBulk d + 1
  | .slice elems spare => uptoBulkAll elems + uptoBulkAll spare + 1
  | .agg parts => uptoBulkAll parts + 1
  | .iface _ d => uptoBulk d + 1
  | .map entries => uptoBulkEntries entries + 1
  | .held _ => 1
def uptoBulkAll {H : Type} : List (DataW H) → Nat
  | [] => 0
  | d :: r => uptoBulk d + uptoBulkAll r
def uptoBulkEntries {H : Type} : List (Lit × DataW H) → Nat
  | [] => 0
  | x :: r => uptoBulkEntry x + uptoBulkEntries r
def uptoBulkEntry {H : Type} : Lit × DataW H → Nat
  | (.string bytes, d) => bytes.length + uptoBulk d + 1
  | (_, d) => uptoBulk d + 1
 end
def uptoSmall : (H : Type) → List (DataW H) → Bool := fun _ ds => decide (uptoBulkAll ds ≤ 1048576)
def OpenSpec.upto (s : _root_.Go.ChangeSpec) : _root_.Go.OpenSpec := { _root_.Go.OpenSpec.ofChange s with cond := some uptoSmall }

/-- 'laws.FnExactHasColouring', WHERE WHAT IT READS IS OF BULK AT MOST 1048576: true; the input reads as it did. -/
def fnExactHasColouringUptoRow : OpenClaim := { program := "ytppfplhbfgjjhaa", sum := "c55119f03d47f56464019e5ad4d9b2a7ba9540074e9e993ab3004f4fab812311", func := "loop.example/g01329/laws.FnExactHasColouring", spec := "fnExactHasColouring", unfollowed := true, recurses := true, apart := false, narrowed := true }
def FnExactHasColouringUptoSaid : Prop := fnExactHasColouringUptoRow.holds Try.pinned (OpenSpec.upto fnExactHasColouringSpec)

/-- 'laws.FnExactCountColourings', WHERE WHAT IT READS IS OF BULK AT MOST 1048576: true; the input reads as it did. -/
def fnExactCountColouringsUptoRow : OpenClaim := { program := "ytppfplhbfgjjhaa", sum := "c55119f03d47f56464019e5ad4d9b2a7ba9540074e9e993ab3004f4fab812311", func := "loop.example/g01329/laws.FnExactCountColourings", spec := "fnExactCountColourings", unfollowed := true, recurses := true, apart := false, narrowed := true }
def FnExactCountColouringsUptoSaid : Prop := fnExactCountColouringsUptoRow.holds Try.pinned (OpenSpec.upto fnExactCountColouringsSpec)

/-- 'laws.FnExactFirstColouring', WHERE WHAT IT READS IS OF BULK AT MOST 1048576: true; the input reads as it did. -/
def fnExactFirstColouringUptoRow : OpenClaim := { program := "ytppfplhbfgjjhaa", sum := "c55119f03d47f56464019e5ad4d9b2a7ba9540074e9e993ab3004f4fab812311", func := "loop.example/g01329/laws.FnExactFirstColouring", spec := "fnExactFirstColouring", unfollowed := true, recurses := true, apart := false, narrowed := true }
def FnExactFirstColouringUptoSaid : Prop := fnExactFirstColouringUptoRow.holds Try.pinned (OpenSpec.upto fnExactFirstColouringSpec)

/-- 'laws.FnExactNormalColourings', WHERE WHAT IT READS IS OF BULK AT MOST 1048576: true; the input reads as it did. -/
def fnExactNormalColouringsUptoRow : OpenClaim := { program := "ytppfplhbfgjjhaa", sum := "c55119f03d47f56464019e5ad4d9b2a7ba9540074e9e993ab3004f4fab812311", func := "loop.example/g01329/laws.FnExactNormalColourings", spec := "fnExactNormalColourings", unfollowed := true, recurses := true, apart := false, narrowed := true }
def FnExactNormalColouringsUptoSaid : Prop := fnExactNormalColouringsUptoRow.holds Try.pinned (OpenSpec.upto fnExactNormalColouringsSpec)

/-- 'laws.FnExactCountFlows', WHERE WHAT IT READS IS OF BULK AT MOST 1048576: true; the input reads as it did. -/
def fnExactCountFlowsUptoRow : OpenClaim := { program := "ytppfplhbfgjjhaa", sum := "c55119f03d47f56464019e5ad4d9b2a7ba9540074e9e993ab3004f4fab812311", func := "loop.example/g01329/laws.FnExactCountFlows", spec := "fnExactCountFlows", unfollowed := true, recurses := true, apart := false, narrowed := true }
def FnExactCountFlowsUptoSaid : Prop := fnExactCountFlowsUptoRow.holds Try.pinned (OpenSpec.upto fnExactCountFlowsSpec)

/-- 'laws.FnExactCountPairFlows', WHERE WHAT IT READS IS OF BULK AT MOST 1048576: true; the input reads as it did. -/
def fnExactCountPairFlowsUptoRow : OpenClaim := { program := "ytppfplhbfgjjhaa", sum := "c55119f03d47f56464019e5ad4d9b2a7ba9540074e9e993ab3004f4fab812311", func := "loop.example/g01329/laws.FnExactCountPairFlows", spec := "fnExactCountPairFlows", unfollowed := true, recurses := true, apart := false, narrowed := true }
def FnExactCountPairFlowsUptoSaid : Prop := fnExactCountPairFlowsUptoRow.holds Try.pinned (OpenSpec.upto fnExactCountPairFlowsSpec)

/-- 'laws.FnExactFlowNumber', WHERE WHAT IT READS IS OF BULK AT MOST 1048576: true; the input reads as it did. -/
def fnExactFlowNumberUptoRow : OpenClaim := { program := "ytppfplhbfgjjhaa", sum := "c55119f03d47f56464019e5ad4d9b2a7ba9540074e9e993ab3004f4fab812311", func := "loop.example/g01329/laws.FnExactFlowNumber", spec := "fnExactFlowNumber", unfollowed := true, recurses := true, apart := false, narrowed := true }
def FnExactFlowNumberUptoSaid : Prop := fnExactFlowNumberUptoRow.holds Try.pinned (OpenSpec.upto fnExactFlowNumberSpec)

/-- 'laws.FnExactChainNumbers', WHERE WHAT IT READS IS OF BULK AT MOST 1048576: true; the input reads as it did. -/
def fnExactChainNumbersUptoRow : OpenClaim := { program := "ytppfplhbfgjjhaa", sum := "c55119f03d47f56464019e5ad4d9b2a7ba9540074e9e993ab3004f4fab812311", func := "loop.example/g01329/laws.FnExactChainNumbers", spec := "fnExactChainNumbers", unfollowed := true, recurses := true, apart := false, narrowed := true }
def FnExactChainNumbersUptoSaid : Prop := fnExactChainNumbersUptoRow.holds Try.pinned (OpenSpec.upto fnExactChainNumbersSpec)

/-- 'laws.FnExactNamedGraph', WHERE WHAT IT READS IS OF BULK AT MOST 1048576: true; the input reads as it did. -/
def fnExactNamedGraphUptoRow : OpenClaim := { program := "ytppfplhbfgjjhaa", sum := "c55119f03d47f56464019e5ad4d9b2a7ba9540074e9e993ab3004f4fab812311", func := "loop.example/g01329/laws.FnExactNamedGraph", spec := "fnExactNamedGraph", unfollowed := true, recurses := true, apart := false, narrowed := true }
def FnExactNamedGraphUptoSaid : Prop := fnExactNamedGraphUptoRow.holds Try.pinned (OpenSpec.upto fnExactNamedGraphSpec)

/-- 'laws.FnExactGraphOf', WHERE WHAT IT READS IS OF BULK AT MOST 1048576: true; the input reads as it did. -/
def fnExactGraphOfUptoRow : OpenClaim := { program := "ytppfplhbfgjjhaa", sum := "c55119f03d47f56464019e5ad4d9b2a7ba9540074e9e993ab3004f4fab812311", func := "loop.example/g01329/laws.FnExactGraphOf", spec := "fnExactGraphOf", unfollowed := true, recurses := true, apart := false, narrowed := true }
def FnExactGraphOfUptoSaid : Prop := fnExactGraphOfUptoRow.holds Try.pinned (OpenSpec.upto fnExactGraphOfSpec)

/-- 'laws.FnExactPutBeside', WHERE WHAT IT READS IS OF BULK AT MOST 1048576: true; the input reads as it did. -/
def fnExactPutBesideUptoRow : OpenClaim := { program := "ytppfplhbfgjjhaa", sum := "c55119f03d47f56464019e5ad4d9b2a7ba9540074e9e993ab3004f4fab812311", func := "loop.example/g01329/laws.FnExactPutBeside", spec := "fnExactPutBeside", unfollowed := true, recurses := true, apart := false, narrowed := true }
def FnExactPutBesideUptoSaid : Prop := fnExactPutBesideUptoRow.holds Try.pinned (OpenSpec.upto fnExactPutBesideSpec)

/-- 'laws.FnExactRenumberGraph', WHERE WHAT IT READS IS OF BULK AT MOST 1048576: true; the input reads as it did. -/
def fnExactRenumberGraphUptoRow : OpenClaim := { program := "ytppfplhbfgjjhaa", sum := "c55119f03d47f56464019e5ad4d9b2a7ba9540074e9e993ab3004f4fab812311", func := "loop.example/g01329/laws.FnExactRenumberGraph", spec := "fnExactRenumberGraph", unfollowed := true, recurses := true, apart := false, narrowed := true }
def FnExactRenumberGraphUptoSaid : Prop := fnExactRenumberGraphUptoRow.holds Try.pinned (OpenSpec.upto fnExactRenumberGraphSpec)

end Rows
end Go.Proofs.Ytppfplhbfgjjhaa
