/-
  No cell of these rows narrows 'for every input' (looked for: loops, veiled, ifaces, maps, wideKeys, modest, calm, conditions, laid).
  DERIVED. THE GIVEN ROWS OF THIS SEAT. 12 by the template 'for every input the law returns true; each argument reads behind the call as it read before'; 0 by the template 'total and deterministic' (their statements: YtccinfmphkihoaaTotals.lean).
  GIVEN WITH THE SEED: the statements are not yours to turn. If you find one false, say at which input.
  Laid BY PROGRAM, IN A SANDBOX (cutbox-rows.mjs): the forced cells as the released guide's own fill.sh prints them over the translation c417be37362d2dce… (all of the seat's roots in one cut). By AI agents, Wed Nov 11 2026. No macro, syntax, notation, axiom, sorry.
-/
import Derived.Test.YtccinfmphkihoaaChecked
import GoSem.Claim
import GoSem.ClaimJoined
import GoSem.ClaimMapViews
import Derived.JoinedTies
import Derived.KernelRfl
namespace Go.Proofs.Ytccinfmphkihoaa
/- THE CELL 'sum', in the pinned program and in every row, IS THE sha256 OF THE DUMP (.gsa) THAT YtccinfmphkihoaaProg.lean LOADS. Nothing in Lean hashes anything: it is a label: what it is worth is what the hold of that sum in a sandbox is worth. -/
noncomputable def Try.pinned : Pinned := { name := "ytccinfmphkihoaa", sum := "c417be37362d2dce32ac95fe78f9a6b87ddf9897fb36a670e0248b46fe2a2fef", checked := Try.checked }
namespace Rows
def none {H : Type} : Left H := { results := [], args := [] }

/-- 'laws.FnExactEdgeConnectivity': WHATEVER THE INPUT: true; the input reads as it did. -/
def fnExactEdgeConnectivitySpec : ChangeSpec := { name := "fnExactEdgeConnectivity", fn := fun _ => fun
  | [d] => { results := [.lit (.bool true)], args := [d] }
  | _ => none }
def fnExactEdgeConnectivityRow : OpenClaim := { program := "ytccinfmphkihoaa", sum := "c417be37362d2dce32ac95fe78f9a6b87ddf9897fb36a670e0248b46fe2a2fef", func := "loop.example/g01329/laws.FnExactEdgeConnectivity", spec := "fnExactEdgeConnectivity", unfollowed := true, recurses := true, apart := false }
def FnExactEdgeConnectivitySaid : Prop := fnExactEdgeConnectivityRow.holds Try.pinned (OpenSpec.ofChange fnExactEdgeConnectivitySpec)

/-- ITS FALSE NEIGHBOUR: 'it returns false'. Refute it at one input. -/
def fnExactEdgeConnectivityWrong : ChangeSpec := { name := "fnExactEdgeConnectivity", fn := fun _ => fun
  | [d] => { results := [.lit (.bool false)], args := [d] }
  | _ => none }
def FnExactEdgeConnectivityWrongFalsely : Prop := fnExactEdgeConnectivityRow.holds Try.pinned (OpenSpec.ofChange fnExactEdgeConnectivityWrong)

/-- 'laws.FnExactBridgesOf': WHATEVER THE INPUT: true; the input reads as it did. -/
def fnExactBridgesOfSpec : ChangeSpec := { name := "fnExactBridgesOf", fn := fun _ => fun
  | [d] => { results := [.lit (.bool true)], args := [d] }
  | _ => none }
def fnExactBridgesOfRow : OpenClaim := { program := "ytccinfmphkihoaa", sum := "c417be37362d2dce32ac95fe78f9a6b87ddf9897fb36a670e0248b46fe2a2fef", func := "loop.example/g01329/laws.FnExactBridgesOf", spec := "fnExactBridgesOf", unfollowed := true, recurses := true, apart := false }
def FnExactBridgesOfSaid : Prop := fnExactBridgesOfRow.holds Try.pinned (OpenSpec.ofChange fnExactBridgesOfSpec)

/-- ITS FALSE NEIGHBOUR: 'it returns false'. Refute it at one input. -/
def fnExactBridgesOfWrong : ChangeSpec := { name := "fnExactBridgesOf", fn := fun _ => fun
  | [d] => { results := [.lit (.bool false)], args := [d] }
  | _ => none }
def FnExactBridgesOfWrongFalsely : Prop := fnExactBridgesOfRow.holds Try.pinned (OpenSpec.ofChange fnExactBridgesOfWrong)

/-- 'laws.FnExactPartsOf': WHATEVER THE INPUT: true; the input reads as it did. -/
def fnExactPartsOfSpec : ChangeSpec := { name := "fnExactPartsOf", fn := fun _ => fun
  | [d] => { results := [.lit (.bool true)], args := [d] }
  | _ => none }
def fnExactPartsOfRow : OpenClaim := { program := "ytccinfmphkihoaa", sum := "c417be37362d2dce32ac95fe78f9a6b87ddf9897fb36a670e0248b46fe2a2fef", func := "loop.example/g01329/laws.FnExactPartsOf", spec := "fnExactPartsOf", unfollowed := true, recurses := true, apart := false }
def FnExactPartsOfSaid : Prop := fnExactPartsOfRow.holds Try.pinned (OpenSpec.ofChange fnExactPartsOfSpec)

/-- ITS FALSE NEIGHBOUR: 'it returns false'. Refute it at one input. -/
def fnExactPartsOfWrong : ChangeSpec := { name := "fnExactPartsOf", fn := fun _ => fun
  | [d] => { results := [.lit (.bool false)], args := [d] }
  | _ => none }
def FnExactPartsOfWrongFalsely : Prop := fnExactPartsOfRow.holds Try.pinned (OpenSpec.ofChange fnExactPartsOfWrong)

/-- 'laws.FnExactCountSides': WHATEVER THE INPUT: true; the input reads as it did. -/
def fnExactCountSidesSpec : ChangeSpec := { name := "fnExactCountSides", fn := fun _ => fun
  | [d1, d2] => { results := [.lit (.bool true)], args := [d1, d2] }
  | _ => none }
def fnExactCountSidesRow : OpenClaim := { program := "ytccinfmphkihoaa", sum := "c417be37362d2dce32ac95fe78f9a6b87ddf9897fb36a670e0248b46fe2a2fef", func := "loop.example/g01329/laws.FnExactCountSides", spec := "fnExactCountSides", unfollowed := true, recurses := true, apart := false }
def FnExactCountSidesSaid : Prop := fnExactCountSidesRow.holds Try.pinned (OpenSpec.ofChange fnExactCountSidesSpec)

/-- ITS FALSE NEIGHBOUR: 'it returns false'. Refute it at one input. -/
def fnExactCountSidesWrong : ChangeSpec := { name := "fnExactCountSides", fn := fun _ => fun
  | [d1, d2] => { results := [.lit (.bool false)], args := [d1, d2] }
  | _ => none }
def FnExactCountSidesWrongFalsely : Prop := fnExactCountSidesRow.holds Try.pinned (OpenSpec.ofChange fnExactCountSidesWrong)

/-- 'laws.FnExactCountPairFlows': WHATEVER THE INPUT: true; the input reads as it did. -/
def fnExactCountPairFlowsSpec : ChangeSpec := { name := "fnExactCountPairFlows", fn := fun _ => fun
  | [d] => { results := [.lit (.bool true)], args := [d] }
  | _ => none }
def fnExactCountPairFlowsRow : OpenClaim := { program := "ytccinfmphkihoaa", sum := "c417be37362d2dce32ac95fe78f9a6b87ddf9897fb36a670e0248b46fe2a2fef", func := "loop.example/g01329/laws.FnExactCountPairFlows", spec := "fnExactCountPairFlows", unfollowed := true, recurses := true, apart := false }
def FnExactCountPairFlowsSaid : Prop := fnExactCountPairFlowsRow.holds Try.pinned (OpenSpec.ofChange fnExactCountPairFlowsSpec)

/-- ITS FALSE NEIGHBOUR: 'it returns false'. Refute it at one input. -/
def fnExactCountPairFlowsWrong : ChangeSpec := { name := "fnExactCountPairFlows", fn := fun _ => fun
  | [d] => { results := [.lit (.bool false)], args := [d] }
  | _ => none }
def FnExactCountPairFlowsWrongFalsely : Prop := fnExactCountPairFlowsRow.holds Try.pinned (OpenSpec.ofChange fnExactCountPairFlowsWrong)

/-- 'laws.FnExactIsCyclicCut': WHATEVER THE INPUT: true; the input reads as it did. -/
def fnExactIsCyclicCutSpec : ChangeSpec := { name := "fnExactIsCyclicCut", fn := fun _ => fun
  | [d1, d2] => { results := [.lit (.bool true)], args := [d1, d2] }
  | _ => none }
def fnExactIsCyclicCutRow : OpenClaim := { program := "ytccinfmphkihoaa", sum := "c417be37362d2dce32ac95fe78f9a6b87ddf9897fb36a670e0248b46fe2a2fef", func := "loop.example/g01329/laws.FnExactIsCyclicCut", spec := "fnExactIsCyclicCut", unfollowed := true, recurses := true, apart := false }
def FnExactIsCyclicCutSaid : Prop := fnExactIsCyclicCutRow.holds Try.pinned (OpenSpec.ofChange fnExactIsCyclicCutSpec)

/-- ITS FALSE NEIGHBOUR: 'it returns false'. Refute it at one input. -/
def fnExactIsCyclicCutWrong : ChangeSpec := { name := "fnExactIsCyclicCut", fn := fun _ => fun
  | [d1, d2] => { results := [.lit (.bool false)], args := [d1, d2] }
  | _ => none }
def FnExactIsCyclicCutWrongFalsely : Prop := fnExactIsCyclicCutRow.holds Try.pinned (OpenSpec.ofChange fnExactIsCyclicCutWrong)

/-- 'laws.FnExactHasColouring': WHATEVER THE INPUT: true; the input reads as it did. -/
def fnExactHasColouringSpec : ChangeSpec := { name := "fnExactHasColouring", fn := fun _ => fun
  | [d] => { results := [.lit (.bool true)], args := [d] }
  | _ => none }
def fnExactHasColouringRow : OpenClaim := { program := "ytccinfmphkihoaa", sum := "c417be37362d2dce32ac95fe78f9a6b87ddf9897fb36a670e0248b46fe2a2fef", func := "loop.example/g01329/laws.FnExactHasColouring", spec := "fnExactHasColouring", unfollowed := true, recurses := true, apart := false }
def FnExactHasColouringSaid : Prop := fnExactHasColouringRow.holds Try.pinned (OpenSpec.ofChange fnExactHasColouringSpec)

/-- ITS FALSE NEIGHBOUR: 'it returns false'. Refute it at one input. -/
def fnExactHasColouringWrong : ChangeSpec := { name := "fnExactHasColouring", fn := fun _ => fun
  | [d] => { results := [.lit (.bool false)], args := [d] }
  | _ => none }
def FnExactHasColouringWrongFalsely : Prop := fnExactHasColouringRow.holds Try.pinned (OpenSpec.ofChange fnExactHasColouringWrong)

/-- 'laws.FnExactCountFlows': WHATEVER THE INPUT: true; the input reads as it did. -/
def fnExactCountFlowsSpec : ChangeSpec := { name := "fnExactCountFlows", fn := fun _ => fun
  | [d1, d2] => { results := [.lit (.bool true)], args := [d1, d2] }
  | _ => none }
def fnExactCountFlowsRow : OpenClaim := { program := "ytccinfmphkihoaa", sum := "c417be37362d2dce32ac95fe78f9a6b87ddf9897fb36a670e0248b46fe2a2fef", func := "loop.example/g01329/laws.FnExactCountFlows", spec := "fnExactCountFlows", unfollowed := true, recurses := true, apart := false }
def FnExactCountFlowsSaid : Prop := fnExactCountFlowsRow.holds Try.pinned (OpenSpec.ofChange fnExactCountFlowsSpec)

/-- ITS FALSE NEIGHBOUR: 'it returns false'. Refute it at one input. -/
def fnExactCountFlowsWrong : ChangeSpec := { name := "fnExactCountFlows", fn := fun _ => fun
  | [d1, d2] => { results := [.lit (.bool false)], args := [d1, d2] }
  | _ => none }
def FnExactCountFlowsWrongFalsely : Prop := fnExactCountFlowsRow.holds Try.pinned (OpenSpec.ofChange fnExactCountFlowsWrong)

/-- 'laws.FnExactSidesOf': WHATEVER THE INPUT: true; the input reads as it did. -/
def fnExactSidesOfSpec : ChangeSpec := { name := "fnExactSidesOf", fn := fun _ => fun
  | [d1, d2] => { results := [.lit (.bool true)], args := [d1, d2] }
  | _ => none }
def fnExactSidesOfRow : OpenClaim := { program := "ytccinfmphkihoaa", sum := "c417be37362d2dce32ac95fe78f9a6b87ddf9897fb36a670e0248b46fe2a2fef", func := "loop.example/g01329/laws.FnExactSidesOf", spec := "fnExactSidesOf", unfollowed := true, recurses := true, apart := false }
def FnExactSidesOfSaid : Prop := fnExactSidesOfRow.holds Try.pinned (OpenSpec.ofChange fnExactSidesOfSpec)

/-- ITS FALSE NEIGHBOUR: 'it returns false'. Refute it at one input. -/
def fnExactSidesOfWrong : ChangeSpec := { name := "fnExactSidesOf", fn := fun _ => fun
  | [d1, d2] => { results := [.lit (.bool false)], args := [d1, d2] }
  | _ => none }
def FnExactSidesOfWrongFalsely : Prop := fnExactSidesOfRow.holds Try.pinned (OpenSpec.ofChange fnExactSidesOfWrong)

/-- 'laws.FnExactCyclicConnectivity': WHATEVER THE INPUT: true; the input reads as it did. -/
def fnExactCyclicConnectivitySpec : ChangeSpec := { name := "fnExactCyclicConnectivity", fn := fun _ => fun
  | [d] => { results := [.lit (.bool true)], args := [d] }
  | _ => none }
def fnExactCyclicConnectivityRow : OpenClaim := { program := "ytccinfmphkihoaa", sum := "c417be37362d2dce32ac95fe78f9a6b87ddf9897fb36a670e0248b46fe2a2fef", func := "loop.example/g01329/laws.FnExactCyclicConnectivity", spec := "fnExactCyclicConnectivity", unfollowed := true, recurses := true, apart := false }
def FnExactCyclicConnectivitySaid : Prop := fnExactCyclicConnectivityRow.holds Try.pinned (OpenSpec.ofChange fnExactCyclicConnectivitySpec)

/-- ITS FALSE NEIGHBOUR: 'it returns false'. Refute it at one input. -/
def fnExactCyclicConnectivityWrong : ChangeSpec := { name := "fnExactCyclicConnectivity", fn := fun _ => fun
  | [d] => { results := [.lit (.bool false)], args := [d] }
  | _ => none }
def FnExactCyclicConnectivityWrongFalsely : Prop := fnExactCyclicConnectivityRow.holds Try.pinned (OpenSpec.ofChange fnExactCyclicConnectivityWrong)

/-- 'laws.FnExactCountColourings': WHATEVER THE INPUT: true; the input reads as it did. -/
def fnExactCountColouringsSpec : ChangeSpec := { name := "fnExactCountColourings", fn := fun _ => fun
  | [d] => { results := [.lit (.bool true)], args := [d] }
  | _ => none }
def fnExactCountColouringsRow : OpenClaim := { program := "ytccinfmphkihoaa", sum := "c417be37362d2dce32ac95fe78f9a6b87ddf9897fb36a670e0248b46fe2a2fef", func := "loop.example/g01329/laws.FnExactCountColourings", spec := "fnExactCountColourings", unfollowed := true, recurses := true, apart := false }
def FnExactCountColouringsSaid : Prop := fnExactCountColouringsRow.holds Try.pinned (OpenSpec.ofChange fnExactCountColouringsSpec)

/-- ITS FALSE NEIGHBOUR: 'it returns false'. Refute it at one input. -/
def fnExactCountColouringsWrong : ChangeSpec := { name := "fnExactCountColourings", fn := fun _ => fun
  | [d] => { results := [.lit (.bool false)], args := [d] }
  | _ => none }
def FnExactCountColouringsWrongFalsely : Prop := fnExactCountColouringsRow.holds Try.pinned (OpenSpec.ofChange fnExactCountColouringsWrong)

/-- 'laws.FnExactFirstColouring': WHATEVER THE INPUT: true; the input reads as it did. -/
def fnExactFirstColouringSpec : ChangeSpec := { name := "fnExactFirstColouring", fn := fun _ => fun
  | [d] => { results := [.lit (.bool true)], args := [d] }
  | _ => none }
def fnExactFirstColouringRow : OpenClaim := { program := "ytccinfmphkihoaa", sum := "c417be37362d2dce32ac95fe78f9a6b87ddf9897fb36a670e0248b46fe2a2fef", func := "loop.example/g01329/laws.FnExactFirstColouring", spec := "fnExactFirstColouring", unfollowed := true, recurses := true, apart := false }
def FnExactFirstColouringSaid : Prop := fnExactFirstColouringRow.holds Try.pinned (OpenSpec.ofChange fnExactFirstColouringSpec)

/-- ITS FALSE NEIGHBOUR: 'it returns false'. Refute it at one input. -/
def fnExactFirstColouringWrong : ChangeSpec := { name := "fnExactFirstColouring", fn := fun _ => fun
  | [d] => { results := [.lit (.bool false)], args := [d] }
  | _ => none }
def FnExactFirstColouringWrongFalsely : Prop := fnExactFirstColouringRow.holds Try.pinned (OpenSpec.ofChange fnExactFirstColouringWrong)

/- THE SECOND FORM. 'bulk': how many values and letters a reading holds, each counted each time it is reached (what is shared counts as often as it is met; a slice's spare places count too). A statement '..UptoSaid' is the law's where the arguments, and the package variables that the reading takes, are together of bulk at most 1048576: NARROWER than '..Said'. Prove '..Said' where nothing that the law and all that it calls make is longer than what came in: it says more and counts as full. Else prove '..UptoSaid'. A law counts once. -/
mutual
def uptoBulk {H : Type} : DataW H → Nat
  | .lit (.string bytes) => bytes.length + 1
  | .lit _ => 1
  | .nil => 1
  | .ptr d => uptoBulk d + 1
  | .slice elems spare => uptoBulkAll elems + uptoBulkAll spare + 1
  | .agg parts => uptoBulkAll parts + 1
  | .iface _ d => uptoBulk d + 1
  | .map entries => uptoBulkEntries entries + 1
  | .held _ => 1
def uptoBulkAll {H : Type} : List (DataW H) → Nat
  | [] => 0
  | d :: r => uptoBulk d + uptoBulkAll r
def uptoBulkEntries {H : Type} : List (Lit × DataW H) → Nat
  | [] => 0
  | x :: r => uptoBulkEntry x + uptoBulkEntries r
def uptoBulkEntry {H : Type} : Lit × DataW H → Nat
  | (.string bytes, d) => bytes.length + uptoBulk d + 1
  | (_, d) => uptoBulk d + 1
 end
def uptoSmall : (H : Type) → List (DataW H) → Bool := fun _ ds => decide (uptoBulkAll ds ≤ 1048576)
def OpenSpec.upto (s : _root_.Go.ChangeSpec) : _root_.Go.OpenSpec := { _root_.Go.OpenSpec.ofChange s with cond := some uptoSmall }

/-- 'laws.FnExactEdgeConnectivity', WHERE WHAT IT READS IS OF BULK AT MOST 1048576: true; the input reads as it did. -/
def fnExactEdgeConnectivityUptoRow : OpenClaim := { program := "ytccinfmphkihoaa", sum := "c417be37362d2dce32ac95fe78f9a6b87ddf9897fb36a670e0248b46fe2a2fef", func := "loop.example/g01329/laws.FnExactEdgeConnectivity", spec := "fnExactEdgeConnectivity", unfollowed := true, recurses := true, apart := false, narrowed := true }
def FnExactEdgeConnectivityUptoSaid : Prop := fnExactEdgeConnectivityUptoRow.holds Try.pinned (OpenSpec.upto fnExactEdgeConnectivitySpec)

/-- 'laws.FnExactBridgesOf', WHERE WHAT IT READS IS OF BULK AT MOST 1048576: true; the input reads as it did. -/
def fnExactBridgesOfUptoRow : OpenClaim := { program := "ytccinfmphkihoaa", sum := "c417be37362d2dce32ac95fe78f9a6b87ddf9897fb36a670e0248b46fe2a2fef", func := "loop.example/g01329/laws.FnExactBridgesOf", spec := "fnExactBridgesOf", unfollowed := true, recurses := true, apart := false, narrowed := true }
def FnExactBridgesOfUptoSaid : Prop := fnExactBridgesOfUptoRow.holds Try.pinned (OpenSpec.upto fnExactBridgesOfSpec)

/-- 'laws.FnExactPartsOf', WHERE WHAT IT READS IS OF BULK AT MOST 1048576: true; the input reads as it did. -/
def fnExactPartsOfUptoRow : OpenClaim := { program := "ytccinfmphkihoaa", sum := "c417be37362d2dce32ac95fe78f9a6b87ddf9897fb36a670e0248b46fe2a2fef", func := "loop.example/g01329/laws.FnExactPartsOf", spec := "fnExactPartsOf", unfollowed := true, recurses := true, apart := false, narrowed := true }
def FnExactPartsOfUptoSaid : Prop := fnExactPartsOfUptoRow.holds Try.pinned (OpenSpec.upto fnExactPartsOfSpec)

/-- 'laws.FnExactCountSides', WHERE WHAT IT READS IS OF BULK AT MOST 1048576: true; the input reads as it did. -/
def fnExactCountSidesUptoRow : OpenClaim := { program := "ytccinfmphkihoaa", sum := "c417be37362d2dce32ac95fe78f9a6b87ddf9897fb36a670e0248b46fe2a2fef", func := "loop.example/g01329/laws.FnExactCountSides", spec := "fnExactCountSides", unfollowed := true, recurses := true, apart := false, narrowed := true }
def FnExactCountSidesUptoSaid : Prop := fnExactCountSidesUptoRow.holds Try.pinned (OpenSpec.upto fnExactCountSidesSpec)

/-- 'laws.FnExactCountPairFlows', WHERE WHAT IT READS IS OF BULK AT MOST 1048576: true; the input reads as it did. -/
def fnExactCountPairFlowsUptoRow : OpenClaim := { program := "ytccinfmphkihoaa", sum := "c417be37362d2dce32ac95fe78f9a6b87ddf9897fb36a670e0248b46fe2a2fef", func := "loop.example/g01329/laws.FnExactCountPairFlows", spec := "fnExactCountPairFlows", unfollowed := true, recurses := true, apart := false, narrowed := true }
def FnExactCountPairFlowsUptoSaid : Prop := fnExactCountPairFlowsUptoRow.holds Try.pinned (OpenSpec.upto fnExactCountPairFlowsSpec)

/-- 'laws.FnExactIsCyclicCut', WHERE WHAT IT READS IS OF BULK AT MOST 1048576: true; the input reads as it did. -/
def fnExactIsCyclicCutUptoRow : OpenClaim := { program := "ytccinfmphkihoaa", sum := "c417be37362d2dce32ac95fe78f9a6b87ddf9897fb36a670e0248b46fe2a2fef", func := "loop.example/g01329/laws.FnExactIsCyclicCut", spec := "fnExactIsCyclicCut", unfollowed := true, recurses := true, apart := false, narrowed := true }
def FnExactIsCyclicCutUptoSaid : Prop := fnExactIsCyclicCutUptoRow.holds Try.pinned (OpenSpec.upto fnExactIsCyclicCutSpec)

/-- 'laws.FnExactHasColouring', WHERE WHAT IT READS IS OF BULK AT MOST 1048576: true; the input reads as it did. -/
def fnExactHasColouringUptoRow : OpenClaim := { program := "ytccinfmphkihoaa", sum := "c417be37362d2dce32ac95fe78f9a6b87ddf9897fb36a670e0248b46fe2a2fef", func := "loop.example/g01329/laws.FnExactHasColouring", spec := "fnExactHasColouring", unfollowed := true, recurses := true, apart := false, narrowed := true }
def FnExactHasColouringUptoSaid : Prop := fnExactHasColouringUptoRow.holds Try.pinned (OpenSpec.upto fnExactHasColouringSpec)

/-- 'laws.FnExactCountFlows', WHERE WHAT IT READS IS OF BULK AT MOST 1048576: true; the input reads as it did. -/
def fnExactCountFlowsUptoRow : OpenClaim := { program := "ytccinfmphkihoaa", sum := "c417be37362d2dce32ac95fe78f9a6b87ddf9897fb36a670e0248b46fe2a2fef", func := "loop.example/g01329/laws.FnExactCountFlows", spec := "fnExactCountFlows", unfollowed := true, recurses := true, apart := false, narrowed := true }
def FnExactCountFlowsUptoSaid : Prop := fnExactCountFlowsUptoRow.holds Try.pinned (OpenSpec.upto fnExactCountFlowsSpec)

/-- 'laws.FnExactSidesOf', WHERE WHAT IT READS IS OF BULK AT MOST 1048576: true; the input reads as it did. -/
def fnExactSidesOfUptoRow : OpenClaim := { program := "ytccinfmphkihoaa", sum := "c417be37362d2dce32ac95fe78f9a6b87ddf9897fb36a670e0248b46fe2a2fef", func := "loop.example/g01329/laws.FnExactSidesOf", spec := "fnExactSidesOf", unfollowed := true, recurses := true, apart := false, narrowed := true }
def FnExactSidesOfUptoSaid : Prop := fnExactSidesOfUptoRow.holds Try.pinned (OpenSpec.upto fnExactSidesOfSpec)

/-- 'laws.FnExactCyclicConnectivity', WHERE WHAT IT READS IS OF BULK AT MOST 1048576: true; the input reads as it did. -/
def fnExactCyclicConnectivityUptoRow : OpenClaim := { program := "ytccinfmphkihoaa", sum := "c417be37362d2dce32ac95fe78f9a6b87ddf9897fb36a670e0248b46fe2a2fef", func := "loop.example/g01329/laws.FnExactCyclicConnectivity", spec := "fnExactCyclicConnectivity", unfollowed := true, recurses := true, apart := false, narrowed := true }
def FnExactCyclicConnectivityUptoSaid : Prop := fnExactCyclicConnectivityUptoRow.holds Try.pinned (OpenSpec.upto fnExactCyclicConnectivitySpec)

/-- 'laws.FnExactCountColourings', WHERE WHAT IT READS IS OF BULK AT MOST 1048576: true; the input reads as it did. -/
def fnExactCountColouringsUptoRow : OpenClaim := { program := "ytccinfmphkihoaa", sum := "c417be37362d2dce32ac95fe78f9a6b87ddf9897fb36a670e0248b46fe2a2fef", func := "loop.example/g01329/laws.FnExactCountColourings", spec := "fnExactCountColourings", unfollowed := true, recurses := true, apart := false, narrowed := true }
def FnExactCountColouringsUptoSaid : Prop := fnExactCountColouringsUptoRow.holds Try.pinned (OpenSpec.upto fnExactCountColouringsSpec)

/-- 'laws.FnExactFirstColouring', WHERE WHAT IT READS IS OF BULK AT MOST 1048576: true; the input reads as it did. -/
def fnExactFirstColouringUptoRow : OpenClaim := { program := "ytccinfmphkihoaa", sum := "c417be37362d2dce32ac95fe78f9a6b87ddf9897fb36a670e0248b46fe2a2fef", func := "loop.example/g01329/laws.FnExactFirstColouring", spec := "fnExactFirstColouring", unfollowed := true, recurses := true, apart := false, narrowed := true }
def FnExactFirstColouringUptoSaid : Prop := fnExactFirstColouringUptoRow.holds Try.pinned (OpenSpec.upto fnExactFirstColouringSpec)

end Rows
end Go.Proofs.Ytccinfmphkihoaa
