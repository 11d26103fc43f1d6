/-
  No cell of these rows narrows 'for every input' (looked for: loops, veiled, ifaces, maps, wideKeys, modest, calm, conditions, laid).
  DERIVED. THE GIVEN ROWS OF THIS SEAT. 11 by the template 'for every input the law returns true; each argument reads behind the call as it read before'; 0 by the template 'total and deterministic' (their statements: YtjaffbpgochemaaTotals.lean).
  GIVEN WITH THE SEED: the statements are not yours to turn. If you find one false, say at which input.
  Laid BY PROGRAM, IN A SANDBOX (cutbox-rows.mjs): the forced cells as the released guide's own fill.sh prints them over the translation 55518b43cdd36068… (all of the seat's roots in one cut). By AI agents, Wed Nov 11 2026. No macro, syntax, notation, axiom, sorry.
-/
import Derived.Test.YtjaffbpgochemaaChecked
import GoSem.Claim
import GoSem.ClaimJoined
import GoSem.ClaimMapViews
import Derived.JoinedTies
import Derived.KernelRfl
namespace Go.Proofs.Ytjaffbpgochemaa
/- THE CELL 'sum', in the pinned program and in every row, IS THE sha256 OF THE DUMP (.gsa) THAT YtjaffbpgochemaaProg.lean LOADS. Nothing in Lean hashes anything: it is a label: what it is worth is what the hold of that sum in a sandbox is worth. -/
noncomputable def Try.pinned : Pinned := { name := "ytjaffbpgochemaa", sum := "55518b43cdd360689c2041cb652a6ed243a1af3efaf78961e0fe6da4162f13b0", checked := Try.checked }
namespace Rows
def none {H : Type} : Left H := { results := [], args := [] }

/-- 'laws.FnExactConstants': WHATEVER THE INPUT: true; the input reads as it did. -/
def fnExactConstantsSpec : ChangeSpec := { name := "fnExactConstants", fn := fun _ => fun
  | [] => { results := [.lit (.bool true)], args := [] }
  | _ => none }
def fnExactConstantsRow : OpenClaim := { program := "ytjaffbpgochemaa", sum := "55518b43cdd360689c2041cb652a6ed243a1af3efaf78961e0fe6da4162f13b0", func := "loop.example/g01329/laws.FnExactConstants", spec := "fnExactConstants", apart := false }
def FnExactConstantsSaid : Prop := fnExactConstantsRow.holds Try.pinned (OpenSpec.ofChange fnExactConstantsSpec)

/-- ITS FALSE NEIGHBOUR: 'it returns false'. Refute it at one input. -/
def fnExactConstantsWrong : ChangeSpec := { name := "fnExactConstants", fn := fun _ => fun
  | [] => { results := [.lit (.bool false)], args := [] }
  | _ => none }
def FnExactConstantsWrongFalsely : Prop := fnExactConstantsRow.holds Try.pinned (OpenSpec.ofChange fnExactConstantsWrong)

/-- 'laws.FnExactIsGraph': WHATEVER THE INPUT: true; the input reads as it did. -/
def fnExactIsGraphSpec : ChangeSpec := { name := "fnExactIsGraph", fn := fun _ => fun
  | [d] => { results := [.lit (.bool true)], args := [d] }
  | _ => none }
def fnExactIsGraphRow : OpenClaim := { program := "ytjaffbpgochemaa", sum := "55518b43cdd360689c2041cb652a6ed243a1af3efaf78961e0fe6da4162f13b0", func := "loop.example/g01329/laws.FnExactIsGraph", spec := "fnExactIsGraph", unfollowed := true, recurses := true, apart := false }
def FnExactIsGraphSaid : Prop := fnExactIsGraphRow.holds Try.pinned (OpenSpec.ofChange fnExactIsGraphSpec)

/-- ITS FALSE NEIGHBOUR: 'it returns false'. Refute it at one input. -/
def fnExactIsGraphWrong : ChangeSpec := { name := "fnExactIsGraph", fn := fun _ => fun
  | [d] => { results := [.lit (.bool false)], args := [d] }
  | _ => none }
def FnExactIsGraphWrongFalsely : Prop := fnExactIsGraphRow.holds Try.pinned (OpenSpec.ofChange fnExactIsGraphWrong)

/-- 'laws.FnExactOtherEnd': WHATEVER THE INPUT: true; the input reads as it did. -/
def fnExactOtherEndSpec : ChangeSpec := { name := "fnExactOtherEnd", fn := fun _ => fun
  | [d1, d2, d3] => { results := [.lit (.bool true)], args := [d1, d2, d3] }
  | _ => none }
def fnExactOtherEndRow : OpenClaim := { program := "ytjaffbpgochemaa", sum := "55518b43cdd360689c2041cb652a6ed243a1af3efaf78961e0fe6da4162f13b0", func := "loop.example/g01329/laws.FnExactOtherEnd", spec := "fnExactOtherEnd", unfollowed := true, recurses := true, apart := false }
def FnExactOtherEndSaid : Prop := fnExactOtherEndRow.holds Try.pinned (OpenSpec.ofChange fnExactOtherEndSpec)

/-- ITS FALSE NEIGHBOUR: 'it returns false'. Refute it at one input. -/
def fnExactOtherEndWrong : ChangeSpec := { name := "fnExactOtherEnd", fn := fun _ => fun
  | [d1, d2, d3] => { results := [.lit (.bool false)], args := [d1, d2, d3] }
  | _ => none }
def FnExactOtherEndWrongFalsely : Prop := fnExactOtherEndRow.holds Try.pinned (OpenSpec.ofChange fnExactOtherEndWrong)

/-- 'laws.FnExactIsMatching': WHATEVER THE INPUT: true; the input reads as it did. -/
def fnExactIsMatchingSpec : ChangeSpec := { name := "fnExactIsMatching", fn := fun _ => fun
  | [d1, d2] => { results := [.lit (.bool true)], args := [d1, d2] }
  | _ => none }
def fnExactIsMatchingRow : OpenClaim := { program := "ytjaffbpgochemaa", sum := "55518b43cdd360689c2041cb652a6ed243a1af3efaf78961e0fe6da4162f13b0", func := "loop.example/g01329/laws.FnExactIsMatching", spec := "fnExactIsMatching", unfollowed := true, recurses := true, apart := false }
def FnExactIsMatchingSaid : Prop := fnExactIsMatchingRow.holds Try.pinned (OpenSpec.ofChange fnExactIsMatchingSpec)

/-- ITS FALSE NEIGHBOUR: 'it returns false'. Refute it at one input. -/
def fnExactIsMatchingWrong : ChangeSpec := { name := "fnExactIsMatching", fn := fun _ => fun
  | [d1, d2] => { results := [.lit (.bool false)], args := [d1, d2] }
  | _ => none }
def FnExactIsMatchingWrongFalsely : Prop := fnExactIsMatchingRow.holds Try.pinned (OpenSpec.ofChange fnExactIsMatchingWrong)

/-- 'laws.FnExactIsColouring': WHATEVER THE INPUT: true; the input reads as it did. -/
def fnExactIsColouringSpec : ChangeSpec := { name := "fnExactIsColouring", fn := fun _ => fun
  | [d1, d2] => { results := [.lit (.bool true)], args := [d1, d2] }
  | _ => none }
def fnExactIsColouringRow : OpenClaim := { program := "ytjaffbpgochemaa", sum := "55518b43cdd360689c2041cb652a6ed243a1af3efaf78961e0fe6da4162f13b0", func := "loop.example/g01329/laws.FnExactIsColouring", spec := "fnExactIsColouring", unfollowed := true, recurses := true, apart := false }
def FnExactIsColouringSaid : Prop := fnExactIsColouringRow.holds Try.pinned (OpenSpec.ofChange fnExactIsColouringSpec)

/-- ITS FALSE NEIGHBOUR: 'it returns false'. Refute it at one input. -/
def fnExactIsColouringWrong : ChangeSpec := { name := "fnExactIsColouring", fn := fun _ => fun
  | [d1, d2] => { results := [.lit (.bool false)], args := [d1, d2] }
  | _ => none }
def FnExactIsColouringWrongFalsely : Prop := fnExactIsColouringRow.holds Try.pinned (OpenSpec.ofChange fnExactIsColouringWrong)

/-- 'laws.FnExactNamedGraph': WHATEVER THE INPUT: true; the input reads as it did. -/
def fnExactNamedGraphSpec : ChangeSpec := { name := "fnExactNamedGraph", fn := fun _ => fun
  | [d] => { results := [.lit (.bool true)], args := [d] }
  | _ => none }
def fnExactNamedGraphRow : OpenClaim := { program := "ytjaffbpgochemaa", sum := "55518b43cdd360689c2041cb652a6ed243a1af3efaf78961e0fe6da4162f13b0", func := "loop.example/g01329/laws.FnExactNamedGraph", spec := "fnExactNamedGraph", unfollowed := true, recurses := true, apart := false }
def FnExactNamedGraphSaid : Prop := fnExactNamedGraphRow.holds Try.pinned (OpenSpec.ofChange fnExactNamedGraphSpec)

/-- ITS FALSE NEIGHBOUR: 'it returns false'. Refute it at one input. -/
def fnExactNamedGraphWrong : ChangeSpec := { name := "fnExactNamedGraph", fn := fun _ => fun
  | [d] => { results := [.lit (.bool false)], args := [d] }
  | _ => none }
def FnExactNamedGraphWrongFalsely : Prop := fnExactNamedGraphRow.holds Try.pinned (OpenSpec.ofChange fnExactNamedGraphWrong)

/-- 'laws.FnExactEdgesAt': WHATEVER THE INPUT: true; the input reads as it did. -/
def fnExactEdgesAtSpec : ChangeSpec := { name := "fnExactEdgesAt", fn := fun _ => fun
  | [d1, d2] => { results := [.lit (.bool true)], args := [d1, d2] }
  | _ => none }
def fnExactEdgesAtRow : OpenClaim := { program := "ytjaffbpgochemaa", sum := "55518b43cdd360689c2041cb652a6ed243a1af3efaf78961e0fe6da4162f13b0", func := "loop.example/g01329/laws.FnExactEdgesAt", spec := "fnExactEdgesAt", unfollowed := true, recurses := true, apart := false }
def FnExactEdgesAtSaid : Prop := fnExactEdgesAtRow.holds Try.pinned (OpenSpec.ofChange fnExactEdgesAtSpec)

/-- ITS FALSE NEIGHBOUR: 'it returns false'. Refute it at one input. -/
def fnExactEdgesAtWrong : ChangeSpec := { name := "fnExactEdgesAt", fn := fun _ => fun
  | [d1, d2] => { results := [.lit (.bool false)], args := [d1, d2] }
  | _ => none }
def FnExactEdgesAtWrongFalsely : Prop := fnExactEdgesAtRow.holds Try.pinned (OpenSpec.ofChange fnExactEdgesAtWrong)

/-- 'laws.FnExactIsFlow': WHATEVER THE INPUT: true; the input reads as it did. -/
def fnExactIsFlowSpec : ChangeSpec := { name := "fnExactIsFlow", fn := fun _ => fun
  | [d1, d2, d3] => { results := [.lit (.bool true)], args := [d1, d2, d3] }
  | _ => none }
def fnExactIsFlowRow : OpenClaim := { program := "ytjaffbpgochemaa", sum := "55518b43cdd360689c2041cb652a6ed243a1af3efaf78961e0fe6da4162f13b0", func := "loop.example/g01329/laws.FnExactIsFlow", spec := "fnExactIsFlow", unfollowed := true, recurses := true, apart := false }
def FnExactIsFlowSaid : Prop := fnExactIsFlowRow.holds Try.pinned (OpenSpec.ofChange fnExactIsFlowSpec)

/-- ITS FALSE NEIGHBOUR: 'it returns false'. Refute it at one input. -/
def fnExactIsFlowWrong : ChangeSpec := { name := "fnExactIsFlow", fn := fun _ => fun
  | [d1, d2, d3] => { results := [.lit (.bool false)], args := [d1, d2, d3] }
  | _ => none }
def FnExactIsFlowWrongFalsely : Prop := fnExactIsFlowRow.holds Try.pinned (OpenSpec.ofChange fnExactIsFlowWrong)

/-- 'laws.FnExactIsWholeFlow': WHATEVER THE INPUT: true; the input reads as it did. -/
def fnExactIsWholeFlowSpec : ChangeSpec := { name := "fnExactIsWholeFlow", fn := fun _ => fun
  | [d1, d2, d3] => { results := [.lit (.bool true)], args := [d1, d2, d3] }
  | _ => none }
def fnExactIsWholeFlowRow : OpenClaim := { program := "ytjaffbpgochemaa", sum := "55518b43cdd360689c2041cb652a6ed243a1af3efaf78961e0fe6da4162f13b0", func := "loop.example/g01329/laws.FnExactIsWholeFlow", spec := "fnExactIsWholeFlow", unfollowed := true, recurses := true, apart := false }
def FnExactIsWholeFlowSaid : Prop := fnExactIsWholeFlowRow.holds Try.pinned (OpenSpec.ofChange fnExactIsWholeFlowSpec)

/-- ITS FALSE NEIGHBOUR: 'it returns false'. Refute it at one input. -/
def fnExactIsWholeFlowWrong : ChangeSpec := { name := "fnExactIsWholeFlow", fn := fun _ => fun
  | [d1, d2, d3] => { results := [.lit (.bool false)], args := [d1, d2, d3] }
  | _ => none }
def FnExactIsWholeFlowWrongFalsely : Prop := fnExactIsWholeFlowRow.holds Try.pinned (OpenSpec.ofChange fnExactIsWholeFlowWrong)

/-- 'laws.FnExactIsNowhereZero': WHATEVER THE INPUT: true; the input reads as it did. -/
def fnExactIsNowhereZeroSpec : ChangeSpec := { name := "fnExactIsNowhereZero", fn := fun _ => fun
  | [d1, d2, d3] => { results := [.lit (.bool true)], args := [d1, d2, d3] }
  | _ => none }
def fnExactIsNowhereZeroRow : OpenClaim := { program := "ytjaffbpgochemaa", sum := "55518b43cdd360689c2041cb652a6ed243a1af3efaf78961e0fe6da4162f13b0", func := "loop.example/g01329/laws.FnExactIsNowhereZero", spec := "fnExactIsNowhereZero", unfollowed := true, recurses := true, apart := false }
def FnExactIsNowhereZeroSaid : Prop := fnExactIsNowhereZeroRow.holds Try.pinned (OpenSpec.ofChange fnExactIsNowhereZeroSpec)

/-- ITS FALSE NEIGHBOUR: 'it returns false'. Refute it at one input. -/
def fnExactIsNowhereZeroWrong : ChangeSpec := { name := "fnExactIsNowhereZero", fn := fun _ => fun
  | [d1, d2, d3] => { results := [.lit (.bool false)], args := [d1, d2, d3] }
  | _ => none }
def FnExactIsNowhereZeroWrongFalsely : Prop := fnExactIsNowhereZeroRow.holds Try.pinned (OpenSpec.ofChange fnExactIsNowhereZeroWrong)

/-- 'laws.FnExactEdgesLeaving': WHATEVER THE INPUT: true; the input reads as it did. -/
def fnExactEdgesLeavingSpec : ChangeSpec := { name := "fnExactEdgesLeaving", fn := fun _ => fun
  | [d1, d2] => { results := [.lit (.bool true)], args := [d1, d2] }
  | _ => none }
def fnExactEdgesLeavingRow : OpenClaim := { program := "ytjaffbpgochemaa", sum := "55518b43cdd360689c2041cb652a6ed243a1af3efaf78961e0fe6da4162f13b0", func := "loop.example/g01329/laws.FnExactEdgesLeaving", spec := "fnExactEdgesLeaving", unfollowed := true, recurses := true, apart := false }
def FnExactEdgesLeavingSaid : Prop := fnExactEdgesLeavingRow.holds Try.pinned (OpenSpec.ofChange fnExactEdgesLeavingSpec)

/-- ITS FALSE NEIGHBOUR: 'it returns false'. Refute it at one input. -/
def fnExactEdgesLeavingWrong : ChangeSpec := { name := "fnExactEdgesLeaving", fn := fun _ => fun
  | [d1, d2] => { results := [.lit (.bool false)], args := [d1, d2] }
  | _ => none }
def FnExactEdgesLeavingWrongFalsely : Prop := fnExactEdgesLeavingRow.holds Try.pinned (OpenSpec.ofChange fnExactEdgesLeavingWrong)

/- THE SECOND FORM. 'bulk': how many values and letters a reading holds, each counted each time it is reached (what is shared counts as often as it is met; a slice's spare places count too). A statement '..UptoSaid' is the law's where the arguments, and the package variables that the reading takes, are together of bulk at most 1048576: NARROWER than '..Said'. Prove '..Said' where nothing that the law and all that it calls make is longer than what came in: it says more and counts as full. Else prove '..UptoSaid'. A law counts once. -/
mutual
def uptoBulk {H : Type} : DataW H → Nat
  | .lit (.string bytes) => bytes.length + 1
  | .lit _ => 1
  | .nil => 1
  | .ptr d => uptoBulk d + 1
  | .slice elems spare => uptoBulkAll elems + uptoBulkAll spare + 1
  | .agg parts => uptoBulkAll parts + 1
  | .iface _ d => uptoBulk d + 1
  | .map entries => uptoBulkEntries entries + 1
  | .held _ => 1
def uptoBulkAll {H : Type} : List (DataW H) → Nat
  | [] => 0
  | d :: r => uptoBulk d + uptoBulkAll r
def uptoBulkEntries {H : Type} : List (Lit × DataW H) → Nat
  | [] => 0
  | x :: r => uptoBulkEntry x + uptoBulkEntries r
def uptoBulkEntry {H : Type} : Lit × DataW H → Nat
  | (.string bytes, d) => bytes.length + uptoBulk d + 1
  | (_, d) => uptoBulk d + 1
 end
def uptoSmall : (H : Type) → List (DataW H) → Bool := fun _ ds => decide (uptoBulkAll ds ≤ 1048576)
def OpenSpec.upto (s : _root_.Go.ChangeSpec) : _root_.Go.OpenSpec := { _root_.Go.OpenSpec.ofChange s with cond := some uptoSmall }

/-- 'laws.FnExactConstants', WHERE WHAT IT READS IS OF BULK AT MOST 1048576: true; the input reads as it did. -/
def fnExactConstantsUptoRow : OpenClaim := { program := "ytjaffbpgochemaa", sum := "55518b43cdd360689c2041cb652a6ed243a1af3efaf78961e0fe6da4162f13b0", func := "loop.example/g01329/laws.FnExactConstants", spec := "fnExactConstants", apart := false, narrowed := true }
def FnExactConstantsUptoSaid : Prop := fnExactConstantsUptoRow.holds Try.pinned (OpenSpec.upto fnExactConstantsSpec)

/-- 'laws.FnExactIsGraph', WHERE WHAT IT READS IS OF BULK AT MOST 1048576: true; the input reads as it did. -/
def fnExactIsGraphUptoRow : OpenClaim := { program := "ytjaffbpgochemaa", sum := "55518b43cdd360689c2041cb652a6ed243a1af3efaf78961e0fe6da4162f13b0", func := "loop.example/g01329/laws.FnExactIsGraph", spec := "fnExactIsGraph", unfollowed := true, recurses := true, apart := false, narrowed := true }
def FnExactIsGraphUptoSaid : Prop := fnExactIsGraphUptoRow.holds Try.pinned (OpenSpec.upto fnExactIsGraphSpec)

/-- 'laws.FnExactOtherEnd', WHERE WHAT IT READS IS OF BULK AT MOST 1048576: true; the input reads as it did. -/
def fnExactOtherEndUptoRow : OpenClaim := { program := "ytjaffbpgochemaa", sum := "55518b43cdd360689c2041cb652a6ed243a1af3efaf78961e0fe6da4162f13b0", func := "loop.example/g01329/laws.FnExactOtherEnd", spec := "fnExactOtherEnd", unfollowed := true, recurses := true, apart := false, narrowed := true }
def FnExactOtherEndUptoSaid : Prop := fnExactOtherEndUptoRow.holds Try.pinned (OpenSpec.upto fnExactOtherEndSpec)

/-- 'laws.FnExactIsMatching', WHERE WHAT IT READS IS OF BULK AT MOST 1048576: true; the input reads as it did. -/
def fnExactIsMatchingUptoRow : OpenClaim := { program := "ytjaffbpgochemaa", sum := "55518b43cdd360689c2041cb652a6ed243a1af3efaf78961e0fe6da4162f13b0", func := "loop.example/g01329/laws.FnExactIsMatching", spec := "fnExactIsMatching", unfollowed := true, recurses := true, apart := false, narrowed := true }
def FnExactIsMatchingUptoSaid : Prop := fnExactIsMatchingUptoRow.holds Try.pinned (OpenSpec.upto fnExactIsMatchingSpec)

/-- 'laws.FnExactIsColouring', WHERE WHAT IT READS IS OF BULK AT MOST 1048576: true; the input reads as it did. -/
def fnExactIsColouringUptoRow : OpenClaim := { program := "ytjaffbpgochemaa", sum := "55518b43cdd360689c2041cb652a6ed243a1af3efaf78961e0fe6da4162f13b0", func := "loop.example/g01329/laws.FnExactIsColouring", spec := "fnExactIsColouring", unfollowed := true, recurses := true, apart := false, narrowed := true }
def FnExactIsColouringUptoSaid : Prop := fnExactIsColouringUptoRow.holds Try.pinned (OpenSpec.upto fnExactIsColouringSpec)

/-- 'laws.FnExactNamedGraph', WHERE WHAT IT READS IS OF BULK AT MOST 1048576: true; the input reads as it did. -/
def fnExactNamedGraphUptoRow : OpenClaim := { program := "ytjaffbpgochemaa", sum := "55518b43cdd360689c2041cb652a6ed243a1af3efaf78961e0fe6da4162f13b0", func := "loop.example/g01329/laws.FnExactNamedGraph", spec := "fnExactNamedGraph", unfollowed := true, recurses := true, apart := false, narrowed := true }
def FnExactNamedGraphUptoSaid : Prop := fnExactNamedGraphUptoRow.holds Try.pinned (OpenSpec.upto fnExactNamedGraphSpec)

/-- 'laws.FnExactEdgesAt', WHERE WHAT IT READS IS OF BULK AT MOST 1048576: true; the input reads as it did. -/
def fnExactEdgesAtUptoRow : OpenClaim := { program := "ytjaffbpgochemaa", sum := "55518b43cdd360689c2041cb652a6ed243a1af3efaf78961e0fe6da4162f13b0", func := "loop.example/g01329/laws.FnExactEdgesAt", spec := "fnExactEdgesAt", unfollowed := true, recurses := true, apart := false, narrowed := true }
def FnExactEdgesAtUptoSaid : Prop := fnExactEdgesAtUptoRow.holds Try.pinned (OpenSpec.upto fnExactEdgesAtSpec)

/-- 'laws.FnExactIsFlow', WHERE WHAT IT READS IS OF BULK AT MOST 1048576: true; the input reads as it did. -/
def fnExactIsFlowUptoRow : OpenClaim := { program := "ytjaffbpgochemaa", sum := "55518b43cdd360689c2041cb652a6ed243a1af3efaf78961e0fe6da4162f13b0", func := "loop.example/g01329/laws.FnExactIsFlow", spec := "fnExactIsFlow", unfollowed := true, recurses := true, apart := false, narrowed := true }
def FnExactIsFlowUptoSaid : Prop := fnExactIsFlowUptoRow.holds Try.pinned (OpenSpec.upto fnExactIsFlowSpec)

/-- 'laws.FnExactIsWholeFlow', WHERE WHAT IT READS IS OF BULK AT MOST 1048576: true; the input reads as it did. -/
def fnExactIsWholeFlowUptoRow : OpenClaim := { program := "ytjaffbpgochemaa", sum := "55518b43cdd360689c2041cb652a6ed243a1af3efaf78961e0fe6da4162f13b0", func := "loop.example/g01329/laws.FnExactIsWholeFlow", spec := "fnExactIsWholeFlow", unfollowed := true, recurses := true, apart := false, narrowed := true }
def FnExactIsWholeFlowUptoSaid : Prop := fnExactIsWholeFlowUptoRow.holds Try.pinned (OpenSpec.upto fnExactIsWholeFlowSpec)

/-- 'laws.FnExactIsNowhereZero', WHERE WHAT IT READS IS OF BULK AT MOST 1048576: true; the input reads as it did. -/
def fnExactIsNowhereZeroUptoRow : OpenClaim := { program := "ytjaffbpgochemaa", sum := "55518b43cdd360689c2041cb652a6ed243a1af3efaf78961e0fe6da4162f13b0", func := "loop.example/g01329/laws.FnExactIsNowhereZero", spec := "fnExactIsNowhereZero", unfollowed := true, recurses := true, apart := false, narrowed := true }
def FnExactIsNowhereZeroUptoSaid : Prop := fnExactIsNowhereZeroUptoRow.holds Try.pinned (OpenSpec.upto fnExactIsNowhereZeroSpec)

/-- 'laws.FnExactEdgesLeaving', WHERE WHAT IT READS IS OF BULK AT MOST 1048576: true; the input reads as it did. -/
def fnExactEdgesLeavingUptoRow : OpenClaim := { program := "ytjaffbpgochemaa", sum := "55518b43cdd360689c2041cb652a6ed243a1af3efaf78961e0fe6da4162f13b0", func := "loop.example/g01329/laws.FnExactEdgesLeaving", spec := "fnExactEdgesLeaving", unfollowed := true, recurses := true, apart := false, narrowed := true }
def FnExactEdgesLeavingUptoSaid : Prop := fnExactEdgesLeavingUptoRow.holds Try.pinned (OpenSpec.upto fnExactEdgesLeavingSpec)

end Rows
end Go.Proofs.Ytjaffbpgochemaa
