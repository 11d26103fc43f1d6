/-
  No cell of these rows narrows 'for every input' (looked for: loops, veiled, ifaces, maps, wideKeys, modest, calm, conditions, laid).
  DERIVED. THE GIVEN ROWS OF THIS SEAT. 11 by the template 'for every input the law returns true; each argument reads behind the call as it read before'; 0 by the template 'total and deterministic' (their statements: YtjdhibcijjnopaaTotals.lean).
  GIVEN WITH THE SEED: the statements are not yours to turn. If you find one false, say at which input.
  Laid BY PROGRAM, IN A SANDBOX (cutbox-rows.mjs): the forced cells as the released guide's own fill.sh prints them over the translation 446a6df1bf277614… (all of the seat's roots in one cut). By AI agents, Wed Nov 11 2026. No macro, syntax, notation, axiom, sorry.
-/
import Derived.Test.YtjdhibcijjnopaaChecked
import GoSem.Claim
import GoSem.ClaimJoined
import GoSem.ClaimMapViews
import Derived.JoinedTies
import Derived.KernelRfl
namespace Go.Proofs.Ytjdhibcijjnopaa
/- THE CELL 'sum', in the pinned program and in every row, IS THE sha256 OF THE DUMP (.gsa) THAT YtjdhibcijjnopaaProg.lean LOADS. Nothing in Lean hashes anything: it is a label: what it is worth is what the hold of that sum in a sandbox is worth. -/
noncomputable def Try.pinned : Pinned := { name := "ytjdhibcijjnopaa", sum := "446a6df1bf277614afe3b2f8035da931db6fa1be6a97075b80fce49a6097b442", checked := Try.checked }
namespace Rows
def none {H : Type} : Left H := { results := [], args := [] }

/-- 'laws.FnExactAreAlike': WHATEVER THE INPUT: true; the input reads as it did. -/
def fnExactAreAlikeSpec : ChangeSpec := { name := "fnExactAreAlike", fn := fun _ => fun
  | [d1, d2, d3] => { results := [.lit (.bool true)], args := [d1, d2, d3] }
  | _ => none }
def fnExactAreAlikeRow : OpenClaim := { program := "ytjdhibcijjnopaa", sum := "446a6df1bf277614afe3b2f8035da931db6fa1be6a97075b80fce49a6097b442", func := "loop.example/g01329/laws.FnExactAreAlike", spec := "fnExactAreAlike", unfollowed := true, recurses := true, apart := false }
def FnExactAreAlikeSaid : Prop := fnExactAreAlikeRow.holds Try.pinned (OpenSpec.ofChange fnExactAreAlikeSpec)

/-- ITS FALSE NEIGHBOUR: 'it returns false'. Refute it at one input. -/
def fnExactAreAlikeWrong : ChangeSpec := { name := "fnExactAreAlike", fn := fun _ => fun
  | [d1, d2, d3] => { results := [.lit (.bool false)], args := [d1, d2, d3] }
  | _ => none }
def FnExactAreAlikeWrongFalsely : Prop := fnExactAreAlikeRow.holds Try.pinned (OpenSpec.ofChange fnExactAreAlikeWrong)

/-- 'laws.FnExactGirthOf': WHATEVER THE INPUT: true; the input reads as it did. -/
def fnExactGirthOfSpec : ChangeSpec := { name := "fnExactGirthOf", fn := fun _ => fun
  | [d] => { results := [.lit (.bool true)], args := [d] }
  | _ => none }
def fnExactGirthOfRow : OpenClaim := { program := "ytjdhibcijjnopaa", sum := "446a6df1bf277614afe3b2f8035da931db6fa1be6a97075b80fce49a6097b442", func := "loop.example/g01329/laws.FnExactGirthOf", spec := "fnExactGirthOf", unfollowed := true, recurses := true, apart := false }
def FnExactGirthOfSaid : Prop := fnExactGirthOfRow.holds Try.pinned (OpenSpec.ofChange fnExactGirthOfSpec)

/-- ITS FALSE NEIGHBOUR: 'it returns false'. Refute it at one input. -/
def fnExactGirthOfWrong : ChangeSpec := { name := "fnExactGirthOf", fn := fun _ => fun
  | [d] => { results := [.lit (.bool false)], args := [d] }
  | _ => none }
def FnExactGirthOfWrongFalsely : Prop := fnExactGirthOfRow.holds Try.pinned (OpenSpec.ofChange fnExactGirthOfWrong)

/-- 'laws.FnExactFlowDimension': WHATEVER THE INPUT: true; the input reads as it did. -/
def fnExactFlowDimensionSpec : ChangeSpec := { name := "fnExactFlowDimension", fn := fun _ => fun
  | [d] => { results := [.lit (.bool true)], args := [d] }
  | _ => none }
def fnExactFlowDimensionRow : OpenClaim := { program := "ytjdhibcijjnopaa", sum := "446a6df1bf277614afe3b2f8035da931db6fa1be6a97075b80fce49a6097b442", func := "loop.example/g01329/laws.FnExactFlowDimension", spec := "fnExactFlowDimension", unfollowed := true, recurses := true, apart := false }
def FnExactFlowDimensionSaid : Prop := fnExactFlowDimensionRow.holds Try.pinned (OpenSpec.ofChange fnExactFlowDimensionSpec)

/-- ITS FALSE NEIGHBOUR: 'it returns false'. Refute it at one input. -/
def fnExactFlowDimensionWrong : ChangeSpec := { name := "fnExactFlowDimension", fn := fun _ => fun
  | [d] => { results := [.lit (.bool false)], args := [d] }
  | _ => none }
def FnExactFlowDimensionWrongFalsely : Prop := fnExactFlowDimensionRow.holds Try.pinned (OpenSpec.ofChange fnExactFlowDimensionWrong)

/-- 'laws.FnExactAddFlows': WHATEVER THE INPUT: true; the input reads as it did. -/
def fnExactAddFlowsSpec : ChangeSpec := { name := "fnExactAddFlows", fn := fun _ => fun
  | [d1, d2, d3, d4] => { results := [.lit (.bool true)], args := [d1, d2, d3, d4] }
  | _ => none }
def fnExactAddFlowsRow : OpenClaim := { program := "ytjdhibcijjnopaa", sum := "446a6df1bf277614afe3b2f8035da931db6fa1be6a97075b80fce49a6097b442", func := "loop.example/g01329/laws.FnExactAddFlows", spec := "fnExactAddFlows", unfollowed := true, recurses := true, apart := false }
def FnExactAddFlowsSaid : Prop := fnExactAddFlowsRow.holds Try.pinned (OpenSpec.ofChange fnExactAddFlowsSpec)

/-- ITS FALSE NEIGHBOUR: 'it returns false'. Refute it at one input. -/
def fnExactAddFlowsWrong : ChangeSpec := { name := "fnExactAddFlows", fn := fun _ => fun
  | [d1, d2, d3, d4] => { results := [.lit (.bool false)], args := [d1, d2, d3, d4] }
  | _ => none }
def FnExactAddFlowsWrongFalsely : Prop := fnExactAddFlowsRow.holds Try.pinned (OpenSpec.ofChange fnExactAddFlowsWrong)

/-- 'laws.FnExactIsConnected': WHATEVER THE INPUT: true; the input reads as it did. -/
def fnExactIsConnectedSpec : ChangeSpec := { name := "fnExactIsConnected", fn := fun _ => fun
  | [d] => { results := [.lit (.bool true)], args := [d] }
  | _ => none }
def fnExactIsConnectedRow : OpenClaim := { program := "ytjdhibcijjnopaa", sum := "446a6df1bf277614afe3b2f8035da931db6fa1be6a97075b80fce49a6097b442", func := "loop.example/g01329/laws.FnExactIsConnected", spec := "fnExactIsConnected", unfollowed := true, recurses := true, apart := false }
def FnExactIsConnectedSaid : Prop := fnExactIsConnectedRow.holds Try.pinned (OpenSpec.ofChange fnExactIsConnectedSpec)

/-- ITS FALSE NEIGHBOUR: 'it returns false'. Refute it at one input. -/
def fnExactIsConnectedWrong : ChangeSpec := { name := "fnExactIsConnected", fn := fun _ => fun
  | [d] => { results := [.lit (.bool false)], args := [d] }
  | _ => none }
def FnExactIsConnectedWrongFalsely : Prop := fnExactIsConnectedRow.holds Try.pinned (OpenSpec.ofChange fnExactIsConnectedWrong)

/-- 'laws.FnExactDistanceOf': WHATEVER THE INPUT: true; the input reads as it did. -/
def fnExactDistanceOfSpec : ChangeSpec := { name := "fnExactDistanceOf", fn := fun _ => fun
  | [d1, d2, d3] => { results := [.lit (.bool true)], args := [d1, d2, d3] }
  | _ => none }
def fnExactDistanceOfRow : OpenClaim := { program := "ytjdhibcijjnopaa", sum := "446a6df1bf277614afe3b2f8035da931db6fa1be6a97075b80fce49a6097b442", func := "loop.example/g01329/laws.FnExactDistanceOf", spec := "fnExactDistanceOf", unfollowed := true, recurses := true, apart := false }
def FnExactDistanceOfSaid : Prop := fnExactDistanceOfRow.holds Try.pinned (OpenSpec.ofChange fnExactDistanceOfSpec)

/-- ITS FALSE NEIGHBOUR: 'it returns false'. Refute it at one input. -/
def fnExactDistanceOfWrong : ChangeSpec := { name := "fnExactDistanceOf", fn := fun _ => fun
  | [d1, d2, d3] => { results := [.lit (.bool false)], args := [d1, d2, d3] }
  | _ => none }
def FnExactDistanceOfWrongFalsely : Prop := fnExactDistanceOfRow.holds Try.pinned (OpenSpec.ofChange fnExactDistanceOfWrong)

/-- 'laws.FnExactCutNumbers': WHATEVER THE INPUT: true; the input reads as it did. -/
def fnExactCutNumbersSpec : ChangeSpec := { name := "fnExactCutNumbers", fn := fun _ => fun
  | [d1, d2, d3] => { results := [.lit (.bool true)], args := [d1, d2, d3] }
  | _ => none }
def fnExactCutNumbersRow : OpenClaim := { program := "ytjdhibcijjnopaa", sum := "446a6df1bf277614afe3b2f8035da931db6fa1be6a97075b80fce49a6097b442", func := "loop.example/g01329/laws.FnExactCutNumbers", spec := "fnExactCutNumbers", unfollowed := true, recurses := true, apart := false }
def FnExactCutNumbersSaid : Prop := fnExactCutNumbersRow.holds Try.pinned (OpenSpec.ofChange fnExactCutNumbersSpec)

/-- ITS FALSE NEIGHBOUR: 'it returns false'. Refute it at one input. -/
def fnExactCutNumbersWrong : ChangeSpec := { name := "fnExactCutNumbers", fn := fun _ => fun
  | [d1, d2, d3] => { results := [.lit (.bool false)], args := [d1, d2, d3] }
  | _ => none }
def FnExactCutNumbersWrongFalsely : Prop := fnExactCutNumbersRow.holds Try.pinned (OpenSpec.ofChange fnExactCutNumbersWrong)

/-- 'laws.FnExactIsBipartite': WHATEVER THE INPUT: true; the input reads as it did. -/
def fnExactIsBipartiteSpec : ChangeSpec := { name := "fnExactIsBipartite", fn := fun _ => fun
  | [d] => { results := [.lit (.bool true)], args := [d] }
  | _ => none }
def fnExactIsBipartiteRow : OpenClaim := { program := "ytjdhibcijjnopaa", sum := "446a6df1bf277614afe3b2f8035da931db6fa1be6a97075b80fce49a6097b442", func := "loop.example/g01329/laws.FnExactIsBipartite", spec := "fnExactIsBipartite", unfollowed := true, recurses := true, apart := false }
def FnExactIsBipartiteSaid : Prop := fnExactIsBipartiteRow.holds Try.pinned (OpenSpec.ofChange fnExactIsBipartiteSpec)

/-- ITS FALSE NEIGHBOUR: 'it returns false'. Refute it at one input. -/
def fnExactIsBipartiteWrong : ChangeSpec := { name := "fnExactIsBipartite", fn := fun _ => fun
  | [d] => { results := [.lit (.bool false)], args := [d] }
  | _ => none }
def FnExactIsBipartiteWrongFalsely : Prop := fnExactIsBipartiteRow.holds Try.pinned (OpenSpec.ofChange fnExactIsBipartiteWrong)

/-- 'laws.FnExactChainNumbers': WHATEVER THE INPUT: true; the input reads as it did. -/
def fnExactChainNumbersSpec : ChangeSpec := { name := "fnExactChainNumbers", fn := fun _ => fun
  | [d1, d2] => { results := [.lit (.bool true)], args := [d1, d2] }
  | _ => none }
def fnExactChainNumbersRow : OpenClaim := { program := "ytjdhibcijjnopaa", sum := "446a6df1bf277614afe3b2f8035da931db6fa1be6a97075b80fce49a6097b442", func := "loop.example/g01329/laws.FnExactChainNumbers", spec := "fnExactChainNumbers", unfollowed := true, recurses := true, apart := false }
def FnExactChainNumbersSaid : Prop := fnExactChainNumbersRow.holds Try.pinned (OpenSpec.ofChange fnExactChainNumbersSpec)

/-- ITS FALSE NEIGHBOUR: 'it returns false'. Refute it at one input. -/
def fnExactChainNumbersWrong : ChangeSpec := { name := "fnExactChainNumbers", fn := fun _ => fun
  | [d1, d2] => { results := [.lit (.bool false)], args := [d1, d2] }
  | _ => none }
def FnExactChainNumbersWrongFalsely : Prop := fnExactChainNumbersRow.holds Try.pinned (OpenSpec.ofChange fnExactChainNumbersWrong)

/-- 'laws.FnExactIsEdgeCut': WHATEVER THE INPUT: true; the input reads as it did. -/
def fnExactIsEdgeCutSpec : ChangeSpec := { name := "fnExactIsEdgeCut", fn := fun _ => fun
  | [d1, d2] => { results := [.lit (.bool true)], args := [d1, d2] }
  | _ => none }
def fnExactIsEdgeCutRow : OpenClaim := { program := "ytjdhibcijjnopaa", sum := "446a6df1bf277614afe3b2f8035da931db6fa1be6a97075b80fce49a6097b442", func := "loop.example/g01329/laws.FnExactIsEdgeCut", spec := "fnExactIsEdgeCut", unfollowed := true, recurses := true, apart := false }
def FnExactIsEdgeCutSaid : Prop := fnExactIsEdgeCutRow.holds Try.pinned (OpenSpec.ofChange fnExactIsEdgeCutSpec)

/-- ITS FALSE NEIGHBOUR: 'it returns false'. Refute it at one input. -/
def fnExactIsEdgeCutWrong : ChangeSpec := { name := "fnExactIsEdgeCut", fn := fun _ => fun
  | [d1, d2] => { results := [.lit (.bool false)], args := [d1, d2] }
  | _ => none }
def FnExactIsEdgeCutWrongFalsely : Prop := fnExactIsEdgeCutRow.holds Try.pinned (OpenSpec.ofChange fnExactIsEdgeCutWrong)

/-- 'laws.FnExactDiameterOf': WHATEVER THE INPUT: true; the input reads as it did. -/
def fnExactDiameterOfSpec : ChangeSpec := { name := "fnExactDiameterOf", fn := fun _ => fun
  | [d] => { results := [.lit (.bool true)], args := [d] }
  | _ => none }
def fnExactDiameterOfRow : OpenClaim := { program := "ytjdhibcijjnopaa", sum := "446a6df1bf277614afe3b2f8035da931db6fa1be6a97075b80fce49a6097b442", func := "loop.example/g01329/laws.FnExactDiameterOf", spec := "fnExactDiameterOf", unfollowed := true, recurses := true, apart := false }
def FnExactDiameterOfSaid : Prop := fnExactDiameterOfRow.holds Try.pinned (OpenSpec.ofChange fnExactDiameterOfSpec)

/-- ITS FALSE NEIGHBOUR: 'it returns false'. Refute it at one input. -/
def fnExactDiameterOfWrong : ChangeSpec := { name := "fnExactDiameterOf", fn := fun _ => fun
  | [d] => { results := [.lit (.bool false)], args := [d] }
  | _ => none }
def FnExactDiameterOfWrongFalsely : Prop := fnExactDiameterOfRow.holds Try.pinned (OpenSpec.ofChange fnExactDiameterOfWrong)

/- THE SECOND FORM. 'bulk': how many values and letters a reading holds, each counted each time it is reached (what is shared counts as often as it is met; a slice's spare places count too). A statement '..UptoSaid' is the law's where the arguments, and the package variables that the reading takes, are together of bulk at most 1048576: NARROWER than '..Said'. Prove '..Said' where nothing that the law and all that it calls make is longer than what came in: it says more and counts as full. Else prove '..UptoSaid'. A law counts once. -/
mutual
def uptoBulk {H : Type} : DataW H → Nat
  | .lit (.string bytes) => bytes.length + 1
  | .lit _ => 1
  | .nil => 1
  | .ptr d => uptoBulk d + 1
  | .slice elems spare => uptoBulkAll elems + uptoBulkAll spare + 1
  | .agg parts => uptoBulkAll parts + 1
  | .iface _ d => uptoBulk d + 1
  | .map entries => uptoBulkEntries entries + 1
  | .held _ => 1
def uptoBulkAll {H : Type} : List (DataW H) → Nat
  | [] => 0
  | d :: r => uptoBulk d + uptoBulkAll r
def uptoBulkEntries {H : Type} : List (Lit × DataW H) → Nat
  | [] => 0
  | x :: r => uptoBulkEntry x + uptoBulkEntries r
def uptoBulkEntry {H : Type} : Lit × DataW H → Nat
  | (.string bytes, d) => bytes.length + uptoBulk d + 1
  | (_, d) => uptoBulk d + 1
 end
def uptoSmall : (H : Type) → List (DataW H) → Bool := fun _ ds => decide (uptoBulkAll ds ≤ 1048576)
def OpenSpec.upto (s : _root_.Go.ChangeSpec) : _root_.Go.OpenSpec := { _root_.Go.OpenSpec.ofChange s with cond := some uptoSmall }

/-- 'laws.FnExactAreAlike', WHERE WHAT IT READS IS OF BULK AT MOST 1048576: true; the input reads as it did. -/
def fnExactAreAlikeUptoRow : OpenClaim := { program := "ytjdhibcijjnopaa", sum := "446a6df1bf277614afe3b2f8035da931db6fa1be6a97075b80fce49a6097b442", func := "loop.example/g01329/laws.FnExactAreAlike", spec := "fnExactAreAlike", unfollowed := true, recurses := true, apart := false, narrowed := true }
def FnExactAreAlikeUptoSaid : Prop := fnExactAreAlikeUptoRow.holds Try.pinned (OpenSpec.upto fnExactAreAlikeSpec)

/-- 'laws.FnExactGirthOf', WHERE WHAT IT READS IS OF BULK AT MOST 1048576: true; the input reads as it did. -/
def fnExactGirthOfUptoRow : OpenClaim := { program := "ytjdhibcijjnopaa", sum := "446a6df1bf277614afe3b2f8035da931db6fa1be6a97075b80fce49a6097b442", func := "loop.example/g01329/laws.FnExactGirthOf", spec := "fnExactGirthOf", unfollowed := true, recurses := true, apart := false, narrowed := true }
def FnExactGirthOfUptoSaid : Prop := fnExactGirthOfUptoRow.holds Try.pinned (OpenSpec.upto fnExactGirthOfSpec)

/-- 'laws.FnExactFlowDimension', WHERE WHAT IT READS IS OF BULK AT MOST 1048576: true; the input reads as it did. -/
def fnExactFlowDimensionUptoRow : OpenClaim := { program := "ytjdhibcijjnopaa", sum := "446a6df1bf277614afe3b2f8035da931db6fa1be6a97075b80fce49a6097b442", func := "loop.example/g01329/laws.FnExactFlowDimension", spec := "fnExactFlowDimension", unfollowed := true, recurses := true, apart := false, narrowed := true }
def FnExactFlowDimensionUptoSaid : Prop := fnExactFlowDimensionUptoRow.holds Try.pinned (OpenSpec.upto fnExactFlowDimensionSpec)

/-- 'laws.FnExactAddFlows', WHERE WHAT IT READS IS OF BULK AT MOST 1048576: true; the input reads as it did. -/
def fnExactAddFlowsUptoRow : OpenClaim := { program := "ytjdhibcijjnopaa", sum := "446a6df1bf277614afe3b2f8035da931db6fa1be6a97075b80fce49a6097b442", func := "loop.example/g01329/laws.FnExactAddFlows", spec := "fnExactAddFlows", unfollowed := true, recurses := true, apart := false, narrowed := true }
def FnExactAddFlowsUptoSaid : Prop := fnExactAddFlowsUptoRow.holds Try.pinned (OpenSpec.upto fnExactAddFlowsSpec)

/-- 'laws.FnExactIsConnected', WHERE WHAT IT READS IS OF BULK AT MOST 1048576: true; the input reads as it did. -/
def fnExactIsConnectedUptoRow : OpenClaim := { program := "ytjdhibcijjnopaa", sum := "446a6df1bf277614afe3b2f8035da931db6fa1be6a97075b80fce49a6097b442", func := "loop.example/g01329/laws.FnExactIsConnected", spec := "fnExactIsConnected", unfollowed := true, recurses := true, apart := false, narrowed := true }
def FnExactIsConnectedUptoSaid : Prop := fnExactIsConnectedUptoRow.holds Try.pinned (OpenSpec.upto fnExactIsConnectedSpec)

/-- 'laws.FnExactDistanceOf', WHERE WHAT IT READS IS OF BULK AT MOST 1048576: true; the input reads as it did. -/
def fnExactDistanceOfUptoRow : OpenClaim := { program := "ytjdhibcijjnopaa", sum := "446a6df1bf277614afe3b2f8035da931db6fa1be6a97075b80fce49a6097b442", func := "loop.example/g01329/laws.FnExactDistanceOf", spec := "fnExactDistanceOf", unfollowed := true, recurses := true, apart := false, narrowed := true }
def FnExactDistanceOfUptoSaid : Prop := fnExactDistanceOfUptoRow.holds Try.pinned (OpenSpec.upto fnExactDistanceOfSpec)

/-- 'laws.FnExactCutNumbers', WHERE WHAT IT READS IS OF BULK AT MOST 1048576: true; the input reads as it did. -/
def fnExactCutNumbersUptoRow : OpenClaim := { program := "ytjdhibcijjnopaa", sum := "446a6df1bf277614afe3b2f8035da931db6fa1be6a97075b80fce49a6097b442", func := "loop.example/g01329/laws.FnExactCutNumbers", spec := "fnExactCutNumbers", unfollowed := true, recurses := true, apart := false, narrowed := true }
def FnExactCutNumbersUptoSaid : Prop := fnExactCutNumbersUptoRow.holds Try.pinned (OpenSpec.upto fnExactCutNumbersSpec)

/-- 'laws.FnExactIsBipartite', WHERE WHAT IT READS IS OF BULK AT MOST 1048576: true; the input reads as it did. -/
def fnExactIsBipartiteUptoRow : OpenClaim := { program := "ytjdhibcijjnopaa", sum := "446a6df1bf277614afe3b2f8035da931db6fa1be6a97075b80fce49a6097b442", func := "loop.example/g01329/laws.FnExactIsBipartite", spec := "fnExactIsBipartite", unfollowed := true, recurses := true, apart := false, narrowed := true }
def FnExactIsBipartiteUptoSaid : Prop := fnExactIsBipartiteUptoRow.holds Try.pinned (OpenSpec.upto fnExactIsBipartiteSpec)

/-- 'laws.FnExactChainNumbers', WHERE WHAT IT READS IS OF BULK AT MOST 1048576: true; the input reads as it did. -/
def fnExactChainNumbersUptoRow : OpenClaim := { program := "ytjdhibcijjnopaa", sum := "446a6df1bf277614afe3b2f8035da931db6fa1be6a97075b80fce49a6097b442", func := "loop.example/g01329/laws.FnExactChainNumbers", spec := "fnExactChainNumbers", unfollowed := true, recurses := true, apart := false, narrowed := true }
def FnExactChainNumbersUptoSaid : Prop := fnExactChainNumbersUptoRow.holds Try.pinned (OpenSpec.upto fnExactChainNumbersSpec)

/-- 'laws.FnExactIsEdgeCut', WHERE WHAT IT READS IS OF BULK AT MOST 1048576: true; the input reads as it did. -/
def fnExactIsEdgeCutUptoRow : OpenClaim := { program := "ytjdhibcijjnopaa", sum := "446a6df1bf277614afe3b2f8035da931db6fa1be6a97075b80fce49a6097b442", func := "loop.example/g01329/laws.FnExactIsEdgeCut", spec := "fnExactIsEdgeCut", unfollowed := true, recurses := true, apart := false, narrowed := true }
def FnExactIsEdgeCutUptoSaid : Prop := fnExactIsEdgeCutUptoRow.holds Try.pinned (OpenSpec.upto fnExactIsEdgeCutSpec)

/-- 'laws.FnExactDiameterOf', WHERE WHAT IT READS IS OF BULK AT MOST 1048576: true; the input reads as it did. -/
def fnExactDiameterOfUptoRow : OpenClaim := { program := "ytjdhibcijjnopaa", sum := "446a6df1bf277614afe3b2f8035da931db6fa1be6a97075b80fce49a6097b442", func := "loop.example/g01329/laws.FnExactDiameterOf", spec := "fnExactDiameterOf", unfollowed := true, recurses := true, apart := false, narrowed := true }
def FnExactDiameterOfUptoSaid : Prop := fnExactDiameterOfUptoRow.holds Try.pinned (OpenSpec.upto fnExactDiameterOfSpec)

end Rows
end Go.Proofs.Ytjdhibcijjnopaa
