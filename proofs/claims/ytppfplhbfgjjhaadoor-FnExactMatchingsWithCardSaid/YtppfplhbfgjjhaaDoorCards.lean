/-
  DERIVED. GIVEN WITH THE SEED: THE CARDS: each row of YtppfplhbfgjjhaaDoorRows.lean that lists a variable, with what it lists TIED to the program's text (the seventh form; the later family's looks); each row that meets fmt, with fmt's text TOLD by the authors' own Lean function (tested against real Go, not proved from fmt's source: count such statements apart). THE CARD IS WHAT COUNTS. Prove the row's statement (the work); the ties are given (YtppfplhbfgjjhaaDoorTie.lean); close each card by the builder's one call (the guide's Derived/Test/ToyasCard.lean, 'card_holds'). Laid BY PROGRAM, IN A SANDBOX (cutbox-door.mjs). By AI agents, Wed Nov 11 2026. No macro, syntax, notation, axiom, sorry.
-/
import Derived.Test.YtppfplhbfgjjhaaDoorRows
import GoSem.ClaimSeven
namespace Go.Proofs.YtppfplhbfgjjhaaDoor
namespace Rows

/-- THE TIED CARD OF 'laws.FnExactMatchingsWith'. -/
def fnExactMatchingsWithCard : Claim7 := { stood := { row := fnExactMatchingsWithRow, standIns := [], harness := (true, "d869041cb2b3babbc0de00889a2133acb22c0ddbee147cfedf13fccaef1d7f40"), looks := false }, kinds := [], alts := [], laidByText := true, laidKinds := [.data], laidTests := true, laidLooks := .later }
def FnExactMatchingsWithCardSaid : Prop := Claim7.holds Tryd.pinned (.plain (OpenSpec.ofChange fnExactMatchingsWithSpec)) fnExactMatchingsWithCard

/-- THE TIED CARD OF 'laws.FnExactCountMatchings'. -/
def fnExactCountMatchingsCard : Claim7 := { stood := { row := fnExactCountMatchingsRow, standIns := [], harness := (true, "d869041cb2b3babbc0de00889a2133acb22c0ddbee147cfedf13fccaef1d7f40"), looks := false }, kinds := [], alts := [], laidByText := true, laidKinds := [.data], laidTests := true, laidLooks := .later }
def FnExactCountMatchingsCardSaid : Prop := Claim7.holds Tryd.pinned (.plain (OpenSpec.ofChange fnExactCountMatchingsSpec)) fnExactCountMatchingsCard

/-- THE SECOND FORM's CARD OF 'laws.FnExactMatchingsWith'. -/
def fnExactMatchingsWithUptoCard : Claim7 := { stood := { row := fnExactMatchingsWithUptoRow, standIns := [], harness := (true, "d869041cb2b3babbc0de00889a2133acb22c0ddbee147cfedf13fccaef1d7f40"), looks := false }, kinds := [], alts := [], laidByText := true, laidKinds := [.data], laidTests := true, laidLooks := .later }
def FnExactMatchingsWithUptoCardSaid : Prop := Claim7.holds Tryd.pinned (.plain (OpenSpec.upto fnExactMatchingsWithSpec)) fnExactMatchingsWithUptoCard

/-- THE SECOND FORM's CARD OF 'laws.FnExactCountMatchings'. -/
def fnExactCountMatchingsUptoCard : Claim7 := { stood := { row := fnExactCountMatchingsUptoRow, standIns := [], harness := (true, "d869041cb2b3babbc0de00889a2133acb22c0ddbee147cfedf13fccaef1d7f40"), looks := false }, kinds := [], alts := [], laidByText := true, laidKinds := [.data], laidTests := true, laidLooks := .later }
def FnExactCountMatchingsUptoCardSaid : Prop := Claim7.holds Tryd.pinned (.plain (OpenSpec.upto fnExactCountMatchingsSpec)) fnExactCountMatchingsUptoCard
end Rows
end Go.Proofs.YtppfplhbfgjjhaaDoor
