/-
  DERIVED. GIVEN WITH THE SEED: THE CARDS: each row of YtghdgncfcfdlfaaDoorRows.lean that lists a variable, with what it lists TIED to the program's text (the seventh form; the later family's looks); each row that meets fmt, with fmt's text TOLD by the authors' own Lean function (tested against real Go, not proved from fmt's source: count such statements apart). THE CARD IS WHAT COUNTS. Prove the row's statement (the work); the ties are given (YtghdgncfcfdlfaaDoorTie.lean); close each card by the builder's one call (the guide's Derived/Test/ToyasCard.lean, 'card_holds'). Laid BY PROGRAM, IN A SANDBOX (cutbox-door.mjs). By AI agents, Wed Nov 11 2026. No macro, syntax, notation, axiom, sorry.
-/
import Derived.Test.YtghdgncfcfdlfaaDoorRows
import GoSem.ClaimSeven
namespace Go.Proofs.YtghdgncfcfdlfaaDoor
namespace Rows

/-- THE TIED CARD OF 'laws.FnTreeRoundTrip'. -/
def fnTreeRoundTripCard : Claim7 := { stood := { row := fnTreeRoundTripRow, standIns := [], harness := (true, "3e1bfb9cec1d141eab7509fe69919dc0a9782ed747401a8690cca4c250c1e77c"), looks := true }, kinds := [], alts := [], laidByText := true, laidKinds := [.data, .data, .data, .data, .sentinel, .sentinel, .pinned], laidTests := true, laidLooks := .later }
def FnTreeRoundTripCardSaid : Prop := Claim7.holds Tryd.pinned (.plain (OpenSpec.ofChange fnTreeRoundTripSpec)) fnTreeRoundTripCard

/-- THE TIED CARD OF 'laws.FnExactParseTree'. -/
def fnExactParseTreeCard : Claim7 := { stood := { row := fnExactParseTreeRow, standIns := [], harness := (true, "3e1bfb9cec1d141eab7509fe69919dc0a9782ed747401a8690cca4c250c1e77c"), looks := true }, kinds := [], alts := [], laidByText := true, laidKinds := [.data, .data, .data, .data, .sentinel, .sentinel, .pinned], laidTests := true, laidLooks := .later }
def FnExactParseTreeCardSaid : Prop := Claim7.holds Tryd.pinned (.plain (OpenSpec.ofChange fnExactParseTreeSpec)) fnExactParseTreeCard

/-- THE SECOND FORM's CARD OF 'laws.FnTreeRoundTrip'. -/
def fnTreeRoundTripUptoCard : Claim7 := { stood := { row := fnTreeRoundTripUptoRow, standIns := [], harness := (true, "3e1bfb9cec1d141eab7509fe69919dc0a9782ed747401a8690cca4c250c1e77c"), looks := true }, kinds := [], alts := [], laidByText := true, laidKinds := [.data, .data, .data, .data, .sentinel, .sentinel, .pinned], laidTests := true, laidLooks := .later }
def FnTreeRoundTripUptoCardSaid : Prop := Claim7.holds Tryd.pinned (.plain (OpenSpec.upto fnTreeRoundTripSpec)) fnTreeRoundTripUptoCard

/-- THE SECOND FORM's CARD OF 'laws.FnExactParseTree'. -/
def fnExactParseTreeUptoCard : Claim7 := { stood := { row := fnExactParseTreeUptoRow, standIns := [], harness := (true, "3e1bfb9cec1d141eab7509fe69919dc0a9782ed747401a8690cca4c250c1e77c"), looks := true }, kinds := [], alts := [], laidByText := true, laidKinds := [.data, .data, .data, .data, .sentinel, .sentinel, .pinned], laidTests := true, laidLooks := .later }
def FnExactParseTreeUptoCardSaid : Prop := Claim7.holds Tryd.pinned (.plain (OpenSpec.upto fnExactParseTreeSpec)) fnExactParseTreeUptoCard
end Rows
end Go.Proofs.YtghdgncfcfdlfaaDoor
