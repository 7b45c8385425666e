/-
  DERIVED. GIVEN WITH THE SEED: THE CARDS: each row of YtghdgncfcfdlfaaGreatDoorRows.lean that lists a variable, with what it lists TIED to the program's text (the seventh form; the later family's looks); each row that meets fmt, with fmt's text TOLD by the authors' own Lean function (tested against real Go, not proved from fmt's source: count such statements apart). THE CARD IS WHAT COUNTS. Prove the row's statement (the work); the ties are given (YtghdgncfcfdlfaaGreatDoorTie.lean); close each card by the builder's one call (the guide's Derived/Test/ToyasCard.lean, 'card_holds'). Laid BY PROGRAM, IN A SANDBOX (cutbox-door.mjs). By AI agents, Wed Nov 11 2026. No macro, syntax, notation, axiom, sorry.
-/
import Derived.Test.YtghdgncfcfdlfaaGreatDoorRows
import GoSem.ClaimSeven
namespace Go.Proofs.YtghdgncfcfdlfaaGreatDoor
namespace Rows

/-- THE TIED CARD OF 'laws.FnSessionQuestions'. -/
def fnSessionQuestionsCard : Claim7 := { stood := { row := fnSessionQuestionsRow, standIns := [], harness := (true, "153b3c399d0ff29ca99f18f5258f79ad03958c1a3bbed47bcf0d727d50d82193"), looks := true }, kinds := [], alts := [], laidByText := true, laidKinds := [.data, .data, .data, .data, .sentinel, .sentinel, .data, .data, .pinned], laidTests := true, laidLooks := .later }
def FnSessionQuestionsCardSaid : Prop := Claim7.holds Tryz.pinned (.plain (OpenSpec.ofChange fnSessionQuestionsSpec)) fnSessionQuestionsCard

/-- THE TIED CARD OF 'laws.FnSessionRead'. -/
def fnSessionReadCard : Claim7 := { stood := { row := fnSessionReadRow, standIns := [], harness := (true, "153b3c399d0ff29ca99f18f5258f79ad03958c1a3bbed47bcf0d727d50d82193"), looks := true }, kinds := [], alts := [], laidByText := true, laidKinds := [.data, .data, .data, .data, .sentinel, .sentinel, .data, .data, .pinned], laidTests := true, laidLooks := .later }
def FnSessionReadCardSaid : Prop := Claim7.holds Tryz.pinned (.plain (OpenSpec.ofChange fnSessionReadSpec)) fnSessionReadCard

/-- THE TIED CARD OF 'laws.FnSessionWrite'. -/
def fnSessionWriteCard : Claim7 := { stood := { row := fnSessionWriteRow, standIns := [], harness := (true, "153b3c399d0ff29ca99f18f5258f79ad03958c1a3bbed47bcf0d727d50d82193"), looks := true }, kinds := [], alts := [], laidByText := true, laidKinds := [.data, .data, .data, .data, .sentinel, .sentinel, .data, .data, .pinned], laidTests := true, laidLooks := .later }
def FnSessionWriteCardSaid : Prop := Claim7.holds Tryz.pinned (.plain (OpenSpec.ofChange fnSessionWriteSpec)) fnSessionWriteCard

/-- THE TIED CARD OF 'laws.FnTreeCanonical'. -/
def fnTreeCanonicalCard : Claim7 := { stood := { row := fnTreeCanonicalRow, standIns := [], harness := (true, "153b3c399d0ff29ca99f18f5258f79ad03958c1a3bbed47bcf0d727d50d82193"), looks := true }, kinds := [], alts := [], laidByText := true, laidKinds := [.data, .data, .data, .data, .sentinel, .sentinel, .pinned], laidTests := true, laidLooks := .later }
def FnTreeCanonicalCardSaid : Prop := Claim7.holds Tryz.pinned (.plain (OpenSpec.ofChange fnTreeCanonicalSpec)) fnTreeCanonicalCard

/-- THE TIED CARD OF 'laws.FnExactRunSession'. -/
def fnExactRunSessionCard : Claim7 := { stood := { row := fnExactRunSessionRow, standIns := [], harness := (true, "153b3c399d0ff29ca99f18f5258f79ad03958c1a3bbed47bcf0d727d50d82193"), looks := true }, kinds := [], alts := [], laidByText := true, laidKinds := [.data, .data, .data, .data, .sentinel, .sentinel, .data, .data, .pinned], laidTests := true, laidLooks := .later }
def FnExactRunSessionCardSaid : Prop := Claim7.holds Tryz.pinned (.plain (OpenSpec.ofChange fnExactRunSessionSpec)) fnExactRunSessionCard

/-- THE TIED CARD OF 'laws.FnSessionFree'. -/
def fnSessionFreeCard : Claim7 := { stood := { row := fnSessionFreeRow, standIns := [], harness := (true, "153b3c399d0ff29ca99f18f5258f79ad03958c1a3bbed47bcf0d727d50d82193"), looks := true }, kinds := [], alts := [], laidByText := true, laidKinds := [.data, .data, .data, .data, .sentinel, .sentinel, .data, .data, .pinned], laidTests := true, laidLooks := .later }
def FnSessionFreeCardSaid : Prop := Claim7.holds Tryz.pinned (.plain (OpenSpec.ofChange fnSessionFreeSpec)) fnSessionFreeCard

/-- THE TIED CARD OF 'laws.FnSessionPrefix'. -/
def fnSessionPrefixCard : Claim7 := { stood := { row := fnSessionPrefixRow, standIns := [], harness := (true, "153b3c399d0ff29ca99f18f5258f79ad03958c1a3bbed47bcf0d727d50d82193"), looks := true }, kinds := [], alts := [], laidByText := true, laidKinds := [.data, .data, .data, .data, .sentinel, .sentinel, .data, .data, .pinned], laidTests := true, laidLooks := .later }
def FnSessionPrefixCardSaid : Prop := Claim7.holds Tryz.pinned (.plain (OpenSpec.ofChange fnSessionPrefixSpec)) fnSessionPrefixCard

/-- THE SECOND FORM's CARD OF 'laws.FnSessionQuestions'. -/
def fnSessionQuestionsUptoCard : Claim7 := { stood := { row := fnSessionQuestionsUptoRow, standIns := [], harness := (true, "153b3c399d0ff29ca99f18f5258f79ad03958c1a3bbed47bcf0d727d50d82193"), looks := true }, kinds := [], alts := [], laidByText := true, laidKinds := [.data, .data, .data, .data, .sentinel, .sentinel, .data, .data, .pinned], laidTests := true, laidLooks := .later }
def FnSessionQuestionsUptoCardSaid : Prop := Claim7.holds Tryz.pinned (.plain (OpenSpec.upto fnSessionQuestionsSpec)) fnSessionQuestionsUptoCard

/-- THE SECOND FORM's CARD OF 'laws.FnSessionRead'. -/
def fnSessionReadUptoCard : Claim7 := { stood := { row := fnSessionReadUptoRow, standIns := [], harness := (true, "153b3c399d0ff29ca99f18f5258f79ad03958c1a3bbed47bcf0d727d50d82193"), looks := true }, kinds := [], alts := [], laidByText := true, laidKinds := [.data, .data, .data, .data, .sentinel, .sentinel, .data, .data, .pinned], laidTests := true, laidLooks := .later }
def FnSessionReadUptoCardSaid : Prop := Claim7.holds Tryz.pinned (.plain (OpenSpec.upto fnSessionReadSpec)) fnSessionReadUptoCard

/-- THE SECOND FORM's CARD OF 'laws.FnSessionWrite'. -/
def fnSessionWriteUptoCard : Claim7 := { stood := { row := fnSessionWriteUptoRow, standIns := [], harness := (true, "153b3c399d0ff29ca99f18f5258f79ad03958c1a3bbed47bcf0d727d50d82193"), looks := true }, kinds := [], alts := [], laidByText := true, laidKinds := [.data, .data, .data, .data, .sentinel, .sentinel, .data, .data, .pinned], laidTests := true, laidLooks := .later }
def FnSessionWriteUptoCardSaid : Prop := Claim7.holds Tryz.pinned (.plain (OpenSpec.upto fnSessionWriteSpec)) fnSessionWriteUptoCard

/-- THE SECOND FORM's CARD OF 'laws.FnTreeCanonical'. -/
def fnTreeCanonicalUptoCard : Claim7 := { stood := { row := fnTreeCanonicalUptoRow, standIns := [], harness := (true, "153b3c399d0ff29ca99f18f5258f79ad03958c1a3bbed47bcf0d727d50d82193"), looks := true }, kinds := [], alts := [], laidByText := true, laidKinds := [.data, .data, .data, .data, .sentinel, .sentinel, .pinned], laidTests := true, laidLooks := .later }
def FnTreeCanonicalUptoCardSaid : Prop := Claim7.holds Tryz.pinned (.plain (OpenSpec.upto fnTreeCanonicalSpec)) fnTreeCanonicalUptoCard

/-- THE SECOND FORM's CARD OF 'laws.FnExactRunSession'. -/
def fnExactRunSessionUptoCard : Claim7 := { stood := { row := fnExactRunSessionUptoRow, standIns := [], harness := (true, "153b3c399d0ff29ca99f18f5258f79ad03958c1a3bbed47bcf0d727d50d82193"), looks := true }, kinds := [], alts := [], laidByText := true, laidKinds := [.data, .data, .data, .data, .sentinel, .sentinel, .data, .data, .pinned], laidTests := true, laidLooks := .later }
def FnExactRunSessionUptoCardSaid : Prop := Claim7.holds Tryz.pinned (.plain (OpenSpec.upto fnExactRunSessionSpec)) fnExactRunSessionUptoCard

/-- THE SECOND FORM's CARD OF 'laws.FnSessionFree'. -/
def fnSessionFreeUptoCard : Claim7 := { stood := { row := fnSessionFreeUptoRow, standIns := [], harness := (true, "153b3c399d0ff29ca99f18f5258f79ad03958c1a3bbed47bcf0d727d50d82193"), looks := true }, kinds := [], alts := [], laidByText := true, laidKinds := [.data, .data, .data, .data, .sentinel, .sentinel, .data, .data, .pinned], laidTests := true, laidLooks := .later }
def FnSessionFreeUptoCardSaid : Prop := Claim7.holds Tryz.pinned (.plain (OpenSpec.upto fnSessionFreeSpec)) fnSessionFreeUptoCard

/-- THE SECOND FORM's CARD OF 'laws.FnSessionPrefix'. -/
def fnSessionPrefixUptoCard : Claim7 := { stood := { row := fnSessionPrefixUptoRow, standIns := [], harness := (true, "153b3c399d0ff29ca99f18f5258f79ad03958c1a3bbed47bcf0d727d50d82193"), looks := true }, kinds := [], alts := [], laidByText := true, laidKinds := [.data, .data, .data, .data, .sentinel, .sentinel, .data, .data, .pinned], laidTests := true, laidLooks := .later }
def FnSessionPrefixUptoCardSaid : Prop := Claim7.holds Tryz.pinned (.plain (OpenSpec.upto fnSessionPrefixSpec)) fnSessionPrefixUptoCard
end Rows
end Go.Proofs.YtghdgncfcfdlfaaGreatDoor
