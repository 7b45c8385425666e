/-
  DERIVED. GIVEN WITH THE SEED: THE CARDS: each row of YtiboohplkihhnaaDoorRows.lean that lists a variable, with what it lists TIED to the program's text (the seventh form; the later family's looks); each row that meets fmt, with fmt's text TOLD by the authors' own Lean function (tested against real Go, not proved from fmt's source: count such statements apart). THE CARD IS WHAT COUNTS. Prove the row's statement (the work); the ties are given (YtiboohplkihhnaaDoorTie.lean); close each card by the builder's one call (the guide's Derived/Test/ToyasCard.lean, 'card_holds'). Laid BY PROGRAM, IN A SANDBOX (cutbox-door.mjs). By AI agents, Wed Nov 11 2026. No macro, syntax, notation, axiom, sorry.
-/
import Derived.Test.YtiboohplkihhnaaDoorRows
import GoSem.ClaimSeven
namespace Go.Proofs.YtiboohplkihhnaaDoor
namespace Rows

/-- THE TIED CARD OF 'laws.FnExactFormatLocks'. -/
def fnExactFormatLocksCard : Claim7 := { stood := { row := fnExactFormatLocksRow, standIns := [], harness := (true, "1be1419488426e9fd5f0c2be87171c5bbd8a86f3f846f6e8ca91ade5f28eda3e"), looks := false }, kinds := [], alts := [], laidByText := true, laidKinds := [.data, .data, .data, .data], laidTests := true, laidLooks := .later }
def FnExactFormatLocksCardSaid : Prop := Claim7.holds Tryd.pinned (.plain (OpenSpec.ofChange fnExactFormatLocksSpec)) fnExactFormatLocksCard

/-- THE TIED CARD OF 'laws.FnLocksText'. -/
def fnLocksTextCard : Claim7 := { stood := { row := fnLocksTextRow, standIns := [], harness := (true, "1be1419488426e9fd5f0c2be87171c5bbd8a86f3f846f6e8ca91ade5f28eda3e"), looks := false }, kinds := [], alts := [], laidByText := true, laidKinds := [.data, .data, .data, .data], laidTests := true, laidLooks := .later }
def FnLocksTextCardSaid : Prop := Claim7.holds Tryd.pinned (.plain (OpenSpec.ofChange fnLocksTextSpec)) fnLocksTextCard

/-- THE TIED CARD OF 'laws.FnLocksTextEmpty'. -/
def fnLocksTextEmptyCard : Claim7 := { stood := { row := fnLocksTextEmptyRow, standIns := [], harness := (true, "1be1419488426e9fd5f0c2be87171c5bbd8a86f3f846f6e8ca91ade5f28eda3e"), looks := false }, kinds := [], alts := [], laidByText := true, laidKinds := [.data, .data, .data, .data], laidTests := true, laidLooks := .later }
def FnLocksTextEmptyCardSaid : Prop := Claim7.holds Tryd.pinned (.plain (OpenSpec.ofChange fnLocksTextEmptySpec)) fnLocksTextEmptyCard

/-- THE TIED CARD OF 'laws.FnExactFormatTree'. -/
def fnExactFormatTreeCard : Claim7 := { stood := { row := fnExactFormatTreeRow, standIns := [], harness := (true, "1be1419488426e9fd5f0c2be87171c5bbd8a86f3f846f6e8ca91ade5f28eda3e"), looks := false }, kinds := [], alts := [], laidByText := true, laidKinds := [.data, .data, .data], laidTests := true, laidLooks := .later }
def FnExactFormatTreeCardSaid : Prop := Claim7.holds Tryd.pinned (.plain (OpenSpec.ofChange fnExactFormatTreeSpec)) fnExactFormatTreeCard

/-- THE TIED CARD OF 'laws.FnTreeText'. -/
def fnTreeTextCard : Claim7 := { stood := { row := fnTreeTextRow, standIns := [], harness := (true, "1be1419488426e9fd5f0c2be87171c5bbd8a86f3f846f6e8ca91ade5f28eda3e"), looks := false }, kinds := [], alts := [], laidByText := true, laidKinds := [.data, .data, .data], laidTests := true, laidLooks := .later }
def FnTreeTextCardSaid : Prop := Claim7.holds Tryd.pinned (.plain (OpenSpec.ofChange fnTreeTextSpec)) fnTreeTextCard

/-- THE TIED CARD OF 'laws.FnTreeTextPath'. -/
def fnTreeTextPathCard : Claim7 := { stood := { row := fnTreeTextPathRow, standIns := [], harness := (true, "1be1419488426e9fd5f0c2be87171c5bbd8a86f3f846f6e8ca91ade5f28eda3e"), looks := false }, kinds := [], alts := [], laidByText := true, laidKinds := [.data, .data, .data], laidTests := true, laidLooks := .later }
def FnTreeTextPathCardSaid : Prop := Claim7.holds Tryd.pinned (.plain (OpenSpec.ofChange fnTreeTextPathSpec)) fnTreeTextPathCard

/-- THE SECOND FORM's CARD OF 'laws.FnExactFormatLocks'. -/
def fnExactFormatLocksUptoCard : Claim7 := { stood := { row := fnExactFormatLocksUptoRow, standIns := [], harness := (true, "1be1419488426e9fd5f0c2be87171c5bbd8a86f3f846f6e8ca91ade5f28eda3e"), looks := false }, kinds := [], alts := [], laidByText := true, laidKinds := [.data, .data, .data, .data], laidTests := true, laidLooks := .later }
def FnExactFormatLocksUptoCardSaid : Prop := Claim7.holds Tryd.pinned (.plain (OpenSpec.upto fnExactFormatLocksSpec)) fnExactFormatLocksUptoCard

/-- THE SECOND FORM's CARD OF 'laws.FnLocksText'. -/
def fnLocksTextUptoCard : Claim7 := { stood := { row := fnLocksTextUptoRow, standIns := [], harness := (true, "1be1419488426e9fd5f0c2be87171c5bbd8a86f3f846f6e8ca91ade5f28eda3e"), looks := false }, kinds := [], alts := [], laidByText := true, laidKinds := [.data, .data, .data, .data], laidTests := true, laidLooks := .later }
def FnLocksTextUptoCardSaid : Prop := Claim7.holds Tryd.pinned (.plain (OpenSpec.upto fnLocksTextSpec)) fnLocksTextUptoCard

/-- THE SECOND FORM's CARD OF 'laws.FnLocksTextEmpty'. -/
def fnLocksTextEmptyUptoCard : Claim7 := { stood := { row := fnLocksTextEmptyUptoRow, standIns := [], harness := (true, "1be1419488426e9fd5f0c2be87171c5bbd8a86f3f846f6e8ca91ade5f28eda3e"), looks := false }, kinds := [], alts := [], laidByText := true, laidKinds := [.data, .data, .data, .data], laidTests := true, laidLooks := .later }
def FnLocksTextEmptyUptoCardSaid : Prop := Claim7.holds Tryd.pinned (.plain (OpenSpec.upto fnLocksTextEmptySpec)) fnLocksTextEmptyUptoCard

/-- THE SECOND FORM's CARD OF 'laws.FnExactFormatTree'. -/
def fnExactFormatTreeUptoCard : Claim7 := { stood := { row := fnExactFormatTreeUptoRow, standIns := [], harness := (true, "1be1419488426e9fd5f0c2be87171c5bbd8a86f3f846f6e8ca91ade5f28eda3e"), looks := false }, kinds := [], alts := [], laidByText := true, laidKinds := [.data, .data, .data], laidTests := true, laidLooks := .later }
def FnExactFormatTreeUptoCardSaid : Prop := Claim7.holds Tryd.pinned (.plain (OpenSpec.upto fnExactFormatTreeSpec)) fnExactFormatTreeUptoCard

/-- THE SECOND FORM's CARD OF 'laws.FnTreeText'. -/
def fnTreeTextUptoCard : Claim7 := { stood := { row := fnTreeTextUptoRow, standIns := [], harness := (true, "1be1419488426e9fd5f0c2be87171c5bbd8a86f3f846f6e8ca91ade5f28eda3e"), looks := false }, kinds := [], alts := [], laidByText := true, laidKinds := [.data, .data, .data], laidTests := true, laidLooks := .later }
def FnTreeTextUptoCardSaid : Prop := Claim7.holds Tryd.pinned (.plain (OpenSpec.upto fnTreeTextSpec)) fnTreeTextUptoCard

/-- THE SECOND FORM's CARD OF 'laws.FnTreeTextPath'. -/
def fnTreeTextPathUptoCard : Claim7 := { stood := { row := fnTreeTextPathUptoRow, standIns := [], harness := (true, "1be1419488426e9fd5f0c2be87171c5bbd8a86f3f846f6e8ca91ade5f28eda3e"), looks := false }, kinds := [], alts := [], laidByText := true, laidKinds := [.data, .data, .data], laidTests := true, laidLooks := .later }
def FnTreeTextPathUptoCardSaid : Prop := Claim7.holds Tryd.pinned (.plain (OpenSpec.upto fnTreeTextPathSpec)) fnTreeTextPathUptoCard
end Rows
end Go.Proofs.YtiboohplkihhnaaDoor
