/-
  DERIVED. GIVEN WITH THE SEED: THE CARDS: each row of YtgegfbopogcjpaaGreatDoorRows.lean that lists a variable, with what it lists TIED to the program's text (the seventh form; the later family's looks); each row that meets fmt, with fmt's text TOLD by the authors' own Lean function (tested against real Go, not proved from fmt's source: count such statements apart). THE CARD IS WHAT COUNTS. Prove the row's statement (the work); the ties are given (YtgegfbopogcjpaaGreatDoorTie.lean); close each card by the builder's one call (the guide's Derived/Test/ToyasCard.lean, 'card_holds'). Laid BY PROGRAM, IN A SANDBOX (cutbox-door.mjs). By AI agents, Wed Nov 11 2026. No macro, syntax, notation, axiom, sorry.
-/
import Derived.Test.YtgegfbopogcjpaaGreatDoorRows
import GoSem.ClaimSeven
namespace Go.Proofs.YtgegfbopogcjpaaGreatDoor
namespace Rows

/-- THE TIED CARD OF 'scarfjointlaw.SyntaxParses'. -/
def syntaxParsesCard : Claim7 := { stood := { row := syntaxParsesRow, standIns := [], harness := (true, "4fe14abebd8bc01ad2f6c04ca73406663449811d2f37149aeaebcbf29af9cf77"), looks := true }, kinds := [], alts := [], laidByText := true, laidKinds := [.data, .data, .data, .data, .sentinel, .sentinel, .pinned], laidTests := true, laidLooks := .later }
def SyntaxParsesCardSaid : Prop := Claim7.holds Tryz.pinned (.plain (OpenSpec.ofChange syntaxParsesSpec)) syntaxParsesCard

/-- THE TIED CARD OF 'scarfjointkeep.SyntaxBack'. -/
def syntaxBackCard : Claim7 := { stood := { row := syntaxBackRow, standIns := [], harness := (true, "4fe14abebd8bc01ad2f6c04ca73406663449811d2f37149aeaebcbf29af9cf77"), looks := true }, kinds := [], alts := [], laidByText := true, laidKinds := [.data, .data, .data, .data, .sentinel, .sentinel, .pinned], laidTests := true, laidLooks := .later }
def SyntaxBackCardSaid : Prop := Claim7.holds Tryz.pinned (.plain (OpenSpec.ofChange syntaxBackSpec)) syntaxBackCard

/-- THE TIED CARD OF 'scarfjointkeep.SyntaxAgain'. -/
def syntaxAgainCard : Claim7 := { stood := { row := syntaxAgainRow, standIns := [], harness := (true, "4fe14abebd8bc01ad2f6c04ca73406663449811d2f37149aeaebcbf29af9cf77"), looks := true }, kinds := [], alts := [], laidByText := true, laidKinds := [.data, .data, .data, .data, .sentinel, .sentinel, .pinned], laidTests := true, laidLooks := .later }
def SyntaxAgainCardSaid : Prop := Claim7.holds Tryz.pinned (.plain (OpenSpec.ofChange syntaxAgainSpec)) syntaxAgainCard

/-- THE SECOND FORM's CARD OF 'scarfjointlaw.SyntaxParses'. -/
def syntaxParsesUptoCard : Claim7 := { stood := { row := syntaxParsesUptoRow, standIns := [], harness := (true, "4fe14abebd8bc01ad2f6c04ca73406663449811d2f37149aeaebcbf29af9cf77"), looks := true }, kinds := [], alts := [], laidByText := true, laidKinds := [.data, .data, .data, .data, .sentinel, .sentinel, .pinned], laidTests := true, laidLooks := .later }
def SyntaxParsesUptoCardSaid : Prop := Claim7.holds Tryz.pinned (.plain (OpenSpec.upto syntaxParsesSpec)) syntaxParsesUptoCard

/-- THE SECOND FORM's CARD OF 'scarfjointkeep.SyntaxBack'. -/
def syntaxBackUptoCard : Claim7 := { stood := { row := syntaxBackUptoRow, standIns := [], harness := (true, "4fe14abebd8bc01ad2f6c04ca73406663449811d2f37149aeaebcbf29af9cf77"), looks := true }, kinds := [], alts := [], laidByText := true, laidKinds := [.data, .data, .data, .data, .sentinel, .sentinel, .pinned], laidTests := true, laidLooks := .later }
def SyntaxBackUptoCardSaid : Prop := Claim7.holds Tryz.pinned (.plain (OpenSpec.upto syntaxBackSpec)) syntaxBackUptoCard

/-- THE SECOND FORM's CARD OF 'scarfjointkeep.SyntaxAgain'. -/
def syntaxAgainUptoCard : Claim7 := { stood := { row := syntaxAgainUptoRow, standIns := [], harness := (true, "4fe14abebd8bc01ad2f6c04ca73406663449811d2f37149aeaebcbf29af9cf77"), looks := true }, kinds := [], alts := [], laidByText := true, laidKinds := [.data, .data, .data, .data, .sentinel, .sentinel, .pinned], laidTests := true, laidLooks := .later }
def SyntaxAgainUptoCardSaid : Prop := Claim7.holds Tryz.pinned (.plain (OpenSpec.upto syntaxAgainSpec)) syntaxAgainUptoCard
end Rows
end Go.Proofs.YtgegfbopogcjpaaGreatDoor
