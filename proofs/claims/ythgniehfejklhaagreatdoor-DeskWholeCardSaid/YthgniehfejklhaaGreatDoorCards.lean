/-
  DERIVED. GIVEN WITH THE SEED: THE CARDS: each row of YthgniehfejklhaaGreatDoorRows.lean that lists a variable, with what it lists TIED to the program's text (the seventh form; the later family's looks); each row that meets fmt, with fmt's text TOLD by the authors' own Lean function (tested against real Go, not proved from fmt's source: count such statements apart). THE CARD IS WHAT COUNTS. Prove the row's statement (the work); the ties are given (YthgniehfejklhaaGreatDoorTie.lean); close each card by the builder's one call (the guide's Derived/Test/ToyasCard.lean, 'card_holds'). Laid BY PROGRAM, IN A SANDBOX (cutbox-door.mjs). By AI agents, Wed Nov 11 2026. No macro, syntax, notation, axiom, sorry.
-/
import Derived.Test.YthgniehfejklhaaGreatDoorRows
import GoSem.ClaimSeven
namespace Go.Proofs.YthgniehfejklhaaGreatDoor
namespace Rows

/-- THE TIED CARD OF 'footbridgelaw1.GraphPlays'. -/
def graphPlaysCard : Claim7 := { stood := { row := graphPlaysRow, standIns := [], harness := (true, "5bb2b1cf154af9824fedcb61bd28a4bc24c90b6fb68ae452aa9c6fcea3cc49b4"), looks := true }, kinds := [], alts := [], laidByText := true, laidKinds := [.handle], laidTests := true, laidLooks := .later }
def GraphPlaysCardSaid : Prop := Claim7.holds Tryz.pinned (.plain (OpenSpec.ofChange graphPlaysSpec)) graphPlaysCard

/-- THE TIED CARD OF 'footbridgelaw2.DeskWhole'. -/
def deskWholeCard : Claim7 := { stood := { row := deskWholeRow, standIns := [], harness := (true, "5bb2b1cf154af9824fedcb61bd28a4bc24c90b6fb68ae452aa9c6fcea3cc49b4"), looks := true }, kinds := [], alts := [], laidByText := true, laidKinds := [.handle], laidTests := true, laidLooks := .later }
def DeskWholeCardSaid : Prop := Claim7.holds Tryz.pinned (.plain (OpenSpec.ofChange deskWholeSpec)) deskWholeCard

/-- THE TIED CARD OF 'footbridgelaw2.DeskKeeps'. -/
def deskKeepsCard : Claim7 := { stood := { row := deskKeepsRow, standIns := [], harness := (true, "5bb2b1cf154af9824fedcb61bd28a4bc24c90b6fb68ae452aa9c6fcea3cc49b4"), looks := true }, kinds := [], alts := [], laidByText := true, laidKinds := [.handle], laidTests := true, laidLooks := .later }
def DeskKeepsCardSaid : Prop := Claim7.holds Tryz.pinned (.plain (OpenSpec.ofChange deskKeepsSpec)) deskKeepsCard

/-- THE TIED CARD OF 'footbridgelaw2.DeskPlays'. -/
def deskPlaysCard : Claim7 := { stood := { row := deskPlaysRow, standIns := [], harness := (true, "5bb2b1cf154af9824fedcb61bd28a4bc24c90b6fb68ae452aa9c6fcea3cc49b4"), looks := true }, kinds := [], alts := [], laidByText := true, laidKinds := [.handle], laidTests := true, laidLooks := .later }
def DeskPlaysCardSaid : Prop := Claim7.holds Tryz.pinned (.plain (OpenSpec.ofChange deskPlaysSpec)) deskPlaysCard

/-- THE SECOND FORM's CARD OF 'footbridgelaw1.GraphPlays'. -/
def graphPlaysUptoCard : Claim7 := { stood := { row := graphPlaysUptoRow, standIns := [], harness := (true, "5bb2b1cf154af9824fedcb61bd28a4bc24c90b6fb68ae452aa9c6fcea3cc49b4"), looks := true }, kinds := [], alts := [], laidByText := true, laidKinds := [.handle], laidTests := true, laidLooks := .later }
def GraphPlaysUptoCardSaid : Prop := Claim7.holds Tryz.pinned (.plain (OpenSpec.upto graphPlaysSpec)) graphPlaysUptoCard

/-- THE SECOND FORM's CARD OF 'footbridgelaw2.DeskWhole'. -/
def deskWholeUptoCard : Claim7 := { stood := { row := deskWholeUptoRow, standIns := [], harness := (true, "5bb2b1cf154af9824fedcb61bd28a4bc24c90b6fb68ae452aa9c6fcea3cc49b4"), looks := true }, kinds := [], alts := [], laidByText := true, laidKinds := [.handle], laidTests := true, laidLooks := .later }
def DeskWholeUptoCardSaid : Prop := Claim7.holds Tryz.pinned (.plain (OpenSpec.upto deskWholeSpec)) deskWholeUptoCard

/-- THE SECOND FORM's CARD OF 'footbridgelaw2.DeskKeeps'. -/
def deskKeepsUptoCard : Claim7 := { stood := { row := deskKeepsUptoRow, standIns := [], harness := (true, "5bb2b1cf154af9824fedcb61bd28a4bc24c90b6fb68ae452aa9c6fcea3cc49b4"), looks := true }, kinds := [], alts := [], laidByText := true, laidKinds := [.handle], laidTests := true, laidLooks := .later }
def DeskKeepsUptoCardSaid : Prop := Claim7.holds Tryz.pinned (.plain (OpenSpec.upto deskKeepsSpec)) deskKeepsUptoCard

/-- THE SECOND FORM's CARD OF 'footbridgelaw2.DeskPlays'. -/
def deskPlaysUptoCard : Claim7 := { stood := { row := deskPlaysUptoRow, standIns := [], harness := (true, "5bb2b1cf154af9824fedcb61bd28a4bc24c90b6fb68ae452aa9c6fcea3cc49b4"), looks := true }, kinds := [], alts := [], laidByText := true, laidKinds := [.handle], laidTests := true, laidLooks := .later }
def DeskPlaysUptoCardSaid : Prop := Claim7.holds Tryz.pinned (.plain (OpenSpec.upto deskPlaysSpec)) deskPlaysUptoCard
end Rows
end Go.Proofs.YthgniehfejklhaaGreatDoor
