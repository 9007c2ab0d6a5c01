/-
  DERIVED. GIVEN WITH THE SEED: THE CARDS: each row of YtakjakglkfhaaaaDoorRows.lean that lists a variable, with what it lists TIED to the program's text (the seventh form; the later family's looks); each row that meets fmt, with fmt's text TOLD by the authors' own Lean function (tested against real Go, not proved from fmt's source: count such statements apart). THE CARD IS WHAT COUNTS. Prove the row's statement (the work); the ties are given (YtakjakglkfhaaaaDoorTie.lean); close each card by the builder's one call (the guide's Derived/Test/ToyasCard.lean, 'card_holds'). Laid BY PROGRAM, IN A SANDBOX (cutbox-door.mjs). By AI agents, Wed Nov 11 2026. No macro, syntax, notation, axiom, sorry.
-/
import Derived.Test.YtakjakglkfhaaaaDoorRows
import GoSem.ClaimSeven
namespace Go.Proofs.YtakjakglkfhaaaaDoor
namespace Rows

/-- THE TIED CARD OF 'footbridgelaw2.NoteReads'. -/
def noteReadsCard : Claim7 := { stood := { row := noteReadsRow, standIns := [], harness := (true, "cd7c157e1c057861ab30a7b0d946cc8b944d2ff1f58dc3595acc57d3c21d274e"), looks := true }, kinds := [], alts := [], laidByText := true, laidKinds := [.data, .data, .data, .handle, .sentinel, .sentinel], laidTests := true, laidLooks := .later }
def NoteReadsCardSaid : Prop := Claim7.holds Tryd.pinned (.plain (OpenSpec.ofChange noteReadsSpec)) noteReadsCard

/-- THE TIED CARD OF 'footbridgelaw2.NoteBack'. -/
def noteBackCard : Claim7 := { stood := { row := noteBackRow, standIns := [], harness := (true, "cd7c157e1c057861ab30a7b0d946cc8b944d2ff1f58dc3595acc57d3c21d274e"), looks := true }, kinds := [], alts := [], laidByText := true, laidKinds := [.data, .data, .data, .handle, .sentinel, .sentinel], laidTests := true, laidLooks := .later }
def NoteBackCardSaid : Prop := Claim7.holds Tryd.pinned (.plain (OpenSpec.ofChange noteBackSpec)) noteBackCard

/-- THE TIED CARD OF 'footbridgelaw2.BridgeIs'. -/
def bridgeIsCard : Claim7 := { stood := { row := bridgeIsRow, standIns := [], harness := (true, "cd7c157e1c057861ab30a7b0d946cc8b944d2ff1f58dc3595acc57d3c21d274e"), looks := true }, kinds := [], alts := [], laidByText := true, laidKinds := [.handle], laidTests := true, laidLooks := .later }
def BridgeIsCardSaid : Prop := Claim7.holds Tryd.pinned (.plain (OpenSpec.ofChange bridgeIsSpec)) bridgeIsCard

/-- THE TIED CARD OF 'footbridgelaw2.BridgeHolds'. -/
def bridgeHoldsCard : Claim7 := { stood := { row := bridgeHoldsRow, standIns := [], harness := (true, "cd7c157e1c057861ab30a7b0d946cc8b944d2ff1f58dc3595acc57d3c21d274e"), looks := true }, kinds := [], alts := [], laidByText := true, laidKinds := [.handle], laidTests := true, laidLooks := .later }
def BridgeHoldsCardSaid : Prop := Claim7.holds Tryd.pinned (.plain (OpenSpec.ofChange bridgeHoldsSpec)) bridgeHoldsCard

/-- THE TIED CARD OF 'footbridgelaw2.PathRings'. -/
def pathRingsCard : Claim7 := { stood := { row := pathRingsRow, standIns := [], harness := (true, "cd7c157e1c057861ab30a7b0d946cc8b944d2ff1f58dc3595acc57d3c21d274e"), looks := true }, kinds := [], alts := [], laidByText := true, laidKinds := [.handle], laidTests := true, laidLooks := .later }
def PathRingsCardSaid : Prop := Claim7.holds Tryd.pinned (.plain (OpenSpec.ofChange pathRingsSpec)) pathRingsCard

/-- THE SECOND FORM's CARD OF 'footbridgelaw2.NoteReads'. -/
def noteReadsUptoCard : Claim7 := { stood := { row := noteReadsUptoRow, standIns := [], harness := (true, "cd7c157e1c057861ab30a7b0d946cc8b944d2ff1f58dc3595acc57d3c21d274e"), looks := true }, kinds := [], alts := [], laidByText := true, laidKinds := [.data, .data, .data, .handle, .sentinel, .sentinel], laidTests := true, laidLooks := .later }
def NoteReadsUptoCardSaid : Prop := Claim7.holds Tryd.pinned (.plain (OpenSpec.upto noteReadsSpec)) noteReadsUptoCard

/-- THE SECOND FORM's CARD OF 'footbridgelaw2.NoteBack'. -/
def noteBackUptoCard : Claim7 := { stood := { row := noteBackUptoRow, standIns := [], harness := (true, "cd7c157e1c057861ab30a7b0d946cc8b944d2ff1f58dc3595acc57d3c21d274e"), looks := true }, kinds := [], alts := [], laidByText := true, laidKinds := [.data, .data, .data, .handle, .sentinel, .sentinel], laidTests := true, laidLooks := .later }
def NoteBackUptoCardSaid : Prop := Claim7.holds Tryd.pinned (.plain (OpenSpec.upto noteBackSpec)) noteBackUptoCard

/-- THE SECOND FORM's CARD OF 'footbridgelaw2.BridgeIs'. -/
def bridgeIsUptoCard : Claim7 := { stood := { row := bridgeIsUptoRow, standIns := [], harness := (true, "cd7c157e1c057861ab30a7b0d946cc8b944d2ff1f58dc3595acc57d3c21d274e"), looks := true }, kinds := [], alts := [], laidByText := true, laidKinds := [.handle], laidTests := true, laidLooks := .later }
def BridgeIsUptoCardSaid : Prop := Claim7.holds Tryd.pinned (.plain (OpenSpec.upto bridgeIsSpec)) bridgeIsUptoCard

/-- THE SECOND FORM's CARD OF 'footbridgelaw2.BridgeHolds'. -/
def bridgeHoldsUptoCard : Claim7 := { stood := { row := bridgeHoldsUptoRow, standIns := [], harness := (true, "cd7c157e1c057861ab30a7b0d946cc8b944d2ff1f58dc3595acc57d3c21d274e"), looks := true }, kinds := [], alts := [], laidByText := true, laidKinds := [.handle], laidTests := true, laidLooks := .later }
def BridgeHoldsUptoCardSaid : Prop := Claim7.holds Tryd.pinned (.plain (OpenSpec.upto bridgeHoldsSpec)) bridgeHoldsUptoCard

/-- THE SECOND FORM's CARD OF 'footbridgelaw2.PathRings'. -/
def pathRingsUptoCard : Claim7 := { stood := { row := pathRingsUptoRow, standIns := [], harness := (true, "cd7c157e1c057861ab30a7b0d946cc8b944d2ff1f58dc3595acc57d3c21d274e"), looks := true }, kinds := [], alts := [], laidByText := true, laidKinds := [.handle], laidTests := true, laidLooks := .later }
def PathRingsUptoCardSaid : Prop := Claim7.holds Tryd.pinned (.plain (OpenSpec.upto pathRingsSpec)) pathRingsUptoCard
end Rows
end Go.Proofs.YtakjakglkfhaaaaDoor
