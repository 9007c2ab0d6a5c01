/-
  DERIVED. GIVEN WITH THE SEED: THE CARDS: each row of YtckcbfnffmohgaaDoorRows.lean that lists a variable, with what it lists TIED to the program's text (the seventh form; the later family's looks); each row that meets fmt, with fmt's text TOLD by the authors' own Lean function (tested against real Go, not proved from fmt's source: count such statements apart). THE CARD IS WHAT COUNTS. Prove the row's statement (the work); the ties are given (YtckcbfnffmohgaaDoorTie.lean); close each card by the builder's one call (the guide's Derived/Test/ToyasCard.lean, 'card_holds'). Laid BY PROGRAM, IN A SANDBOX (cutbox-door.mjs). By AI agents, Wed Nov 11 2026. No macro, syntax, notation, axiom, sorry.
-/
import Derived.Test.YtckcbfnffmohgaaDoorRows
import GoSem.ClaimSeven
namespace Go.Proofs.YtckcbfnffmohgaaDoor
namespace Rows

/-- THE TIED CARD OF 'footbridgelaw1.SpanIs'. -/
def spanIsCard : Claim7 := { stood := { row := spanIsRow, standIns := [], harness := (true, "9598e7e87c31e468d10e2e26a3a24e79c586cd742d4bab1d51aefdc8f07a2a8c"), looks := true }, kinds := [], alts := [], laidByText := true, laidKinds := [.handle], laidTests := true, laidLooks := .later }
def SpanIsCardSaid : Prop := Claim7.holds Tryd.pinned (.plain (OpenSpec.ofChange spanIsSpec)) spanIsCard

/-- THE SECOND FORM's CARD OF 'footbridgelaw1.SpanIs'. -/
def spanIsUptoCard : Claim7 := { stood := { row := spanIsUptoRow, standIns := [], harness := (true, "9598e7e87c31e468d10e2e26a3a24e79c586cd742d4bab1d51aefdc8f07a2a8c"), looks := true }, kinds := [], alts := [], laidByText := true, laidKinds := [.handle], laidTests := true, laidLooks := .later }
def SpanIsUptoCardSaid : Prop := Claim7.holds Tryd.pinned (.plain (OpenSpec.upto spanIsSpec)) spanIsUptoCard
end Rows
end Go.Proofs.YtckcbfnffmohgaaDoor
