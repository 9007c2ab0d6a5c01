/-
  DERIVED. GIVEN WITH THE SEED: THE CARDS: each row of YtenjblonepegfaaDoorRows.lean that lists a variable, with what it lists TIED to the program's text (the seventh form; the later family's looks); each row that meets fmt, with fmt's text TOLD by the authors' own Lean function (tested against real Go, not proved from fmt's source: count such statements apart). THE CARD IS WHAT COUNTS. Prove the row's statement (the work); the ties are given (YtenjblonepegfaaDoorTie.lean); close each card by the builder's one call (the guide's Derived/Test/ToyasCard.lean, 'card_holds'). Laid BY PROGRAM, IN A SANDBOX (cutbox-door.mjs). By AI agents, Wed Nov 11 2026. No macro, syntax, notation, axiom, sorry.
-/
import Derived.Test.YtenjblonepegfaaDoorRows
import GoSem.ClaimSeven
namespace Go.Proofs.YtenjblonepegfaaDoor
namespace Rows

/-- THE TIED CARD OF 'footbridgelaw2.DiskPlays'. -/
def diskPlaysCard : Claim7 := { stood := { row := diskPlaysRow, standIns := [], harness := (true, "9bda8cfe944439ee8982b8a550652126017cdac6149b95700b2fcd3863ef254c"), looks := true }, kinds := [], alts := [], laidByText := true, laidKinds := [.handle], laidTests := true, laidLooks := .later }
def DiskPlaysCardSaid : Prop := Claim7.holds Tryd.pinned (.plain (OpenSpec.ofChange diskPlaysSpec)) diskPlaysCard

/-- THE TIED CARD OF 'footbridgelaw1.SeqPlays'. -/
def seqPlaysCard : Claim7 := { stood := { row := seqPlaysRow, standIns := [], harness := (true, "9bda8cfe944439ee8982b8a550652126017cdac6149b95700b2fcd3863ef254c"), looks := true }, kinds := [], alts := [], laidByText := true, laidKinds := [.handle], laidTests := true, laidLooks := .later }
def SeqPlaysCardSaid : Prop := Claim7.holds Tryd.pinned (.plain (OpenSpec.ofChange seqPlaysSpec)) seqPlaysCard

/-- THE TIED CARD OF 'footbridgelaw1.AsksAll'. -/
def asksAllCard : Claim7 := { stood := { row := asksAllRow, standIns := [], harness := (true, "9bda8cfe944439ee8982b8a550652126017cdac6149b95700b2fcd3863ef254c"), looks := true }, kinds := [], alts := [], laidByText := true, laidKinds := [.handle], laidTests := true, laidLooks := .later }
def AsksAllCardSaid : Prop := Claim7.holds Tryd.pinned (.plain (OpenSpec.ofChange asksAllSpec)) asksAllCard

/-- THE TIED CARD OF 'footbridgelaw2.StoreKeeps'. -/
def storeKeepsCard : Claim7 := { stood := { row := storeKeepsRow, standIns := [], harness := (true, "9bda8cfe944439ee8982b8a550652126017cdac6149b95700b2fcd3863ef254c"), looks := true }, kinds := [], alts := [], laidByText := true, laidKinds := [.handle], laidTests := true, laidLooks := .later }
def StoreKeepsCardSaid : Prop := Claim7.holds Tryd.pinned (.plain (OpenSpec.ofChange storeKeepsSpec)) storeKeepsCard

/-- THE TIED CARD OF 'footbridgelaw2.PathIs'. -/
def pathIsCard : Claim7 := { stood := { row := pathIsRow, standIns := [], harness := (true, "9bda8cfe944439ee8982b8a550652126017cdac6149b95700b2fcd3863ef254c"), looks := true }, kinds := [], alts := [], laidByText := true, laidKinds := [.handle], laidTests := true, laidLooks := .later }
def PathIsCardSaid : Prop := Claim7.holds Tryd.pinned (.plain (OpenSpec.ofChange pathIsSpec)) pathIsCard

/-- THE TIED CARD OF 'footbridgelaw2.PathGoes'. -/
def pathGoesCard : Claim7 := { stood := { row := pathGoesRow, standIns := [], harness := (true, "9bda8cfe944439ee8982b8a550652126017cdac6149b95700b2fcd3863ef254c"), looks := true }, kinds := [], alts := [], laidByText := true, laidKinds := [.handle], laidTests := true, laidLooks := .later }
def PathGoesCardSaid : Prop := Claim7.holds Tryd.pinned (.plain (OpenSpec.ofChange pathGoesSpec)) pathGoesCard

/-- THE TIED CARD OF 'footbridgelaw1.SpanIs'. -/
def spanIsCard : Claim7 := { stood := { row := spanIsRow, standIns := [], harness := (true, "9bda8cfe944439ee8982b8a550652126017cdac6149b95700b2fcd3863ef254c"), looks := true }, kinds := [], alts := [], laidByText := true, laidKinds := [.handle], laidTests := true, laidLooks := .later }
def SpanIsCardSaid : Prop := Claim7.holds Tryd.pinned (.plain (OpenSpec.ofChange spanIsSpec)) spanIsCard

/-- THE SECOND FORM's CARD OF 'footbridgelaw2.DiskPlays'. -/
def diskPlaysUptoCard : Claim7 := { stood := { row := diskPlaysUptoRow, standIns := [], harness := (true, "9bda8cfe944439ee8982b8a550652126017cdac6149b95700b2fcd3863ef254c"), looks := true }, kinds := [], alts := [], laidByText := true, laidKinds := [.handle], laidTests := true, laidLooks := .later }
def DiskPlaysUptoCardSaid : Prop := Claim7.holds Tryd.pinned (.plain (OpenSpec.upto diskPlaysSpec)) diskPlaysUptoCard

/-- THE SECOND FORM's CARD OF 'footbridgelaw1.SeqPlays'. -/
def seqPlaysUptoCard : Claim7 := { stood := { row := seqPlaysUptoRow, standIns := [], harness := (true, "9bda8cfe944439ee8982b8a550652126017cdac6149b95700b2fcd3863ef254c"), looks := true }, kinds := [], alts := [], laidByText := true, laidKinds := [.handle], laidTests := true, laidLooks := .later }
def SeqPlaysUptoCardSaid : Prop := Claim7.holds Tryd.pinned (.plain (OpenSpec.upto seqPlaysSpec)) seqPlaysUptoCard

/-- THE SECOND FORM's CARD OF 'footbridgelaw1.AsksAll'. -/
def asksAllUptoCard : Claim7 := { stood := { row := asksAllUptoRow, standIns := [], harness := (true, "9bda8cfe944439ee8982b8a550652126017cdac6149b95700b2fcd3863ef254c"), looks := true }, kinds := [], alts := [], laidByText := true, laidKinds := [.handle], laidTests := true, laidLooks := .later }
def AsksAllUptoCardSaid : Prop := Claim7.holds Tryd.pinned (.plain (OpenSpec.upto asksAllSpec)) asksAllUptoCard

/-- THE SECOND FORM's CARD OF 'footbridgelaw2.StoreKeeps'. -/
def storeKeepsUptoCard : Claim7 := { stood := { row := storeKeepsUptoRow, standIns := [], harness := (true, "9bda8cfe944439ee8982b8a550652126017cdac6149b95700b2fcd3863ef254c"), looks := true }, kinds := [], alts := [], laidByText := true, laidKinds := [.handle], laidTests := true, laidLooks := .later }
def StoreKeepsUptoCardSaid : Prop := Claim7.holds Tryd.pinned (.plain (OpenSpec.upto storeKeepsSpec)) storeKeepsUptoCard

/-- THE SECOND FORM's CARD OF 'footbridgelaw2.PathIs'. -/
def pathIsUptoCard : Claim7 := { stood := { row := pathIsUptoRow, standIns := [], harness := (true, "9bda8cfe944439ee8982b8a550652126017cdac6149b95700b2fcd3863ef254c"), looks := true }, kinds := [], alts := [], laidByText := true, laidKinds := [.handle], laidTests := true, laidLooks := .later }
def PathIsUptoCardSaid : Prop := Claim7.holds Tryd.pinned (.plain (OpenSpec.upto pathIsSpec)) pathIsUptoCard

/-- THE SECOND FORM's CARD OF 'footbridgelaw2.PathGoes'. -/
def pathGoesUptoCard : Claim7 := { stood := { row := pathGoesUptoRow, standIns := [], harness := (true, "9bda8cfe944439ee8982b8a550652126017cdac6149b95700b2fcd3863ef254c"), looks := true }, kinds := [], alts := [], laidByText := true, laidKinds := [.handle], laidTests := true, laidLooks := .later }
def PathGoesUptoCardSaid : Prop := Claim7.holds Tryd.pinned (.plain (OpenSpec.upto pathGoesSpec)) pathGoesUptoCard

/-- THE SECOND FORM's CARD OF 'footbridgelaw1.SpanIs'. -/
def spanIsUptoCard : Claim7 := { stood := { row := spanIsUptoRow, standIns := [], harness := (true, "9bda8cfe944439ee8982b8a550652126017cdac6149b95700b2fcd3863ef254c"), looks := true }, kinds := [], alts := [], laidByText := true, laidKinds := [.handle], laidTests := true, laidLooks := .later }
def SpanIsUptoCardSaid : Prop := Claim7.holds Tryd.pinned (.plain (OpenSpec.upto spanIsSpec)) spanIsUptoCard
end Rows
end Go.Proofs.YtenjblonepegfaaDoor
