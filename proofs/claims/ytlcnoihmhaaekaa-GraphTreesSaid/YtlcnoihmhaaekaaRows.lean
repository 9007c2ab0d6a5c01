/-
  No cell of these rows narrows 'for every input' (looked for: loops, veiled, ifaces, maps, wideKeys, modest, calm, conditions, laid).
  DERIVED. THE GIVEN ROWS OF THIS SEAT. 4 by the template 'for every input the law returns true; each argument reads behind the call as it read before'; 0 by the template 'total and deterministic' (their statements: YtlcnoihmhaaekaaTotals.lean).
  GIVEN WITH THE SEED: the statements are not yours to turn. If you find one false, say at which input.
  Laid BY PROGRAM, IN A SANDBOX (cutbox-rows.mjs): the forced cells as the released guide's own fill.sh prints them over the translation 374bfea8ed733284… (all of the seat's roots in one cut). By AI agents, Wed Nov 11 2026. No macro, syntax, notation, axiom, sorry.
-/
import Derived.Test.YtlcnoihmhaaekaaChecked
import GoSem.Claim
import GoSem.ClaimJoined
import GoSem.ClaimMapViews
import Derived.JoinedTies
import Derived.KernelRfl
namespace Go.Proofs.Ytlcnoihmhaaekaa
/- THE CELL 'sum', in the pinned program and in every row, IS THE sha256 OF THE DUMP (.gsa) THAT YtlcnoihmhaaekaaProg.lean LOADS. Nothing in Lean hashes anything: it is a label: what it is worth is what the hold of that sum in a sandbox is worth. -/
noncomputable def Try.pinned : Pinned := { name := "ytlcnoihmhaaekaa", sum := "374bfea8ed733284fd698513d2166f1936ecddbc308bdeecd1b4dadef72989c4", checked := Try.checked }
namespace Rows
def none {H : Type} : Left H := { results := [], args := [] }

/-- 'footbridgelaw1.TourCuts': WHATEVER THE INPUT: true; the input reads as it did. -/
def tourCutsSpec : ChangeSpec := { name := "tourCuts", fn := fun _ => fun
  | [d1, d2, d3] => { results := [.lit (.bool true)], args := [d1, d2, d3] }
  | _ => none }
def tourCutsRow : OpenClaim := { program := "ytlcnoihmhaaekaa", sum := "374bfea8ed733284fd698513d2166f1936ecddbc308bdeecd1b4dadef72989c4", func := "footbridge/footbridgelaw1.TourCuts", spec := "tourCuts", unfollowed := true, recurses := true, plainKeys := false, apart := false }
def TourCutsSaid : Prop := tourCutsRow.holds Try.pinned (OpenSpec.ofChange tourCutsSpec)

/-- ITS FALSE NEIGHBOUR: 'it returns false'. Refute it at one input. -/
def tourCutsWrong : ChangeSpec := { name := "tourCuts", fn := fun _ => fun
  | [d1, d2, d3] => { results := [.lit (.bool false)], args := [d1, d2, d3] }
  | _ => none }
def TourCutsWrongFalsely : Prop := tourCutsRow.holds Try.pinned (OpenSpec.ofChange tourCutsWrong)

/-- 'footbridgelaw1.GraphOrder': WHATEVER THE INPUT: true; the input reads as it did. -/
def graphOrderSpec : ChangeSpec := { name := "graphOrder", fn := fun _ => fun
  | [d1, d2, d3] => { results := [.lit (.bool true)], args := [d1, d2, d3] }
  | _ => none }
def graphOrderRow : OpenClaim := { program := "ytlcnoihmhaaekaa", sum := "374bfea8ed733284fd698513d2166f1936ecddbc308bdeecd1b4dadef72989c4", func := "footbridge/footbridgelaw1.GraphOrder", spec := "graphOrder", unfollowed := true, recurses := true, plainKeys := false, apart := false }
def GraphOrderSaid : Prop := graphOrderRow.holds Try.pinned (OpenSpec.ofChange graphOrderSpec)

/-- ITS FALSE NEIGHBOUR: 'it returns false'. Refute it at one input. -/
def graphOrderWrong : ChangeSpec := { name := "graphOrder", fn := fun _ => fun
  | [d1, d2, d3] => { results := [.lit (.bool false)], args := [d1, d2, d3] }
  | _ => none }
def GraphOrderWrongFalsely : Prop := graphOrderRow.holds Try.pinned (OpenSpec.ofChange graphOrderWrong)

/-- 'footbridgelaw1.GraphTrees': WHATEVER THE INPUT: true; the input reads as it did. -/
def graphTreesSpec : ChangeSpec := { name := "graphTrees", fn := fun _ => fun
  | [d1, d2] => { results := [.lit (.bool true)], args := [d1, d2] }
  | _ => none }
def graphTreesRow : OpenClaim := { program := "ytlcnoihmhaaekaa", sum := "374bfea8ed733284fd698513d2166f1936ecddbc308bdeecd1b4dadef72989c4", func := "footbridge/footbridgelaw1.GraphTrees", spec := "graphTrees", unfollowed := true, recurses := true, plainKeys := false, apart := false }
def GraphTreesSaid : Prop := graphTreesRow.holds Try.pinned (OpenSpec.ofChange graphTreesSpec)

/-- ITS FALSE NEIGHBOUR: 'it returns false'. Refute it at one input. -/
def graphTreesWrong : ChangeSpec := { name := "graphTrees", fn := fun _ => fun
  | [d1, d2] => { results := [.lit (.bool false)], args := [d1, d2] }
  | _ => none }
def GraphTreesWrongFalsely : Prop := graphTreesRow.holds Try.pinned (OpenSpec.ofChange graphTreesWrong)

/-- 'footbridgelaw1.AsksGraph': WHATEVER THE INPUT: true; the input reads as it did. -/
def asksGraphSpec : ChangeSpec := { name := "asksGraph", fn := fun _ => fun
  | [d1, d2] => { results := [.lit (.bool true)], args := [d1, d2] }
  | _ => none }
def asksGraphRow : OpenClaim := { program := "ytlcnoihmhaaekaa", sum := "374bfea8ed733284fd698513d2166f1936ecddbc308bdeecd1b4dadef72989c4", func := "footbridge/footbridgelaw1.AsksGraph", spec := "asksGraph", unfollowed := true, recurses := true, plainKeys := false, apart := false }
def AsksGraphSaid : Prop := asksGraphRow.holds Try.pinned (OpenSpec.ofChange asksGraphSpec)

/-- ITS FALSE NEIGHBOUR: 'it returns false'. Refute it at one input. -/
def asksGraphWrong : ChangeSpec := { name := "asksGraph", fn := fun _ => fun
  | [d1, d2] => { results := [.lit (.bool false)], args := [d1, d2] }
  | _ => none }
def AsksGraphWrongFalsely : Prop := asksGraphRow.holds Try.pinned (OpenSpec.ofChange asksGraphWrong)

/- THE SECOND FORM. 'bulk': how many values and letters a reading holds, each counted each time it is reached (what is shared counts as often as it is met; a slice's spare places count too). A statement '..UptoSaid' is the law's where the arguments, and the package variables that the reading takes, are together of bulk at most 1048576: NARROWER than '..Said'. Prove '..Said' where nothing that the law and all that it calls make is longer than what came in: it says more and counts as full. Else prove '..UptoSaid'. A law counts once. -/
mutual
def uptoBulk {H : Type} : DataW H → Nat
  | .lit (.string bytes) => bytes.length + 1
  | .lit _ => 1
  | .nil => 1
  | .ptr d => uptoBulk d + 1
  | .slice elems spare => uptoBulkAll elems + uptoBulkAll spare + 1
  | .agg parts => uptoBulkAll parts + 1
  | .iface _ d => uptoBulk d + 1
  | .map entries => uptoBulkEntries entries + 1
  | .held _ => 1
def uptoBulkAll {H : Type} : List (DataW H) → Nat
  | [] => 0
  | d :: r => uptoBulk d + uptoBulkAll r
def uptoBulkEntries {H : Type} : List (Lit × DataW H) → Nat
  | [] => 0
  | x :: r => uptoBulkEntry x + uptoBulkEntries r
def uptoBulkEntry {H : Type} : Lit × DataW H → Nat
  | (.string bytes, d) => bytes.length + uptoBulk d + 1
  | (_, d) => uptoBulk d + 1
 end
def uptoSmall : (H : Type) → List (DataW H) → Bool := fun _ ds => decide (uptoBulkAll ds ≤ 1048576)
def OpenSpec.upto (s : _root_.Go.ChangeSpec) : _root_.Go.OpenSpec := { _root_.Go.OpenSpec.ofChange s with cond := some uptoSmall }

/-- 'footbridgelaw1.TourCuts', WHERE WHAT IT READS IS OF BULK AT MOST 1048576: true; the input reads as it did. -/
def tourCutsUptoRow : OpenClaim := { program := "ytlcnoihmhaaekaa", sum := "374bfea8ed733284fd698513d2166f1936ecddbc308bdeecd1b4dadef72989c4", func := "footbridge/footbridgelaw1.TourCuts", spec := "tourCuts", unfollowed := true, recurses := true, plainKeys := false, apart := false, narrowed := true }
def TourCutsUptoSaid : Prop := tourCutsUptoRow.holds Try.pinned (OpenSpec.upto tourCutsSpec)

/-- 'footbridgelaw1.GraphOrder', WHERE WHAT IT READS IS OF BULK AT MOST 1048576: true; the input reads as it did. -/
def graphOrderUptoRow : OpenClaim := { program := "ytlcnoihmhaaekaa", sum := "374bfea8ed733284fd698513d2166f1936ecddbc308bdeecd1b4dadef72989c4", func := "footbridge/footbridgelaw1.GraphOrder", spec := "graphOrder", unfollowed := true, recurses := true, plainKeys := false, apart := false, narrowed := true }
def GraphOrderUptoSaid : Prop := graphOrderUptoRow.holds Try.pinned (OpenSpec.upto graphOrderSpec)

/-- 'footbridgelaw1.GraphTrees', WHERE WHAT IT READS IS OF BULK AT MOST 1048576: true; the input reads as it did. -/
def graphTreesUptoRow : OpenClaim := { program := "ytlcnoihmhaaekaa", sum := "374bfea8ed733284fd698513d2166f1936ecddbc308bdeecd1b4dadef72989c4", func := "footbridge/footbridgelaw1.GraphTrees", spec := "graphTrees", unfollowed := true, recurses := true, plainKeys := false, apart := false, narrowed := true }
def GraphTreesUptoSaid : Prop := graphTreesUptoRow.holds Try.pinned (OpenSpec.upto graphTreesSpec)

/-- 'footbridgelaw1.AsksGraph', WHERE WHAT IT READS IS OF BULK AT MOST 1048576: true; the input reads as it did. -/
def asksGraphUptoRow : OpenClaim := { program := "ytlcnoihmhaaekaa", sum := "374bfea8ed733284fd698513d2166f1936ecddbc308bdeecd1b4dadef72989c4", func := "footbridge/footbridgelaw1.AsksGraph", spec := "asksGraph", unfollowed := true, recurses := true, plainKeys := false, apart := false, narrowed := true }
def AsksGraphUptoSaid : Prop := asksGraphUptoRow.holds Try.pinned (OpenSpec.upto asksGraphSpec)

end Rows
end Go.Proofs.Ytlcnoihmhaaekaa
