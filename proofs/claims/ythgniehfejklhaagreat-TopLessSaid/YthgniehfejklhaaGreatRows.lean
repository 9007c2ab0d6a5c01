/-
  No cell of these rows narrows 'for every input' (looked for: loops, veiled, ifaces, maps, wideKeys, modest, calm, conditions, laid).
  DERIVED. THE GIVEN ROWS OF THIS SEAT. 5 by the template 'for every input the law returns true; each argument reads behind the call as it read before'; 0 by the template 'total and deterministic' (their statements: YthgniehfejklhaaGreatTotals.lean).
  GIVEN WITH THE SEED: the statements are not yours to turn. If you find one false, say at which input.
  Laid BY PROGRAM, IN A SANDBOX (cutbox-rows.mjs): the forced cells as the released guide's own fill.sh prints them over the translation 9c544d939cdba3b9… (all of the seat's roots in one cut). By AI agents, Wed Nov 11 2026. No macro, syntax, notation, axiom, sorry.
-/
import Derived.Test.YthgniehfejklhaaGreatChecked
import GoSem.Claim
import GoSem.ClaimJoined
import GoSem.ClaimMapViews
import Derived.JoinedTies
import Derived.KernelRfl
namespace Go.Proofs.YthgniehfejklhaaGreat
/- THE CELL 'sum', in the pinned program and in every row, IS THE sha256 OF THE DUMP (.gsa) THAT YthgniehfejklhaaGreatProg.lean LOADS. Nothing in Lean hashes anything: it is a label: what it is worth is what the hold of that sum in a sandbox is worth. -/
noncomputable def Tryz.pinned : Pinned := { name := "ythgniehfejklhaagreat", sum := "9c544d939cdba3b9e16e3d38bff24225192b1ad4b708cedbb0e022eb8fc5eed7", checked := Tryz.checked }
namespace Rows
def none {H : Type} : Left H := { results := [], args := [] }

/-- 'footbridgetop.TopKept': WHATEVER THE INPUT: true; the input reads as it did. -/
def topKeptSpec : ChangeSpec := { name := "topKept", fn := fun _ => fun
  | [d1, d2, d3, d4, d5] => { results := [.lit (.bool true)], args := [d1, d2, d3, d4, d5] }
  | _ => none }
def topKeptRow : OpenClaim := { program := "ythgniehfejklhaagreat", sum := "9c544d939cdba3b9e16e3d38bff24225192b1ad4b708cedbb0e022eb8fc5eed7", func := "footbridge/footbridgetop.TopKept", spec := "topKept", unfollowed := true, recurses := true, plainKeys := false, apart := false }
def TopKeptSaid : Prop := topKeptRow.holds Tryz.pinned (OpenSpec.ofChange topKeptSpec)

/-- ITS FALSE NEIGHBOUR: 'it returns false'. Refute it at one input. -/
def topKeptWrong : ChangeSpec := { name := "topKept", fn := fun _ => fun
  | [d1, d2, d3, d4, d5] => { results := [.lit (.bool false)], args := [d1, d2, d3, d4, d5] }
  | _ => none }
def TopKeptWrongFalsely : Prop := topKeptRow.holds Tryz.pinned (OpenSpec.ofChange topKeptWrong)

/-- 'footbridgetop.TopAsked': WHATEVER THE INPUT: true; the input reads as it did. -/
def topAskedSpec : ChangeSpec := { name := "topAsked", fn := fun _ => fun
  | [d1, d2, d3] => { results := [.lit (.bool true)], args := [d1, d2, d3] }
  | _ => none }
def topAskedRow : OpenClaim := { program := "ythgniehfejklhaagreat", sum := "9c544d939cdba3b9e16e3d38bff24225192b1ad4b708cedbb0e022eb8fc5eed7", func := "footbridge/footbridgetop.TopAsked", spec := "topAsked", unfollowed := true, recurses := true, plainKeys := false, apart := false }
def TopAskedSaid : Prop := topAskedRow.holds Tryz.pinned (OpenSpec.ofChange topAskedSpec)

/-- ITS FALSE NEIGHBOUR: 'it returns false'. Refute it at one input. -/
def topAskedWrong : ChangeSpec := { name := "topAsked", fn := fun _ => fun
  | [d1, d2, d3] => { results := [.lit (.bool false)], args := [d1, d2, d3] }
  | _ => none }
def TopAskedWrongFalsely : Prop := topAskedRow.holds Tryz.pinned (OpenSpec.ofChange topAskedWrong)

/-- 'footbridgetop.TopBridges': WHATEVER THE INPUT: true; the input reads as it did. -/
def topBridgesSpec : ChangeSpec := { name := "topBridges", fn := fun _ => fun
  | [d1, d2, d3] => { results := [.lit (.bool true)], args := [d1, d2, d3] }
  | _ => none }
def topBridgesRow : OpenClaim := { program := "ythgniehfejklhaagreat", sum := "9c544d939cdba3b9e16e3d38bff24225192b1ad4b708cedbb0e022eb8fc5eed7", func := "footbridge/footbridgetop.TopBridges", spec := "topBridges", unfollowed := true, recurses := true, plainKeys := false, apart := false }
def TopBridgesSaid : Prop := topBridgesRow.holds Tryz.pinned (OpenSpec.ofChange topBridgesSpec)

/-- ITS FALSE NEIGHBOUR: 'it returns false'. Refute it at one input. -/
def topBridgesWrong : ChangeSpec := { name := "topBridges", fn := fun _ => fun
  | [d1, d2, d3] => { results := [.lit (.bool false)], args := [d1, d2, d3] }
  | _ => none }
def TopBridgesWrongFalsely : Prop := topBridgesRow.holds Tryz.pinned (OpenSpec.ofChange topBridgesWrong)

/-- 'footbridgetop.TopLess': WHATEVER THE INPUT: true; the input reads as it did. -/
def topLessSpec : ChangeSpec := { name := "topLess", fn := fun _ => fun
  | [d1, d2, d3] => { results := [.lit (.bool true)], args := [d1, d2, d3] }
  | _ => none }
def topLessRow : OpenClaim := { program := "ythgniehfejklhaagreat", sum := "9c544d939cdba3b9e16e3d38bff24225192b1ad4b708cedbb0e022eb8fc5eed7", func := "footbridge/footbridgetop.TopLess", spec := "topLess", unfollowed := true, recurses := true, plainKeys := false, apart := false }
def TopLessSaid : Prop := topLessRow.holds Tryz.pinned (OpenSpec.ofChange topLessSpec)

/-- ITS FALSE NEIGHBOUR: 'it returns false'. Refute it at one input. -/
def topLessWrong : ChangeSpec := { name := "topLess", fn := fun _ => fun
  | [d1, d2, d3] => { results := [.lit (.bool false)], args := [d1, d2, d3] }
  | _ => none }
def TopLessWrongFalsely : Prop := topLessRow.holds Tryz.pinned (OpenSpec.ofChange topLessWrong)

/-- 'footbridgetop.TopWays': WHATEVER THE INPUT: true; the input reads as it did. -/
def topWaysSpec : ChangeSpec := { name := "topWays", fn := fun _ => fun
  | [d1, d2, d3, d4] => { results := [.lit (.bool true)], args := [d1, d2, d3, d4] }
  | _ => none }
def topWaysRow : OpenClaim := { program := "ythgniehfejklhaagreat", sum := "9c544d939cdba3b9e16e3d38bff24225192b1ad4b708cedbb0e022eb8fc5eed7", func := "footbridge/footbridgetop.TopWays", spec := "topWays", unfollowed := true, recurses := true, plainKeys := false, apart := false }
def TopWaysSaid : Prop := topWaysRow.holds Tryz.pinned (OpenSpec.ofChange topWaysSpec)

/-- ITS FALSE NEIGHBOUR: 'it returns false'. Refute it at one input. -/
def topWaysWrong : ChangeSpec := { name := "topWays", fn := fun _ => fun
  | [d1, d2, d3, d4] => { results := [.lit (.bool false)], args := [d1, d2, d3, d4] }
  | _ => none }
def TopWaysWrongFalsely : Prop := topWaysRow.holds Tryz.pinned (OpenSpec.ofChange topWaysWrong)

/- THE SECOND FORM. 'bulk': how many values and letters a reading holds, each counted each time it is reached (what is shared counts as often as it is met; a slice's spare places count too). A statement '..UptoSaid' is the law's where the arguments, and the package variables that the reading takes, are together of bulk at most 1048576: NARROWER than '..Said'. Prove '..Said' where nothing that the law and all that it calls make is longer than what came in: it says more and counts as full. Else prove '..UptoSaid'. A law counts once. -/
mutual
def uptoBulk {H : Type} : DataW H → Nat
  | .lit (.string bytes) => bytes.length + 1
  | .lit _ => 1
  | .nil => 1
  | .ptr d => uptoBulk d + 1
  | .slice elems spare => uptoBulkAll elems + uptoBulkAll spare + 1
  | .agg parts => uptoBulkAll parts + 1
  | .iface _ d => uptoBulk d + 1
  | .map entries => uptoBulkEntries entries + 1
  | .held _ => 1
def uptoBulkAll {H : Type} : List (DataW H) → Nat
  | [] => 0
  | d :: r => uptoBulk d + uptoBulkAll r
def uptoBulkEntries {H : Type} : List (Lit × DataW H) → Nat
  | [] => 0
  | x :: r => uptoBulkEntry x + uptoBulkEntries r
def uptoBulkEntry {H : Type} : Lit × DataW H → Nat
  | (.string bytes, d) => bytes.length + uptoBulk d + 1
  | (_, d) => uptoBulk d + 1
 end
def uptoSmall : (H : Type) → List (DataW H) → Bool := fun _ ds => decide (uptoBulkAll ds ≤ 1048576)
def OpenSpec.upto (s : _root_.Go.ChangeSpec) : _root_.Go.OpenSpec := { _root_.Go.OpenSpec.ofChange s with cond := some uptoSmall }

/-- 'footbridgetop.TopKept', WHERE WHAT IT READS IS OF BULK AT MOST 1048576: true; the input reads as it did. -/
def topKeptUptoRow : OpenClaim := { program := "ythgniehfejklhaagreat", sum := "9c544d939cdba3b9e16e3d38bff24225192b1ad4b708cedbb0e022eb8fc5eed7", func := "footbridge/footbridgetop.TopKept", spec := "topKept", unfollowed := true, recurses := true, plainKeys := false, apart := false, narrowed := true }
def TopKeptUptoSaid : Prop := topKeptUptoRow.holds Tryz.pinned (OpenSpec.upto topKeptSpec)

/-- 'footbridgetop.TopAsked', WHERE WHAT IT READS IS OF BULK AT MOST 1048576: true; the input reads as it did. -/
def topAskedUptoRow : OpenClaim := { program := "ythgniehfejklhaagreat", sum := "9c544d939cdba3b9e16e3d38bff24225192b1ad4b708cedbb0e022eb8fc5eed7", func := "footbridge/footbridgetop.TopAsked", spec := "topAsked", unfollowed := true, recurses := true, plainKeys := false, apart := false, narrowed := true }
def TopAskedUptoSaid : Prop := topAskedUptoRow.holds Tryz.pinned (OpenSpec.upto topAskedSpec)

/-- 'footbridgetop.TopBridges', WHERE WHAT IT READS IS OF BULK AT MOST 1048576: true; the input reads as it did. -/
def topBridgesUptoRow : OpenClaim := { program := "ythgniehfejklhaagreat", sum := "9c544d939cdba3b9e16e3d38bff24225192b1ad4b708cedbb0e022eb8fc5eed7", func := "footbridge/footbridgetop.TopBridges", spec := "topBridges", unfollowed := true, recurses := true, plainKeys := false, apart := false, narrowed := true }
def TopBridgesUptoSaid : Prop := topBridgesUptoRow.holds Tryz.pinned (OpenSpec.upto topBridgesSpec)

/-- 'footbridgetop.TopLess', WHERE WHAT IT READS IS OF BULK AT MOST 1048576: true; the input reads as it did. -/
def topLessUptoRow : OpenClaim := { program := "ythgniehfejklhaagreat", sum := "9c544d939cdba3b9e16e3d38bff24225192b1ad4b708cedbb0e022eb8fc5eed7", func := "footbridge/footbridgetop.TopLess", spec := "topLess", unfollowed := true, recurses := true, plainKeys := false, apart := false, narrowed := true }
def TopLessUptoSaid : Prop := topLessUptoRow.holds Tryz.pinned (OpenSpec.upto topLessSpec)

/-- 'footbridgetop.TopWays', WHERE WHAT IT READS IS OF BULK AT MOST 1048576: true; the input reads as it did. -/
def topWaysUptoRow : OpenClaim := { program := "ythgniehfejklhaagreat", sum := "9c544d939cdba3b9e16e3d38bff24225192b1ad4b708cedbb0e022eb8fc5eed7", func := "footbridge/footbridgetop.TopWays", spec := "topWays", unfollowed := true, recurses := true, plainKeys := false, apart := false, narrowed := true }
def TopWaysUptoSaid : Prop := topWaysUptoRow.holds Tryz.pinned (OpenSpec.upto topWaysSpec)

end Rows
end Go.Proofs.YthgniehfejklhaaGreat
