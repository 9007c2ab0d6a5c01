/-
  No cell of these rows narrows 'for every input' (looked for: loops, veiled, ifaces, maps, wideKeys, modest, calm, conditions, laid).
  DERIVED. THE GIVEN ROWS OF THIS SEAT. 8 by the template 'for every input the law returns true; each argument reads behind the call as it read before'; 0 by the template 'total and deterministic' (their statements: YtnoekneeefpleaaTotals.lean).
  GIVEN WITH THE SEED: the statements are not yours to turn. If you find one false, say at which input.
  Laid BY PROGRAM, IN A SANDBOX (cutbox-rows.mjs): the forced cells as the released guide's own fill.sh prints them over the translation 725c2fe01199c066… (all of the seat's roots in one cut). By AI agents, Wed Nov 11 2026. No macro, syntax, notation, axiom, sorry.
-/
import Derived.Test.YtnoekneeefpleaaChecked
import GoSem.Claim
import GoSem.ClaimJoined
import GoSem.ClaimMapViews
import Derived.JoinedTies
import Derived.KernelRfl
namespace Go.Proofs.Ytnoekneeefpleaa
/- THE CELL 'sum', in the pinned program and in every row, IS THE sha256 OF THE DUMP (.gsa) THAT YtnoekneeefpleaaProg.lean LOADS. Nothing in Lean hashes anything: it is a label: what it is worth is what the hold of that sum in a sandbox is worth. -/
noncomputable def Try.pinned : Pinned := { name := "ytnoekneeefpleaa", sum := "725c2fe01199c066320dcd27bd344713720173d43eaf8e6990b3c9e636fcafc2", checked := Try.checked }
namespace Rows
def none {H : Type} : Left H := { results := [], args := [] }

/-- 'footbridgelaw1.Names': WHATEVER THE INPUT: true; the input reads as it did. -/
def namesSpec : ChangeSpec := { name := "names", fn := fun _ => fun
  | [] => { results := [.lit (.bool true)], args := [] }
  | _ => none }
def namesRow : OpenClaim := { program := "ytnoekneeefpleaa", sum := "725c2fe01199c066320dcd27bd344713720173d43eaf8e6990b3c9e636fcafc2", func := "footbridge/footbridgelaw1.Names", spec := "names", plainKeys := false, apart := false }
def NamesSaid : Prop := namesRow.holds Try.pinned (OpenSpec.ofChange namesSpec)

/-- ITS FALSE NEIGHBOUR: 'it returns false'. Refute it at one input. -/
def namesWrong : ChangeSpec := { name := "names", fn := fun _ => fun
  | [] => { results := [.lit (.bool false)], args := [] }
  | _ => none }
def NamesWrongFalsely : Prop := namesRow.holds Try.pinned (OpenSpec.ofChange namesWrong)

/-- 'footbridgelaw1.UnionOrder': WHATEVER THE INPUT: true; the input reads as it did. -/
def unionOrderSpec : ChangeSpec := { name := "unionOrder", fn := fun _ => fun
  | [d1, d2] => { results := [.lit (.bool true)], args := [d1, d2] }
  | _ => none }
def unionOrderRow : OpenClaim := { program := "ytnoekneeefpleaa", sum := "725c2fe01199c066320dcd27bd344713720173d43eaf8e6990b3c9e636fcafc2", func := "footbridge/footbridgelaw1.UnionOrder", spec := "unionOrder", plainKeys := false, apart := false }
def UnionOrderSaid : Prop := unionOrderRow.holds Try.pinned (OpenSpec.ofChange unionOrderSpec)

/-- ITS FALSE NEIGHBOUR: 'it returns false'. Refute it at one input. -/
def unionOrderWrong : ChangeSpec := { name := "unionOrder", fn := fun _ => fun
  | [d1, d2] => { results := [.lit (.bool false)], args := [d1, d2] }
  | _ => none }
def UnionOrderWrongFalsely : Prop := unionOrderRow.holds Try.pinned (OpenSpec.ofChange unionOrderWrong)

/-- 'footbridgelaw1.UnionBack': WHATEVER THE INPUT: true; the input reads as it did. -/
def unionBackSpec : ChangeSpec := { name := "unionBack", fn := fun _ => fun
  | [d1, d2, d3] => { results := [.lit (.bool true)], args := [d1, d2, d3] }
  | _ => none }
def unionBackRow : OpenClaim := { program := "ytnoekneeefpleaa", sum := "725c2fe01199c066320dcd27bd344713720173d43eaf8e6990b3c9e636fcafc2", func := "footbridge/footbridgelaw1.UnionBack", spec := "unionBack", plainKeys := false, apart := false }
def UnionBackSaid : Prop := unionBackRow.holds Try.pinned (OpenSpec.ofChange unionBackSpec)

/-- ITS FALSE NEIGHBOUR: 'it returns false'. Refute it at one input. -/
def unionBackWrong : ChangeSpec := { name := "unionBack", fn := fun _ => fun
  | [d1, d2, d3] => { results := [.lit (.bool false)], args := [d1, d2, d3] }
  | _ => none }
def UnionBackWrongFalsely : Prop := unionBackRow.holds Try.pinned (OpenSpec.ofChange unionBackWrong)

/-- 'footbridgelaw2.DiskKeeps': WHATEVER THE INPUT: true; the input reads as it did. -/
def diskKeepsSpec : ChangeSpec := { name := "diskKeeps", fn := fun _ => fun
  | [d1, d2, d3] => { results := [.lit (.bool true)], args := [d1, d2, d3] }
  | _ => none }
def diskKeepsRow : OpenClaim := { program := "ytnoekneeefpleaa", sum := "725c2fe01199c066320dcd27bd344713720173d43eaf8e6990b3c9e636fcafc2", func := "footbridge/footbridgelaw2.DiskKeeps", spec := "diskKeeps", plainKeys := false, apart := false }
def DiskKeepsSaid : Prop := diskKeepsRow.holds Try.pinned (OpenSpec.ofChange diskKeepsSpec)

/-- ITS FALSE NEIGHBOUR: 'it returns false'. Refute it at one input. -/
def diskKeepsWrong : ChangeSpec := { name := "diskKeeps", fn := fun _ => fun
  | [d1, d2, d3] => { results := [.lit (.bool false)], args := [d1, d2, d3] }
  | _ => none }
def DiskKeepsWrongFalsely : Prop := diskKeepsRow.holds Try.pinned (OpenSpec.ofChange diskKeepsWrong)

/-- 'footbridgelaw1.SeqStays': WHATEVER THE INPUT: true; the input reads as it did. -/
def seqStaysSpec : ChangeSpec := { name := "seqStays", fn := fun _ => fun
  | [d1, d2, d3, d4] => { results := [.lit (.bool true)], args := [d1, d2, d3, d4] }
  | _ => none }
def seqStaysRow : OpenClaim := { program := "ytnoekneeefpleaa", sum := "725c2fe01199c066320dcd27bd344713720173d43eaf8e6990b3c9e636fcafc2", func := "footbridge/footbridgelaw1.SeqStays", spec := "seqStays", unfollowed := true, recurses := true, plainKeys := false, apart := false }
def SeqStaysSaid : Prop := seqStaysRow.holds Try.pinned (OpenSpec.ofChange seqStaysSpec)

/-- ITS FALSE NEIGHBOUR: 'it returns false'. Refute it at one input. -/
def seqStaysWrong : ChangeSpec := { name := "seqStays", fn := fun _ => fun
  | [d1, d2, d3, d4] => { results := [.lit (.bool false)], args := [d1, d2, d3, d4] }
  | _ => none }
def SeqStaysWrongFalsely : Prop := seqStaysRow.holds Try.pinned (OpenSpec.ofChange seqStaysWrong)

/-- 'footbridgelaw1.SeqLaws': WHATEVER THE INPUT: true; the input reads as it did. -/
def seqLawsSpec : ChangeSpec := { name := "seqLaws", fn := fun _ => fun
  | [d1, d2, d3, d4] => { results := [.lit (.bool true)], args := [d1, d2, d3, d4] }
  | _ => none }
def seqLawsRow : OpenClaim := { program := "ytnoekneeefpleaa", sum := "725c2fe01199c066320dcd27bd344713720173d43eaf8e6990b3c9e636fcafc2", func := "footbridge/footbridgelaw1.SeqLaws", spec := "seqLaws", unfollowed := true, recurses := true, plainKeys := false, apart := false }
def SeqLawsSaid : Prop := seqLawsRow.holds Try.pinned (OpenSpec.ofChange seqLawsSpec)

/-- ITS FALSE NEIGHBOUR: 'it returns false'. Refute it at one input. -/
def seqLawsWrong : ChangeSpec := { name := "seqLaws", fn := fun _ => fun
  | [d1, d2, d3, d4] => { results := [.lit (.bool false)], args := [d1, d2, d3, d4] }
  | _ => none }
def SeqLawsWrongFalsely : Prop := seqLawsRow.holds Try.pinned (OpenSpec.ofChange seqLawsWrong)

/-- 'footbridgelaw1.AsksBegin': WHATEVER THE INPUT: true; the input reads as it did. -/
def asksBeginSpec : ChangeSpec := { name := "asksBegin", fn := fun _ => fun
  | [d1, d2, d3, d4, d5] => { results := [.lit (.bool true)], args := [d1, d2, d3, d4, d5] }
  | _ => none }
def asksBeginRow : OpenClaim := { program := "ytnoekneeefpleaa", sum := "725c2fe01199c066320dcd27bd344713720173d43eaf8e6990b3c9e636fcafc2", func := "footbridge/footbridgelaw1.AsksBegin", spec := "asksBegin", recurses := true, plainKeys := false, apart := false }
def AsksBeginSaid : Prop := asksBeginRow.holds Try.pinned (OpenSpec.ofChange asksBeginSpec)

/-- ITS FALSE NEIGHBOUR: 'it returns false'. Refute it at one input. -/
def asksBeginWrong : ChangeSpec := { name := "asksBegin", fn := fun _ => fun
  | [d1, d2, d3, d4, d5] => { results := [.lit (.bool false)], args := [d1, d2, d3, d4, d5] }
  | _ => none }
def AsksBeginWrongFalsely : Prop := asksBeginRow.holds Try.pinned (OpenSpec.ofChange asksBeginWrong)

/-- 'footbridgelaw1.SpanNecks': WHATEVER THE INPUT: true; the input reads as it did. -/
def spanNecksSpec : ChangeSpec := { name := "spanNecks", fn := fun _ => fun
  | [d1, d2, d3, d4, d5] => { results := [.lit (.bool true)], args := [d1, d2, d3, d4, d5] }
  | _ => none }
def spanNecksRow : OpenClaim := { program := "ytnoekneeefpleaa", sum := "725c2fe01199c066320dcd27bd344713720173d43eaf8e6990b3c9e636fcafc2", func := "footbridge/footbridgelaw1.SpanNecks", spec := "spanNecks", unfollowed := true, recurses := true, plainKeys := false, apart := false }
def SpanNecksSaid : Prop := spanNecksRow.holds Try.pinned (OpenSpec.ofChange spanNecksSpec)

/-- ITS FALSE NEIGHBOUR: 'it returns false'. Refute it at one input. -/
def spanNecksWrong : ChangeSpec := { name := "spanNecks", fn := fun _ => fun
  | [d1, d2, d3, d4, d5] => { results := [.lit (.bool false)], args := [d1, d2, d3, d4, d5] }
  | _ => none }
def SpanNecksWrongFalsely : Prop := spanNecksRow.holds Try.pinned (OpenSpec.ofChange spanNecksWrong)

/- THE SECOND FORM. 'bulk': how many values and letters a reading holds, each counted each time it is reached (what is shared counts as often as it is met; a slice's spare places count too). A statement '..UptoSaid' is the law's where the arguments, and the package variables that the reading takes, are together of bulk at most 1048576: NARROWER than '..Said'. Prove '..Said' where nothing that the law and all that it calls make is longer than what came in: it says more and counts as full. Else prove '..UptoSaid'. A law counts once. -/
mutual
def uptoBulk {H : Type} : DataW H → Nat
  | .lit (.string bytes) => bytes.length + 1
  | .lit _ => 1
  | .nil => 1
  | .ptr d => uptoBulk d + 1
  | .slice elems spare => uptoBulkAll elems + uptoBulkAll spare + 1
  | .agg parts => uptoBulkAll parts + 1
  | .iface _ d => uptoBulk d + 1
  | .map entries => uptoBulkEntries entries + 1
  | .held _ => 1
def uptoBulkAll {H : Type} : List (DataW H) → Nat
  | [] => 0
  | d :: r => uptoBulk d + uptoBulkAll r
def uptoBulkEntries {H : Type} : List (Lit × DataW H) → Nat
  | [] => 0
  | x :: r => uptoBulkEntry x + uptoBulkEntries r
def uptoBulkEntry {H : Type} : Lit × DataW H → Nat
  | (.string bytes, d) => bytes.length + uptoBulk d + 1
  | (_, d) => uptoBulk d + 1
 end
def uptoSmall : (H : Type) → List (DataW H) → Bool := fun _ ds => decide (uptoBulkAll ds ≤ 1048576)
def OpenSpec.upto (s : _root_.Go.ChangeSpec) : _root_.Go.OpenSpec := { _root_.Go.OpenSpec.ofChange s with cond := some uptoSmall }

/-- 'footbridgelaw1.Names', WHERE WHAT IT READS IS OF BULK AT MOST 1048576: true; the input reads as it did. -/
def namesUptoRow : OpenClaim := { program := "ytnoekneeefpleaa", sum := "725c2fe01199c066320dcd27bd344713720173d43eaf8e6990b3c9e636fcafc2", func := "footbridge/footbridgelaw1.Names", spec := "names", plainKeys := false, apart := false, narrowed := true }
def NamesUptoSaid : Prop := namesUptoRow.holds Try.pinned (OpenSpec.upto namesSpec)

/-- 'footbridgelaw1.UnionOrder', WHERE WHAT IT READS IS OF BULK AT MOST 1048576: true; the input reads as it did. -/
def unionOrderUptoRow : OpenClaim := { program := "ytnoekneeefpleaa", sum := "725c2fe01199c066320dcd27bd344713720173d43eaf8e6990b3c9e636fcafc2", func := "footbridge/footbridgelaw1.UnionOrder", spec := "unionOrder", plainKeys := false, apart := false, narrowed := true }
def UnionOrderUptoSaid : Prop := unionOrderUptoRow.holds Try.pinned (OpenSpec.upto unionOrderSpec)

/-- 'footbridgelaw1.UnionBack', WHERE WHAT IT READS IS OF BULK AT MOST 1048576: true; the input reads as it did. -/
def unionBackUptoRow : OpenClaim := { program := "ytnoekneeefpleaa", sum := "725c2fe01199c066320dcd27bd344713720173d43eaf8e6990b3c9e636fcafc2", func := "footbridge/footbridgelaw1.UnionBack", spec := "unionBack", plainKeys := false, apart := false, narrowed := true }
def UnionBackUptoSaid : Prop := unionBackUptoRow.holds Try.pinned (OpenSpec.upto unionBackSpec)

/-- 'footbridgelaw2.DiskKeeps', WHERE WHAT IT READS IS OF BULK AT MOST 1048576: true; the input reads as it did. -/
def diskKeepsUptoRow : OpenClaim := { program := "ytnoekneeefpleaa", sum := "725c2fe01199c066320dcd27bd344713720173d43eaf8e6990b3c9e636fcafc2", func := "footbridge/footbridgelaw2.DiskKeeps", spec := "diskKeeps", plainKeys := false, apart := false, narrowed := true }
def DiskKeepsUptoSaid : Prop := diskKeepsUptoRow.holds Try.pinned (OpenSpec.upto diskKeepsSpec)

/-- 'footbridgelaw1.SeqStays', WHERE WHAT IT READS IS OF BULK AT MOST 1048576: true; the input reads as it did. -/
def seqStaysUptoRow : OpenClaim := { program := "ytnoekneeefpleaa", sum := "725c2fe01199c066320dcd27bd344713720173d43eaf8e6990b3c9e636fcafc2", func := "footbridge/footbridgelaw1.SeqStays", spec := "seqStays", unfollowed := true, recurses := true, plainKeys := false, apart := false, narrowed := true }
def SeqStaysUptoSaid : Prop := seqStaysUptoRow.holds Try.pinned (OpenSpec.upto seqStaysSpec)

/-- 'footbridgelaw1.SeqLaws', WHERE WHAT IT READS IS OF BULK AT MOST 1048576: true; the input reads as it did. -/
def seqLawsUptoRow : OpenClaim := { program := "ytnoekneeefpleaa", sum := "725c2fe01199c066320dcd27bd344713720173d43eaf8e6990b3c9e636fcafc2", func := "footbridge/footbridgelaw1.SeqLaws", spec := "seqLaws", unfollowed := true, recurses := true, plainKeys := false, apart := false, narrowed := true }
def SeqLawsUptoSaid : Prop := seqLawsUptoRow.holds Try.pinned (OpenSpec.upto seqLawsSpec)

/-- 'footbridgelaw1.AsksBegin', WHERE WHAT IT READS IS OF BULK AT MOST 1048576: true; the input reads as it did. -/
def asksBeginUptoRow : OpenClaim := { program := "ytnoekneeefpleaa", sum := "725c2fe01199c066320dcd27bd344713720173d43eaf8e6990b3c9e636fcafc2", func := "footbridge/footbridgelaw1.AsksBegin", spec := "asksBegin", recurses := true, plainKeys := false, apart := false, narrowed := true }
def AsksBeginUptoSaid : Prop := asksBeginUptoRow.holds Try.pinned (OpenSpec.upto asksBeginSpec)

/-- 'footbridgelaw1.SpanNecks', WHERE WHAT IT READS IS OF BULK AT MOST 1048576: true; the input reads as it did. -/
def spanNecksUptoRow : OpenClaim := { program := "ytnoekneeefpleaa", sum := "725c2fe01199c066320dcd27bd344713720173d43eaf8e6990b3c9e636fcafc2", func := "footbridge/footbridgelaw1.SpanNecks", spec := "spanNecks", unfollowed := true, recurses := true, plainKeys := false, apart := false, narrowed := true }
def SpanNecksUptoSaid : Prop := spanNecksUptoRow.holds Try.pinned (OpenSpec.upto spanNecksSpec)

end Rows
end Go.Proofs.Ytnoekneeefpleaa
