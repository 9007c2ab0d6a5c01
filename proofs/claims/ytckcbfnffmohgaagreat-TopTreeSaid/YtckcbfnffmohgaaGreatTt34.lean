/-
  Towards GraphPlays: graph's Has; the references' SizeOf; parts of a graph, counted and measured. Conditions: the graph lies as 'GrM' says, the row as 'NRow'.
-/
import Derived.Test.YtckcbfnffmohgaaGreatTt16
import Derived.Test.YtckcbfnffmohgaaGreatTt32
import Derived.Test.YtckcbfnffmohgaaGreatTt33
import Derived.Test.YtckcbfnffmohgaaGreatTt31
import Derived.Deep.RegionHeld3
namespace Go.Proofs.YtckcbfnffmohgaaGreat
open Go Go.RowKit SQ TR DF PD PT
set_option linter.unusedVariables false

section
variable {w w' : World} {G : GrP} {n N : Nat} {A : List AK.Ed} {f : AK.Ed → GM.St} {Es : Nat → List AK.Ed}
end
end Go.Proofs.YtckcbfnffmohgaaGreat
