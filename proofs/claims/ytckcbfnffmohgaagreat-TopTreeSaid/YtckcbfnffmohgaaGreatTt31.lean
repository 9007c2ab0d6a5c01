/-
  Walk of the references' Put. Condition: the edges lie in memory as 'EdsAt' says.
  footbridgesame.Error of an error by its number. Condition: the package variable errors.errorType holds the handle of the type 'error'.
  The references' rows of edges: NodesFault, Out. Condition: the edges lie in memory as 'EdsAt' says.
  The references' parts of a graph (PartsOf). Conditions: there is a node; the edges lie as 'EdsAt' says, their nodes are nodes.
-/
import Derived.Test.YtckcbfnffmohgaaGreatTt5
import Derived.Test.YtckcbfnffmohgaaGreatTt6
import Derived.Test.YtckcbfnffmohgaaGreatTt17
import Derived.Test.YtckcbfnffmohgaaGreatTt24
import Derived.Test.YtckcbfnffmohgaaGreatTt25
import Derived.Test.YtckcbfnffmohgaaGreatTt26
import Derived.Test.YtckcbfnffmohgaaGreatTt2
import Derived.Deep.LoopGhost
namespace Go.Proofs.YtckcbfnffmohgaaGreat
open Go Go.RowKit
set_option linter.unusedVariables false

section
variable {w wr w' : World} {l d : List AK.Ed} {e x : AK.Ed} {B k g c : Nat} {b : Bool} {vO : Value} {o : Obj}
end
end Go.Proofs.YtckcbfnffmohgaaGreat
namespace Go.Proofs.YtckcbfnffmohgaaGreat
open Go Go.RowKit
set_option linter.unusedVariables false

end Go.Proofs.YtckcbfnffmohgaaGreat
namespace Go.Proofs.YtckcbfnffmohgaaGreat
open Go Go.RowKit Go.ChangeShapes Go.WideShapes
set_option linter.unusedVariables false

end Go.Proofs.YtckcbfnffmohgaaGreat
namespace Go.Proofs.YtckcbfnffmohgaaGreat
open Go Go.RowKit PT UF
set_option linter.unusedVariables false

/-- Edges as pairs of places. -/
def prs (l : List AK.Ed) : List (Nat × Nat) := l.map fun x => (x.1.toNat, x.2.toNat)
end Go.Proofs.YtckcbfnffmohgaaGreat
