/-
  Rows of one's own that grow: of edges, of numbers. No conditions.
  Rows of one's own that grow: of edges, of numbers. No conditions.
  Walk of the references' Count. Condition: the parts lie in memory as 'IntsAt' says.
  Walk of the references' BridgesOf. Conditions: the edges lie in memory as 'EdsAt' says, and are edges that may be.
  Walk of the references' BridgesOf. Conditions: the edges lie in memory as 'EdsAt' says, and are edges that may be.
  Walk of the references' JointsOf. Conditions: the edges lie in memory as 'EdsAt' says, and are edges that may be.
  Rings, in plain Lean: a way by the edges ahead and the edge that closes it. No program in sight.
-/
import Derived.Test.YtckcbfnffmohgaaGreatTt6
import Derived.Test.YtckcbfnffmohgaaGreatTt5
import Derived.Test.YtckcbfnffmohgaaGreatTt2
import Derived.Test.YtckcbfnffmohgaaGreatTt33
import Derived.Test.YtckcbfnffmohgaaGreatTt31
import Derived.Test.YtckcbfnffmohgaaGreatTt47
import Derived.Test.YtckcbfnffmohgaaGreatTt17
import Derived.Test.YtckcbfnffmohgaaGreatTt48
namespace Go.Proofs.YtckcbfnffmohgaaGreat
open Go Go.RowKit
set_option linter.unusedVariables false

section
variable {w wr w' : World} {d : List AK.Ed} {x : AK.Ed} {di : List Int} {y : Int} {vO : Value} {g c : Nat}
end
end Go.Proofs.YtckcbfnffmohgaaGreat
namespace Go.Proofs.YtckcbfnffmohgaaGreat
open Go Go.RowKit
set_option linter.unusedVariables false

end Go.Proofs.YtckcbfnffmohgaaGreat
namespace Go.Proofs.YtckcbfnffmohgaaGreat
open Go Go.RowKit PT
set_option linter.unusedVariables false

end Go.Proofs.YtckcbfnffmohgaaGreat
namespace Go.Proofs.YtckcbfnffmohgaaGreat
open Go Go.RowKit PT
set_option linter.unusedVariables false

end Go.Proofs.YtckcbfnffmohgaaGreat
namespace Go.Proofs.YtckcbfnffmohgaaGreat
open Go Go.RowKit PT
set_option linter.unusedVariables false

end Go.Proofs.YtckcbfnffmohgaaGreat
namespace Go.Proofs.YtckcbfnffmohgaaGreat
open Go
set_option linter.unusedVariables false
namespace DF
open PD (g adj Ed adj_symm)

theorem adj_take {l : List Ed} {i u v : Nat} (h : adj (l.take i) u v) : adj l u v := h.imp List.mem_of_mem_take List.mem_of_mem_take
/-- No edge closes those ahead of it. -/
def Wood (l : List Ed) : Prop := ∀ (i u v : Nat), l[i]? = some ((u : Int), (v : Int)) → ¬ Cn (adj (l.take i)) u v
/-- A ring: the first edge that closes those ahead, and the shortest way by them. -/
def RingOf (n : Nat) (l : List Ed) (p : List Nat) : Prop := ∃ (i u v : Nat) (d : List Int), l[i]? = some ((u : Int), (v : Int)) ∧ u < n ∧ v < n ∧ PD.IsDist n (l.take i) v d ∧ 0 ≤ g d u ∧ PD.Way n (l.take i) d u p
end DF
end Go.Proofs.YtckcbfnffmohgaaGreat
