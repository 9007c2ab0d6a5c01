/-
  Walk of the references' Count. Condition: the parts lie in memory as 'IntsAt' says.
-/
import Derived.Test.YtckcbfnffmohgaaGreatTt31
import Derived.Test.YtckcbfnffmohgaaGreatTt5
import Derived.Test.YtckcbfnffmohgaaGreatTt2
namespace Go.Proofs.YtckcbfnffmohgaaGreat
open Go Go.RowKit PT
set_option linter.unusedVariables false

end Go.Proofs.YtckcbfnffmohgaaGreat
