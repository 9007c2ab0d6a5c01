/-
  Towards TourPlays: the forest beside the reference's list; the reference's Node; parts and trees. Conditions: as each says.
-/
import Derived.Test.YtckcbfnffmohgaaGreatTt12
import Derived.Test.YtckcbfnffmohgaaGreatTt16
import Derived.Test.YtckcbfnffmohgaaGreatTt31
import Derived.Test.YtckcbfnffmohgaaGreatTt17
namespace Go.Proofs.YtckcbfnffmohgaaGreat
open Go Go.RowKit SQ TR DF PD PT
set_option linter.unusedVariables false

section
variable {w wr w' w4 : World} {F : FoP} {n N N' : Nat} {E E' L : List AK.Ed} {A A4 : Option Addr} {c c4 : Nat}
end
end Go.Proofs.YtckcbfnffmohgaaGreat
