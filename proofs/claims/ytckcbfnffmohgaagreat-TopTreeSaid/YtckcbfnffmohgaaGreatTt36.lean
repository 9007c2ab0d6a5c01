/-
  Walk of the references' Do. Conditions: the edges and the events lie in memory as said.
  Walk of the references' Do. Conditions: the edges and the events lie in memory as said.
-/
import Derived.Test.YtckcbfnffmohgaaGreatTt20
import Derived.Test.YtckcbfnffmohgaaGreatTt34
import Derived.Test.YtckcbfnffmohgaaGreatTt30
import Derived.Test.YtckcbfnffmohgaaGreatTt35
import Derived.Deep.DeepCutAuto
namespace Go.Proofs.YtckcbfnffmohgaaGreat
open Go Go.RowKit SQ TR DF PD PT
set_option linter.unusedVariables false

section
variable {w wr w' W w5 : World} {n cx c4 : Nat} {A L : List AK.Ed} {Ax A4 : Option Addr} {vO : Value} {xs : List Bool}
end
end Go.Proofs.YtckcbfnffmohgaaGreat
namespace Go.Proofs.YtckcbfnffmohgaaGreat
open Go Go.RowKit SQ TR DF PD PT
set_option linter.unusedVariables false

section
variable {w wr w' W w5 : World} {n cx c q g : Nat} {A : List AK.Ed} {Ax : Option Addr} {vO : Value} {xs : List Bool} {b : Bool}
end
end Go.Proofs.YtckcbfnffmohgaaGreat
