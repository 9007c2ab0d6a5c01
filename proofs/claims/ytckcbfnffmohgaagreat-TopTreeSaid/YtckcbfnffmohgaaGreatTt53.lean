/-
  A graph through a law, its rows beside it. Conditions: the graph lies as 'GzA' says.
-/
import Derived.Test.YtckcbfnffmohgaaGreatTt38
namespace Go.Proofs.YtckcbfnffmohgaaGreat
open Go Go.RowKit SQ TR DF PD PT
set_option linter.unusedVariables false

section
variable {w wr w' : World} {g0 n B M0 M1 : Nat} {A l : List AK.Ed} {R : Option Addr}
end
end Go.Proofs.YtckcbfnffmohgaaGreat
