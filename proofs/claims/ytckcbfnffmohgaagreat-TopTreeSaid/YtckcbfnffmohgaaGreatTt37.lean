/-
  Opening []Step of package footbridgelaw2, with the bytes' capacity. No conditions.
-/
import Derived.Test.YtckcbfnffmohgaaGreatTt26
namespace Go.Proofs.YtckcbfnffmohgaaGreat
open Go Go.RowKit Go.ChangeShapes Go.WideShapes

end Go.Proofs.YtckcbfnffmohgaaGreat
