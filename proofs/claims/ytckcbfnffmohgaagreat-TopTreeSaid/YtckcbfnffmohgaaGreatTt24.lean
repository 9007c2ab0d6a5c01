/-
  plain.Told and footbridgesame.Error over errors.As at the target '*api.Errno' (after the guide's worked text of errors.As at a concrete target): of nil and of an error of this program the number. Condition: the package variable errors.errorType holds the handle of the type 'error'.
  plain.Told and footbridgesame.Error: of nil and of an error of this program the number. Condition: the package variable errors.errorType holds the handle of the type 'error'.
-/
import Derived.Test.YtckcbfnffmohgaaGreatRows
import Derived.Test.YtckcbfnffmohgaaGreatTt1
import Derived.WalkKit
import Derived.LaidEql
import Derived.Stop.Asserts
import Derived.RowKitTokens
import Derived.Lib.Hide
import Derived.Outline
namespace Go.Proofs.YtckcbfnffmohgaaGreat
open Go Go.RowKit Go.Extern.Stop Go.Stop Go.Extern
set_option linter.unusedVariables false

namespace Td
/-! ### Closed facts on the model's entries for internal/reflectlite -/
end Td
end Go.Proofs.YtckcbfnffmohgaaGreat
namespace Go.Proofs.YtckcbfnffmohgaaGreat
open Go Go.RowKit Go.Extern.Stop Go.Stop Go.Extern
set_option linter.unusedVariables false

end Go.Proofs.YtckcbfnffmohgaaGreat
