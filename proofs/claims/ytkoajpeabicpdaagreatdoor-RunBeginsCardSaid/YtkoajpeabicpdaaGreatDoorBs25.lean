/-
How arguments that came in are read: a slice whose elements are structs, field by field. No conditions.
-/
import Derived.Test.YtkoajpeabicpdaaGreatDoorRows
import Derived.ProofKit
import Derived.Deep.Slices
import Derived.Below
set_option linter.unusedVariables false
namespace Go.Proofs.YtkoajpeabicpdaaGreatDoor
open Go Go.RowKit Go.ChangeShapes Go.WideShapes
section
variable {H:Type} {enc:TypeId × Value→H} {P:Program} {w:World} {spare:Nat→Bool} {held:Bool}
end
end Go.Proofs.YtkoajpeabicpdaaGreatDoor
