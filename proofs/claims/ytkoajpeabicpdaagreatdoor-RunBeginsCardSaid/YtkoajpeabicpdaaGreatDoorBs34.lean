/-
Opening []Step of package footbridgelaw2, with the bytes' capacity. No conditions.
-/
import Derived.Test.YtkoajpeabicpdaaGreatDoorBs26
set_option linter.unusedVariables false
namespace Go.Proofs.YtkoajpeabicpdaaGreatDoor
open Go Go.RowKit Go.ChangeShapes Go.WideShapes
end Go.Proofs.YtkoajpeabicpdaaGreatDoor
