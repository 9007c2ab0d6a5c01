/-
  An edge as a value. No conditions.
-/
import Derived.Test.YtckcbfnffmohgaaDoorRows
import Derived.Test.YtckcbfnffmohgaaDoorMem
import Derived.Test.YtckcbfnffmohgaaDoorAk
import Derived.WalkKit
import Derived.ProofKit
import Derived.WalkSpells
import Derived.Lib.Hide
import Derived.Outline
import Derived.RegionTactic
import Derived.BigRegion
import Derived.Deep.QuietTactic
import Derived.BigQuiet
import Derived.Deep.DeepFit
import Derived.Deep.DeepCutAuto
import Derived.Deep.CutBlock
import Derived.StillTailTactics
import Derived.Deep.RegionHeld3
import Derived.Laws.AppendOwnNone
import Derived.Deep.DrawnRows
import Derived.Deep.LoopGhost
import Derived.Deep.Slices
import Derived.Below
namespace Go.Proofs.YtckcbfnffmohgaaDoor
open Go Go.RowKit
set_option linter.unusedVariables false

abbrev edV (x : AK.Ed) : Value := .agg #[.int .i64 x.1, .int .i64 x.2]
theorem ed_ret {x y a b : Int} (h1 : x = min a b) (h2 : y = max a b) : Ending.returned (.agg #[.int .i64 x, .int .i64 y]) = .returned (edV (AK.ek a b)) := by subst h1; subst h2; rfl
end Go.Proofs.YtckcbfnffmohgaaDoor
