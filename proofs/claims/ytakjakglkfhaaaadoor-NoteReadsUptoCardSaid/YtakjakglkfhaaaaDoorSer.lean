/-
  footbridgesame.Error at whatever error of this program. Condition: errors.errorType's cell.
-/
import Derived.Test.YtakjakglkfhaaaaDoorBqs
import Derived.Test.YtakjakglkfhaaaaDoorTd2
namespace Go.Proofs.YtakjakglkfhaaaaDoor
open Go Go.RowKit
set_option linter.unusedVariables false

theorem same_err (w : World) (x e : Int) (hg : Td.Door w) (r : Bool) (hr : (x == e) = r) : Calls Tryd.prog 11 #[errOf x, .int .i64 e] w fun z w' => z = .returned (.bool r) ∧ Below w.heap.size w w' := by
  by_cases h : x = 0
  · subst h
    exact same_nil w e r hr
  · rw [errOf_n h]
    exact same_errno w x e hg r hr
end Go.Proofs.YtakjakglkfhaaaaDoor
