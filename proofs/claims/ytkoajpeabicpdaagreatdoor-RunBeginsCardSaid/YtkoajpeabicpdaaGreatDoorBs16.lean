/-
Walk of tour.Of. No conditions.
-/
import Derived.Test.YtkoajpeabicpdaaGreatDoorBs5
import Derived.WalkSpells
import Derived.Lib.Hide
import Derived.Outline
import Derived.Deep.QuietTactic
import Derived.BigQuiet
set_option linter.unusedVariables false
set_option maxHeartbeats 8000000
namespace Go.Proofs.YtkoajpeabicpdaaGreatDoor
open Go Go.RowKit
theorem of_any (w:World) (a b:Int):
  Calls Tryz.prog 104 #[.int .i64 a,.int .i64 b] w fun e w'=>e=.returned (edV (AK.ek a b))∧Below w.heap.size w w':=by
 go_enter Tryz.func104,Tryz.ntmps104
 go_wp2
 exact bodyPost_ret (v:=.agg #[.int .i64 (min a b),.int .i64 (max a b)]) (by simp [results,Tryz.results104,go_sem]) rfl ⟨ed_ret (by omega) (by omega),(Below.refl _ _).alloc (Nat.le_refl _) _⟩
end Go.Proofs.YtkoajpeabicpdaaGreatDoor
