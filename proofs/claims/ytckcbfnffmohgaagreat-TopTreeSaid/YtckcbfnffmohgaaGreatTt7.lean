/-
  Walk of tour.Of. No conditions.
-/
import Derived.Test.YtckcbfnffmohgaaGreatTt4
import Derived.WalkSpells
import Derived.Lib.Hide
import Derived.Outline
import Derived.Deep.QuietTactic
import Derived.BigQuiet
namespace Go.Proofs.YtckcbfnffmohgaaGreat
open Go Go.RowKit
set_option linter.unusedVariables false

set_option maxHeartbeats 400000 in
theorem of_any (w : World) (a b : Int) :
    Calls Tryz.prog 54 #[.int .i64 a, .int .i64 b] w fun e w' => e = .returned (edV (AK.ek a b)) ∧ Below w.heap.size w w' := by
  go_enter Tryz.func54, Tryz.ntmps54
  go_wp2
  · rename_i h
    exact bodyPost_ret (v := .agg #[.int .i64 b, .int .i64 a]) (by simp [results, Tryz.results54, go_sem]) rfl ⟨ed_ret (by omega) (by omega), (Below.refl _ _).alloc (Nat.le_refl _) _⟩
  · rename_i h
    exact bodyPost_ret (v := .agg #[.int .i64 a, .int .i64 b]) (by simp [results, Tryz.results54, go_sem]) rfl ⟨ed_ret (by omega) (by omega), (Below.refl _ _).alloc (Nat.le_refl _) _⟩
  · rename_i h
    exact bodyPost_ret (v := .agg #[.int .i64 a, .int .i64 a]) (by simp [results, Tryz.results54, go_sem]) rfl ⟨ed_ret (by omega) (by omega), (Below.refl _ _).alloc (Nat.le_refl _) _⟩
end Go.Proofs.YtckcbfnffmohgaaGreat
