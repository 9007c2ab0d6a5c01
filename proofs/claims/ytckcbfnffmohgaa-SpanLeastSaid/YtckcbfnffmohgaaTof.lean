/-
  Walk of tour.Of. No conditions.
-/
import Derived.Test.YtckcbfnffmohgaaEb
import Derived.WalkSpells
import Derived.Lib.Hide
import Derived.Outline
import Derived.Deep.QuietTactic
import Derived.BigQuiet
namespace Go.Proofs.Ytckcbfnffmohgaa
open Go Go.RowKit
set_option linter.unusedVariables false

set_option maxHeartbeats 400000 in
theorem of_any (w : World) (a b : Int) :
    Calls Try.prog 23 #[.int .i64 a, .int .i64 b] w fun e w' => e = .returned (edV (AK.ek a b)) ∧ Below w.heap.size w w' := by
  go_enter Try.func23, Try.ntmps23
  go_wp2
  · rename_i h
    exact bodyPost_ret (v := .agg #[.int .i64 b, .int .i64 a]) (by simp [results, Try.results23, go_sem]) rfl ⟨ed_ret (by omega) (by omega), (Below.refl _ _).alloc (Nat.le_refl _) _⟩
  · rename_i h
    exact bodyPost_ret (v := .agg #[.int .i64 a, .int .i64 b]) (by simp [results, Try.results23, go_sem]) rfl ⟨ed_ret (by omega) (by omega), (Below.refl _ _).alloc (Nat.le_refl _) _⟩
  · rename_i h
    exact bodyPost_ret (v := .agg #[.int .i64 a, .int .i64 a]) (by simp [results, Try.results23, go_sem]) rfl ⟨ed_ret (by omega) (by omega), (Below.refl _ _).alloc (Nat.le_refl _) _⟩
end Go.Proofs.Ytckcbfnffmohgaa
