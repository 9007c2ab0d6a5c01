/-
  footbridgesame.Pick. Condition: there is something to pick from.
-/
import Derived.Test.YthgniehfejklhaaGreatBs2
import Derived.WalkArith
namespace Go.Proofs.YthgniehfejklhaaGreat
open Go Go.RowKit
set_option linter.unusedVariables false

theorem w64_of {n : Int} (h : (Lit.int .i64 n).wf = true) : -9223372036854775808 ≤ n ∧ n ≤ 9223372036854775807 := by
  simpa [Lit.wf, IntKind.min, IntKind.max, IntKind.signed, IntKind.bits] using h
theorem pick_any (w : World) (c : Int) (n : Nat) (hc : -9223372036854775808 ≤ c ∧ c ≤ 9223372036854775807) (h0 : 0 < n) (hn : n ≤ 100000) : Calls Tryz.prog 26 #[.int .i64 c, .int .i64 n] w fun e w' => ∃ d : Nat, e = .returned (.int .i64 d) ∧ d < n ∧ w = w' := by
  by_cases h : c < 0
  · obtain ⟨k, rfl⟩ : ∃ k : Nat, c = -(k : Int) - 1 := ⟨(-c - 1).toNat, by omega⟩
    have hp : -(k : Int) - 1 + 1 = -(k : Int) := by omega
    have hr : (k : Int).tmod (n : Int) = ((k % n : Nat) : Int) := by rw [Int.tmod_eq_emod_of_nonneg (by omega)]; rfl
    have hnz : ¬ (n : Int) = 0 := by omega
    go_enter Tryz.func26, Tryz.ntmps26
    go_wp2
    go_ret
    exact ⟨k % n, by first | rfl | (simp only [hr]), Nat.mod_lt _ h0, rfl⟩
  · obtain ⟨k, rfl⟩ := Int.eq_ofNat_of_zero_le (show 0 ≤ c by omega)
    have hr : (k : Int).tmod (n : Int) = ((k % n : Nat) : Int) := by rw [Int.tmod_eq_emod_of_nonneg (by omega)]; rfl
    have hnz : ¬ (n : Int) = 0 := by omega
    go_enter Tryz.func26, Tryz.ntmps26
    go_wp2
    go_ret
    exact ⟨k % n, by first | rfl | (simp only [hr]), Nat.mod_lt _ h0, rfl⟩
end Go.Proofs.YthgniehfejklhaaGreat
