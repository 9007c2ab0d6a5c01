/-
  What edges and nodes without a fault are. No conditions.
-/
import Derived.Test.YtakjakglkfhaaaaDoorPc1
namespace Go.Proofs.YtakjakglkfhaaaaDoor
open Go Go.RowKit
set_option linter.unusedVariables false

theorem ckF_zero {n : Int} {l : List AK.Ed} {xs : List Int} (h : ckF n l xs = 0) : ∃ k : Nat, n = (k : Int) ∧ 0 < k ∧ k ≤ 60 ∧ Fine k l ∧ (edgF n l).2 = 0 ∧ ∀ x ∈ xs, ∃ z : Nat, x = (z : Int) ∧ z < k := by
  unfold ckF at h
  by_cases h0 : (edgF n l).2 = 0
  · rw [if_neg (by simpa using h0)] at h
    obtain ⟨h1, h2, h3, h4⟩ := fine_of h0
    obtain ⟨k, rfl⟩ := Int.eq_ofNat_of_zero_le (show 0 ≤ n by omega)
    refine ⟨k, rfl, by omega, by omega, ⟨h3, h4⟩, h0, fun x hx => ?_⟩
    by_cases hb : badN k x = true
    · rw [if_pos (List.any_eq_true.2 ⟨x, hx, hb⟩)] at h; omega
    · simp [badN] at hb
      obtain ⟨z, hz⟩ := Int.eq_ofNat_of_zero_le hb.1
      exact ⟨z, hz, by omega⟩
  · rw [if_pos (by simpa using h0)] at h; exact absurd h h0
end Go.Proofs.YtakjakglkfhaaaaDoor
