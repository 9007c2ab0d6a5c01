/-
  Bytes of the right shape are the bytes of some pairs, in plain Lean. No program in sight.
-/
import Derived.Test.YtakjakglkfhaaaaDoorNt4
namespace Go.Proofs.YtakjakglkfhaaaaDoor
open Go
set_option linter.unusedVariables false
namespace NT
theorem encP_of : ∀ (k : Nat) (xs : List Int), xs.length = 2 * k → ∃ l : List AK.Ed, l.length = k ∧ encP l = xs ∧ ∀ x ∈ l, x.1 ∈ xs ∧ x.2 ∈ xs
  | 0, xs, h => by
    have h0 : xs = [] := List.eq_nil_of_length_eq_zero (by omega)
    subst h0
    exact ⟨[], rfl, rfl, fun x hx => by simp at hx⟩
  | k + 1, xs, h => by
    match xs, h with
    | a :: b :: r, h =>
      obtain ⟨l, h1, h2, h3⟩ := encP_of k r (by simp at h; omega)
      refine ⟨(a, b) :: l, by simp [h1], by rw [← h2]; rfl, fun x hx => ?_⟩
      rcases List.mem_cons.1 hx with rfl | hx
      · exact ⟨by simp, by simp⟩
      · have := h3 x hx; exact ⟨by simp [this.1], by simp [this.2]⟩
    | [a], h => simp at h; omega
    | [], h => simp at h
/-- Bytes: of the wrong shape, or the bytes of a number and pairs. -/
theorem bytes_shape (xs : List Int) (hb : ∀ x ∈ xs, 0 ≤ x ∧ x < 256) :
    (xs.length < 2 ∨ ∃ v, xs[1]? = some v ∧ (xs.length : Int) ≠ 2 + 2 * v) ∨
    ∃ (a : Int) (l : List AK.Ed), xs = encL a l ∧ (0 ≤ a ∧ a < 256) ∧ l.length ≤ 255 ∧ ∀ x ∈ l, 0 ≤ x.1 ∧ x.1 < 256 ∧ 0 ≤ x.2 ∧ x.2 < 256 := by
  match xs with
  | [] => exact .inl (.inl (by simp))
  | [a] => exact .inl (.inl (by simp))
  | a :: v :: r =>
    by_cases h : ((a :: v :: r : List Int).length : Int) = 2 + 2 * v
    · right
      have hv := hb v (by simp)
      obtain ⟨k, rfl⟩ : ∃ k : Nat, v = k := ⟨v.toNat, by omega⟩
      obtain ⟨l, h1, h2, h3⟩ := encP_of k r (by simp at h; omega)
      refine ⟨a, l, by rw [encL, h1, h2], hb a (by simp), by omega, fun x hx => ?_⟩
      have h4 := h3 x hx
      have h5 := hb x.1 (by simp [h4.1])
      have h6 := hb x.2 (by simp [h4.2])
      omega
    · exact .inl (.inr ⟨v, rfl, h⟩)
end NT
end Go.Proofs.YtakjakglkfhaaaaDoor
