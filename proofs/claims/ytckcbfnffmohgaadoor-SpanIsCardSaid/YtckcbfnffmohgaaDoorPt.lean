/-
  Parts of a graph, in plain Lean: of each node the least one that it is joined with, told on along edges as long as something changes. No program in sight.
-/
import Derived.Test.YtckcbfnffmohgaaDoorUf
namespace Go.Proofs.YtckcbfnffmohgaaDoor
set_option linter.unusedVariables false
namespace PT
open UF
theorem sum_set : ∀ {p : List Nat} {b x y : Nat}, p[b]? = some y → (p.set b x).sum + y = p.sum + x
  | [], b, x, y, h => by simp at h
  | z :: r, 0, x, y, h => by simp at h; subst h; simp; omega
  | z :: r, b + 1, x, y, h => by
    have := sum_set (p := r) (x := x) (by simpa using h : r[b]? = some y)
    simp; omega
structure PInv (n : Nat) (es : List (Nat × Nat)) (p : List Nat) : Prop where
  len : p.length = n
  con : ∀ x v, p[x]? = some v → v ≤ x ∧ Con es x v
theorem PInv.start (n : Nat) (es : List (Nat × Nat)) : PInv n es (List.range n) := by
  refine ⟨by simp, fun x v h => ?_⟩
  have hx : x < n := by have := (List.getElem?_eq_some_iff.1 h).1; simpa using this
  rw [List.getElem?_range hx] at h
  injection h with h; subst h
  exact ⟨Nat.le_refl _, .refl _⟩
theorem PInv.set {n : Nat} {es : List (Nat × Nat)} {p : List Nat} {a b x y : Nat} (h : PInv n es p) (hab : (a, b) ∈ es ∨ (b, a) ∈ es) (ha : p[a]? = some x) (hb : p[b]? = some y) (hxy : x < y) : PInv n es (p.set b x) := by
  refine ⟨by simp [h.len], fun z v hz => ?_⟩
  rw [List.getElem?_set] at hz
  split at hz
  · rename_i e; subst e
    split at hz
    · injection hz with hz; subst hz
      have h1 := h.con b y hb
      refine ⟨by omega, ?_⟩
      have h2 : Con es b a := hab.elim (fun h => .symm (.edge h)) (fun h => .edge h)
      exact .trans h2 (h.con a x ha).2
    · cases hz
  · exact h.con z v hz
/-- These are the parts. -/
structure IsParts (n : Nat) (es : List (Nat × Nat)) (p : List Nat) : Prop extends PInv n es p where
  ed : ∀ x y, (x, y) ∈ es → p[x]? = p[y]?
theorem IsParts.rel {n : Nat} {es : List (Nat × Nat)} {p : List Nat} (h : IsParts n es p) {x y v u : Nat} (hx : p[x]? = some v) (hy : p[y]? = some u) : v = u ↔ Con es x y := by
  constructor
  · rintro rfl
    exact .trans (h.con x v hx).2 (.symm (h.con y v hy).2)
  · intro hc
    have := hc.ind (f := fun z => p.getD z n) (fun a b hab => by simp only [List.getD_eq_getElem?_getD, h.ed a b hab])
    simpa [List.getD_eq_getElem?_getD, hx, hy] using this
theorem IsParts.least {n : Nat} {es : List (Nat × Nat)} {p : List Nat} (h : IsParts n es p) {x v y : Nat} (hx : p[x]? = some v) (hy : y < n) (hc : Con es x y) : v ≤ y := by
  obtain ⟨u, hu⟩ : ∃ u, p[y]? = some u := ⟨_, List.getElem?_eq_getElem (by rw [h.len]; exact hy)⟩
  have := (h.rel hx hu).2 hc
  have := (h.con y u hu).1
  omega
end PT
end Go.Proofs.YtckcbfnffmohgaaDoor
