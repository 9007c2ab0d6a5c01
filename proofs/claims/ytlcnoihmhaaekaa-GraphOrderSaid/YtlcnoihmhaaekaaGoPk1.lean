/-
  Plain: edges added the other way round beside others that are dropped again. No program here; no conditions.
-/
import Derived.Test.YtlcnoihmhaaekaaBs15
namespace Go.Proofs.Ytlcnoihmhaaekaa
set_option linter.unusedVariables false
namespace GO
open AK UF DF PD TR
/-- Edges that were added, none of them in A. -/
structure Mo (n : Nat) (A : List AK.Ed) (i : Nat) (X B : List AK.Ed) : Prop where
  mem : ∀ x, x ∈ B ↔ x ∈ X
  nd : X.Nodup
  away : ∀ x ∈ X, x ∉ A
  ok : ∀ x ∈ X, 0 ≤ x.1 ∧ x.1 < x.2 ∧ x.2 < (n : Int)
  len : X.length ≤ i
/-- Those, and A from the i-th on. -/
def Ba (A X : List AK.Ed) (i : Nat) (B : List AK.Ed) : Prop := ∀ x, x ∈ B ↔ x ∈ X ∨ x ∈ A.drop i
/-- A, and those from the i-th on. -/
def Dr (A X : List AK.Ed) (i : Nat) (B : List AK.Ed) : Prop := ∀ x, x ∈ B ↔ x ∈ A ∨ x ∈ X.drop i
section
variable {n i : Nat} {A B X : List AK.Ed} {x : AK.Ed}
theorem Mo.start (n : Nat) (A : List AK.Ed) : Mo n A 0 [] [] := ⟨fun _ => Iff.rfl, .nil, by simp, by simp, Nat.le_refl _⟩
theorem Mo.stay (h : Mo n A i X B) : Mo n A (i + 1) X B := ⟨h.mem, h.nd, h.away, h.ok, Nat.le_trans h.len (Nat.le_succ _)⟩
theorem Mo.mono (h : Mo n A i X B) {j : Nat} (hij : i ≤ j) : Mo n A j X B := ⟨h.mem, h.nd, h.away, h.ok, Nat.le_trans h.len hij⟩
theorem Mo.add (h : Mo n A i X B) (hA : x ∉ A) (hB : x ∉ B) (hx : 0 ≤ x.1 ∧ x.1 < x.2 ∧ x.2 < (n : Int)) : Mo n A (i + 1) (X ++ [x]) (putE x B) := by
  refine ⟨fun y => ?_, ?_, ?_, ?_, by rw [List.length_append]; have := h.len; simp; omega⟩
  · rw [putE_mem, h.mem, List.mem_append, List.mem_singleton]
    exact Or.comm
  · rw [List.nodup_append]
    refine ⟨h.nd, by simp, fun y hy z hz e => ?_⟩
    rw [List.mem_singleton] at hz
    exact hB ((h.mem x).2 (by rw [← hz, ← e]; exact hy))
  · intro y hy
    rcases List.mem_append.1 hy with hy | hy
    · exact h.away y hy
    · rw [List.mem_singleton] at hy; subst hy; exact hA
  · intro y hy
    rcases List.mem_append.1 hy with hy | hy
    · exact h.ok y hy
    · rw [List.mem_singleton] at hy; subst hy; exact hx
theorem Ba.start (h : Mo n A i X B) : Ba A X A.length B := fun y => by rw [h.mem, List.drop_length]; simp
theorem drop_at (hi : A[i]? = some x) : A.drop i = x :: A.drop (i + 1) := by
  obtain ⟨h1, h2⟩ := List.getElem?_eq_some_iff.1 hi
  rw [List.drop_eq_getElem_cons h1, h2]
theorem Ba.add (h : Ba A X (i + 1) B) (hi : A[i]? = some x) : Ba A X i (putE x B) := fun y => by
  rw [putE_mem, h, drop_at hi, List.mem_cons]
  constructor
  · rintro (q | q | q)
    · exact .inr (.inl q)
    · exact .inl q
    · exact .inr (.inr q)
  · rintro (q | q | q)
    · exact .inr (.inl q)
    · exact .inl q
    · exact .inr (.inr q)
theorem Ba.new (h : Ba A X (i + 1) B) {j : Nat} {C : List AK.Ed} (hm : Mo n A j X C) (hA : A.Pairwise ltE) (hi : A[i]? = some x) : x ∉ B := by
  intro q
  rcases (h x).1 q with q | q
  · exact hm.away x q (List.mem_of_getElem? hi)
  · have h1 : (A.drop i).Nodup := (List.drop_sublist i A).nodup (rises_nodup hA)
    rw [drop_at hi, List.nodup_cons] at h1
    exact h1.1 q
theorem Ba.len (h : Ba A X i B) (hB : B.Pairwise ltE) : B.length ≤ X.length + A.length := by
  have := nodup_le (ys := X ++ A) (rises_nodup hB) fun y hy => List.mem_append.2 (((h y).1 hy).imp_right List.mem_of_mem_drop)
  rwa [List.length_append] at this
theorem Dr.start (h : Ba A X 0 B) : Dr A X 0 B := fun y => by rw [h]; simp only [List.drop_zero]; exact Or.comm
theorem Dr.at_ (h : Dr A X i B) (hi : X[i]? = some x) : x ∈ B := (h x).2 (.inr (by rw [drop_at hi]; exact List.mem_cons_self))
theorem Dr.drop {j : Nat} {C : List AK.Ed} (h : Dr A X i B) (hm : Mo n A j X C) (hi : X[i]? = some x) : Dr A X (i + 1) (cutE x B) := fun y => by
  have h1 : (X.drop i).Nodup := (List.drop_sublist i X).nodup hm.nd
  rw [drop_at hi, List.nodup_cons] at h1
  rw [cutE_mem, h, drop_at hi, List.mem_cons]
  constructor
  · rintro ⟨q | q | q, k⟩
    · exact .inl q
    · exact absurd q k
    · exact .inr q
  · rintro (q | q)
    · exact ⟨.inl q, fun e => hm.away x (List.mem_of_getElem? hi) (e ▸ q)⟩
    · exact ⟨.inr (.inr q), fun e => h1.1 (e ▸ q)⟩
theorem Dr.len (h : Dr A X i B) (hB : B.Pairwise ltE) : B.length ≤ A.length + X.length := by
  have := nodup_le (ys := A ++ X) (rises_nodup hB) fun y hy => List.mem_append.2 (((h y).1 hy).imp_right List.mem_of_mem_drop)
  rwa [List.length_append] at this
theorem Dr.end_ (h : Dr A X X.length B) (hA : A.Pairwise ltE) (hB : B.Pairwise ltE) : B = A := rises_ext hB hA fun y => by
  rw [h, List.drop_length]; simp
end
end GO
end Go.Proofs.Ytlcnoihmhaaekaa
