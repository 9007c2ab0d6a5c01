/-
  An edge put where it belongs in a rising list, in plain Lean. No program in sight.
-/
import Derived.Test.YtgdbnjcnilnnmaaGreatDoorAk
namespace Go.Proofs.YtgdbnjcnilnnmaaGreatDoor
open Go
set_option linter.unusedVariables false

/-- It comes first. -/
def ltE (x y : AK.Ed) : Prop := x.1 < y.1 ∨ (x.1 = y.1 ∧ x.2 < y.2)
instance (x y : AK.Ed) : Decidable (ltE x y) := by unfold ltE; infer_instance
def putE (e : AK.Ed) : List AK.Ed → List AK.Ed
  | [] => [e]
  | x :: r => if ltE e x then e :: x :: r else x :: putE e r
theorem putE_mem {e y : AK.Ed} : ∀ {l : List AK.Ed}, y ∈ putE e l ↔ y = e ∨ y ∈ l
  | [] => by simp [putE]
  | x :: r => by
    unfold putE
    split
    · simp
    · rw [List.mem_cons, putE_mem (l := r), List.mem_cons]
      constructor
      · rintro (h | h | h)
        · exact .inr (.inl h)
        · exact .inl h
        · exact .inr (.inr h)
      · rintro (h | h | h)
        · exact .inr (.inl h)
        · exact .inl h
        · exact .inr (.inr h)
theorem putE_length (e : AK.Ed) : ∀ l : List AK.Ed, (putE e l).length = l.length + 1
  | [] => rfl
  | x :: r => by
    unfold putE
    split
    · simp
    · rw [List.length_cons, putE_length e r, List.length_cons]
theorem ltE_trans {x y z : AK.Ed} (h : ltE x y) (k : ltE y z) : ltE x z := by unfold ltE at *; omega
theorem putE_rises {e : AK.Ed} : ∀ {l : List AK.Ed}, l.Pairwise ltE → e ∉ l → (putE e l).Pairwise ltE
  | [], _, _ => by simp [putE]
  | x :: r, h, hn => by
    rw [List.pairwise_cons] at h
    unfold putE
    split
    · rename_i hlt
      rw [List.pairwise_cons]
      refine ⟨fun y hy => ?_, by rw [List.pairwise_cons]; exact h⟩
      rcases List.mem_cons.1 hy with hy | hy
      · subst hy; exact hlt
      · exact ltE_trans hlt (h.1 y hy)
    · rename_i hlt
      rw [List.pairwise_cons]
      refine ⟨fun y hy => ?_, putE_rises h.2 (fun w => hn (List.mem_cons_of_mem _ w))⟩
      rcases putE_mem.1 hy with hy | hy
      · subst hy
        have : y ≠ x := fun w => hn (w ▸ List.mem_cons_self ..)
        obtain ⟨a, b⟩ := x
        obtain ⟨c, d⟩ := y
        unfold ltE at *
        simp only [ne_eq, Prod.mk.injEq] at *
        omega
      · exact h.1 y hy
/-- Rising rows with the same members are one. -/
theorem rises_ext {l m : List AK.Ed} (hl : l.Pairwise ltE) (hm : m.Pairwise ltE) (h : ∀ x, x ∈ l ↔ x ∈ m) : l = m := by
  induction l generalizing m with
  | nil =>
    cases m with
    | nil => rfl
    | cons y m => exact absurd ((h y).2 (List.mem_cons_self ..)) (List.not_mem_nil)
  | cons x l ih =>
    cases m with
    | nil => exact absurd ((h x).1 (List.mem_cons_self ..)) (List.not_mem_nil)
    | cons y m =>
      rw [List.pairwise_cons] at hl hm
      have irr : ∀ z : AK.Ed, ¬ ltE z z := fun z w => by unfold ltE at w; omega
      have e : x = y := by
        rcases List.mem_cons.1 ((h x).1 (List.mem_cons_self ..)) with w | w
        · exact w
        · rcases List.mem_cons.1 ((h y).2 (List.mem_cons_self ..)) with z | z
          · exact z.symm
          · exact absurd (ltE_trans (hl.1 y z) (hm.1 x w)) (irr x)
      subst e
      congr 1
      refine ih hl.2 hm.2 fun z => ⟨fun w => ?_, fun w => ?_⟩
      · rcases List.mem_cons.1 ((h z).1 (List.mem_cons_of_mem _ w)) with q | q
        · subst q; exact absurd (hl.1 z w) (irr z)
        · exact q
      · rcases List.mem_cons.1 ((h z).2 (List.mem_cons_of_mem _ w)) with q | q
        · subst q; exact absurd (hm.1 z w) (irr z)
        · exact q
end Go.Proofs.YtgdbnjcnilnnmaaGreatDoor
