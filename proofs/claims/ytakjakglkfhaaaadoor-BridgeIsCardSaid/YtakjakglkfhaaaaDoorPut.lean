/-
  An edge put where it belongs in a rising list, in plain Lean. No program in sight.
-/
import Derived.Test.YtakjakglkfhaaaaDoorBk1
namespace Go.Proofs.YtakjakglkfhaaaaDoor
open Go
set_option linter.unusedVariables false

/-- It comes first. -/
def ltE (x y : AK.Ed) : Prop := x.1 < y.1 ∨ (x.1 = y.1 ∧ x.2 < y.2)
instance (x y : AK.Ed) : Decidable (ltE x y) := by unfold ltE; infer_instance
def putE (e : AK.Ed) : List AK.Ed → List AK.Ed
  | [] => [e]
  | x :: r => if ltE e x then e :: x :: r else x :: putE e r
theorem putE_mem {e y : AK.Ed} : ∀ {l : List AK.Ed}, y ∈ putE e l ↔ y = e ∨ y ∈ l
  | [] => by simp [putE]
  | x :: r => by
    unfold putE
    split
    · simp
    · rw [List.mem_cons, putE_mem (l := r), List.mem_cons]
      constructor
      · rintro (h | h | h)
        · exact .inr (.inl h)
        · exact .inl h
        · exact .inr (.inr h)
      · rintro (h | h | h)
        · exact .inr (.inl h)
        · exact .inl h
        · exact .inr (.inr h)
theorem putE_length (e : AK.Ed) : ∀ l : List AK.Ed, (putE e l).length = l.length + 1
  | [] => rfl
  | x :: r => by
    unfold putE
    split
    · simp
    · rw [List.length_cons, putE_length e r, List.length_cons]
theorem ltE_trans {x y z : AK.Ed} (h : ltE x y) (k : ltE y z) : ltE x z := by unfold ltE at *; omega
theorem putE_rises {e : AK.Ed} : ∀ {l : List AK.Ed}, l.Pairwise ltE → e ∉ l → (putE e l).Pairwise ltE
  | [], _, _ => by simp [putE]
  | x :: r, h, hn => by
    rw [List.pairwise_cons] at h
    unfold putE
    split
    · rename_i hlt
      rw [List.pairwise_cons]
      refine ⟨fun y hy => ?_, by rw [List.pairwise_cons]; exact h⟩
      rcases List.mem_cons.1 hy with hy | hy
      · subst hy; exact hlt
      · exact ltE_trans hlt (h.1 y hy)
    · rename_i hlt
      rw [List.pairwise_cons]
      refine ⟨fun y hy => ?_, putE_rises h.2 (fun w => hn (List.mem_cons_of_mem _ w))⟩
      rcases putE_mem.1 hy with hy | hy
      · subst hy
        have : y ≠ x := fun w => hn (w ▸ List.mem_cons_self ..)
        obtain ⟨a, b⟩ := x
        obtain ⟨c, d⟩ := y
        unfold ltE at *
        simp only [ne_eq, Prod.mk.injEq] at *
        omega
      · exact h.1 y hy
/-- Edges that may be, as the code's test says it. -/
theorem efGo_none {c : Nat → Int} : ∀ {f i : Nat}, (∀ j, i ≤ j → j < i + f → c j = 0) → (efGo c f i).2 = 0
  | 0, i, h => rfl
  | f + 1, i, h => by
    rw [efGo_ok (h i (Nat.le_refl _) (by omega))]
    exact efGo_none fun j h1 h2 => h j (by omega) (by omega)
theorem edgF_iff {n : Int} {l : List AK.Ed} : (edgF n l).2 = 0 ↔ 1 ≤ n ∧ n ≤ 60 ∧ l.length ≤ 200 ∧ (∀ x ∈ l, 0 ≤ x.1 ∧ x.1 < x.2 ∧ x.2 < n) ∧ l.Pairwise ltE := by
  unfold edgF
  by_cases h1 : n < 1 ∨ 60 < n
  · rw [if_pos h1]; simp; omega
  rw [if_neg h1]
  by_cases h2 : 200 < l.length
  · rw [if_pos h2]; simp; omega
  rw [if_neg h2]
  have key : (efGo (eCode n l) l.length 0).2 = 0 ↔ ∀ j, j < l.length → eCode n l j = 0 := by
    constructor
    · intro h j hj
      generalize hc : eCode n l = c at *
      have : ∀ (f i : Nat), (efGo c f i).2 = 0 → ∀ j, i ≤ j → j < i + f → c j = 0 := by
        intro f
        induction f with
        | zero => intro i _ j h1 h2; omega
        | succ f ih =>
          intro i h j h1 h2
          by_cases e : c i = 0
          · rw [efGo_ok e] at h
            by_cases q : j = i
            · subst q; exact e
            · exact ih (i + 1) h j (by omega) (by omega)
          · rw [efGo_bad rfl e] at h
            exact absurd h e
      exact this l.length 0 h j (Nat.zero_le _) (by omega)
    · intro h; exact efGo_none fun j _ h2 => h j (by omega)
  rw [key]
  constructor
  · intro h
    have h3 : ∀ x ∈ l, 0 ≤ x.1 ∧ x.1 < x.2 ∧ x.2 < n := fun x hx => by
      obtain ⟨i, hi, rfl⟩ := List.getElem_of_mem hx
      have hx' : l[i]? = some l[i] := List.getElem?_eq_getElem hi
      have := h i hi
      apply Classical.byContradiction
      intro w
      rw [eCode_bad hx' (by omega)] at this
      exact absurd this (by decide)
    refine ⟨by omega, by omega, by omega, h3, ?_⟩
    rw [List.pairwise_iff_getElem]
    have step : ∀ j (hj : j + 1 < l.length), ltE (l[j]'(by omega)) l[j + 1] := fun j hj => by
      have hx : l[j + 1]? = some l[j + 1] := List.getElem?_eq_getElem hj
      have hy : l[j]? = some (l[j]'(by omega)) := List.getElem?_eq_getElem (by omega)
      have hok := h3 l[j + 1] (List.getElem_mem hj)
      have := h (j + 1) hj
      apply Classical.byContradiction
      intro w
      rw [eCode_2 hx hy (by omega) (by unfold ltE at w; omega)] at this
      exact absurd this (by decide)
    intro i j hi hj hij
    obtain ⟨d, rfl⟩ : ∃ d, j = i + 1 + d := ⟨j - (i + 1), by omega⟩
    induction d with
    | zero => exact step i hj
    | succ d ih => exact ltE_trans (ih (by omega) (by omega)) (step (i + 1 + d) (by omega))
  · rintro ⟨_, _, _, h3, h4⟩ j hj
    rw [List.pairwise_iff_getElem] at h4
    have hx : l[j]? = some l[j] := List.getElem?_eq_getElem hj
    have hok := h3 l[j] (List.getElem_mem hj)
    cases j with
    | zero => exact eCode_0 hx (by omega)
    | succ j =>
      have hy : l[j]? = some (l[j]'(by omega)) := List.getElem?_eq_getElem (by omega)
      have := h4 j (j + 1) (by omega) hj (by omega)
      exact eCode_ok hx hy (by omega) (by unfold ltE at this; omega)
/-- Rising rows with the same members are one. -/
theorem rises_ext {l m : List AK.Ed} (hl : l.Pairwise ltE) (hm : m.Pairwise ltE) (h : ∀ x, x ∈ l ↔ x ∈ m) : l = m := by
  induction l generalizing m with
  | nil =>
    cases m with
    | nil => rfl
    | cons y m => exact absurd ((h y).2 (List.mem_cons_self ..)) (List.not_mem_nil)
  | cons x l ih =>
    cases m with
    | nil => exact absurd ((h x).1 (List.mem_cons_self ..)) (List.not_mem_nil)
    | cons y m =>
      rw [List.pairwise_cons] at hl hm
      have irr : ∀ z : AK.Ed, ¬ ltE z z := fun z w => by unfold ltE at w; omega
      have e : x = y := by
        rcases List.mem_cons.1 ((h x).1 (List.mem_cons_self ..)) with w | w
        · exact w
        · rcases List.mem_cons.1 ((h y).2 (List.mem_cons_self ..)) with z | z
          · exact z.symm
          · exact absurd (ltE_trans (hl.1 y z) (hm.1 x w)) (irr x)
      subst e
      congr 1
      refine ih hl.2 hm.2 fun z => ⟨fun w => ?_, fun w => ?_⟩
      · rcases List.mem_cons.1 ((h z).1 (List.mem_cons_of_mem _ w)) with q | q
        · subst q; exact absurd (hl.1 z w) (irr z)
        · exact q
      · rcases List.mem_cons.1 ((h z).2 (List.mem_cons_of_mem _ w)) with q | q
        · subst q; exact absurd (hm.1 z w) (irr z)
        · exact q
end Go.Proofs.YtakjakglkfhaaaaDoor
