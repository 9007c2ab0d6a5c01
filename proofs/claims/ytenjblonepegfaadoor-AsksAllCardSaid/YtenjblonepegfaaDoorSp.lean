/-
  How long each edge is there, in plain Lean: from where it is added to where it is dropped next. No program in sight.
-/
import Derived.Test.YtenjblonepegfaaDoorTk
namespace Go.Proofs.YtenjblonepegfaaDoor
set_option linter.unusedVariables false
namespace AK
def isDrop (l : List Ev) (j : Nat) (x : Ed) : Prop := ∃ e, l[j]? = some e ∧ e.w = 2 ∧ e.ed = x
def IsEnd (l : List Ev) (i m : Nat) : Prop := ∃ e, l[i]? = some e ∧ i < m ∧ m ≤ l.length ∧ (∀ j, i < j → j < m → ¬ isDrop l j e.ed) ∧ (m < l.length → isDrop l m e.ed)
theorem IsEnd.uniq {l : List Ev} {i m m' : Nat} (h : IsEnd l i m) (h' : IsEnd l i m') : m = m' := by
  obtain ⟨e, he, h1, h2, h3, h4⟩ := h
  obtain ⟨e', he', h1', h2', h3', h4'⟩ := h'
  rw [he] at he'; injection he' with he'; subst he'
  rcases Nat.lt_trichotomy m m' with q | q | q
  · exact absurd (h4 (by omega)) (h3' m h1 q)
  · exact q
  · exact absurd (h4' (by omega)) (h3 m' h1' q)
def adds (l : List Ev) : Nat → List Nat
  | 0 => []
  | k + 1 => adds l k ++ (if (l.getD k default).w = 1 then [k] else [])
theorem adds_yes {l : List Ev} {k : Nat} {e : Ev} (he : l[k]? = some e) (hw : e.w = 1) : adds l (k + 1) = adds l k ++ [k] := by
  rw [adds, List.getD_eq_getElem?_getD, he, Option.getD_some, if_pos hw]
theorem adds_no {l : List Ev} {k : Nat} {e : Ev} (he : l[k]? = some e) (hw : e.w ≠ 1) : adds l (k + 1) = adds l k := by
  rw [adds, List.getD_eq_getElem?_getD, he, Option.getD_some, if_neg hw, List.append_nil]
def IsSpans (l : List Ev) (k : Nat) (L : List (Nat × Nat)) : Prop := L.map Prod.fst = adds l k ∧ ∀ p ∈ L, IsEnd l p.1 p.2
theorem spans_uniq {l : List Ev} : ∀ {L L' : List (Nat × Nat)}, L.map Prod.fst = L'.map Prod.fst → (∀ p ∈ L, IsEnd l p.1 p.2) → (∀ p ∈ L', IsEnd l p.1 p.2) → L = L'
  | [], [], _, _, _ => rfl
  | [], _ :: _, h, _, _ => by simp at h
  | _ :: _, [], h, _, _ => by simp at h
  | (a, b) :: L, (a', b') :: L', h, h1, h2 => by
    simp only [List.map_cons, List.cons.injEq] at h
    obtain ⟨rfl, h⟩ := h
    have := (h1 (a, b) (by simp)).uniq (h2 (a, b') (by simp))
    simp only at this
    rw [this, spans_uniq h (fun p hp => h1 p (by simp [hp])) (fun p hp => h2 p (by simp [hp]))]
theorem IsSpans.uniq {l : List Ev} {k : Nat} {L L' : List (Nat × Nat)} (h : IsSpans l k L) (h' : IsSpans l k L') : L = L' := spans_uniq (h.1.trans h'.1.symm) h.2 h'.2
theorem IsSpans.zero (l : List Ev) : IsSpans l 0 [] := ⟨rfl, by simp⟩
theorem IsSpans.skip {l : List Ev} {k : Nat} {L : List (Nat × Nat)} {e : Ev} (h : IsSpans l k L) (he : l[k]? = some e) (hw : e.w ≠ 1) : IsSpans l (k + 1) L := ⟨by rw [adds_no he hw]; exact h.1, h.2⟩
theorem IsSpans.more {l : List Ev} {k m : Nat} {L : List (Nat × Nat)} {e : Ev} (h : IsSpans l k L) (he : l[k]? = some e) (hw : e.w = 1) (hm : IsEnd l k m) : IsSpans l (k + 1) (L ++ [(k, m)]) := by
  refine ⟨by rw [adds_yes he hw, List.map_append, h.1]; rfl, fun p hp => ?_⟩
  rcases List.mem_append.1 hp with hp | hp
  · exact h.2 p hp
  · simp at hp; subst hp; exact hm
/-- What holds of the lives found so far, their ends. -/
structure SpOk (l : List Ev) (k : Nat) (s : LS) : Prop where
  fst : s.out.map Lf.fr = adds l k
  each : ∀ (j : Nat) (y : Lf), s.out[j]? = some y → ∃ e, l[y.fr]? = some e ∧ e.ed = y.ed ∧ y.fr < k ∧
    ((y.til = l.length ∧ ∀ i, y.fr < i → i < k → ¬ isDrop l i y.ed) ∨ (y.til < k ∧ y.fr < y.til ∧ isDrop l y.til y.ed ∧ ∀ i, y.fr < i → i < y.til → ¬ isDrop l i y.ed))
theorem SpOk.stay {l : List Ev} {k : Nat} {e : Ev} {y : Lf} (he : l[k]? = some e) (hn : e.w = 2 → e.ed ≠ y.ed)
    (h : ∃ e, l[y.fr]? = some e ∧ e.ed = y.ed ∧ y.fr < k ∧ ((y.til = l.length ∧ ∀ i, y.fr < i → i < k → ¬ isDrop l i y.ed) ∨ (y.til < k ∧ y.fr < y.til ∧ isDrop l y.til y.ed ∧ ∀ i, y.fr < i → i < y.til → ¬ isDrop l i y.ed))) :
    ∃ e, l[y.fr]? = some e ∧ e.ed = y.ed ∧ y.fr < k + 1 ∧ ((y.til = l.length ∧ ∀ i, y.fr < i → i < k + 1 → ¬ isDrop l i y.ed) ∨ (y.til < k + 1 ∧ y.fr < y.til ∧ isDrop l y.til y.ed ∧ ∀ i, y.fr < i → i < y.til → ¬ isDrop l i y.ed)) := by
  obtain ⟨e', h1, h2, h3, h4⟩ := h
  refine ⟨e', h1, h2, by omega, ?_⟩
  rcases h4 with ⟨h4, h5⟩ | ⟨h4, h5⟩
  · refine .inl ⟨h4, fun i hi hk => ?_⟩
    by_cases hik : i = k
    · subst hik
      rintro ⟨e2, g1, g2, g3⟩
      rw [he] at g1; injection g1 with g1; subst g1
      exact hn g2 g3
    · exact h5 i hi (by omega)
  · exact .inr ⟨by omega, h5⟩
theorem spans_to {n : Int} {l : List Ev} (h : Good n l) : ∀ k, k ≤ l.length → SpOk l k (livesTo l k)
  | 0, _ => ⟨by simp [livesTo, adds], by simp [livesTo]⟩
  | k + 1, hk => by
    have ih := spans_to h k (by omega)
    have hL := lives_to h k (by omega)
    have he : l[k]? = some (l.getD k default) := by rw [List.getD_eq_getElem?_getD, List.getElem?_eq_getElem (by omega)]; rfl
    have hb := bad_inv (h.2.2.2 k _ he)
    rw [livesTo]
    generalize l.getD k default = e at he hb ⊢
    obtain ⟨b1, b2, _, _, _, _, _, b8⟩ := hb
    generalize livesTo l k = s at ih hL ⊢
    by_cases hw1 : e.w = 1
    · unfold lstep; rw [if_pos hw1]
      refine ⟨by rw [adds_yes he hw1, List.map_append, ih.fst]; rfl, fun j y hj => ?_⟩
      rw [List.getElem?_append] at hj
      split at hj
      · exact SpOk.stay he (fun hw => by omega) (ih.each j y hj)
      · rename_i hlt
        have hj0 : j - s.out.length = 0 := by
          have := (List.getElem?_eq_some_iff.1 hj).1; simp at this; omega
        rw [hj0] at hj; simp at hj; subst hj
        exact ⟨e, he, rfl, by show k < k + 1; omega, .inl ⟨rfl, fun i hi hk => by simp only at hi; omega⟩⟩
    by_cases hw2 : e.w = 2
    · unfold lstep; rw [if_neg hw1, if_pos hw2]
      obtain ⟨y0, hy0, hy1, hy2⟩ := hL.opn e.ed (b8 hw2)
      refine ⟨?_, fun j y hj => ?_⟩
      · rw [adds_no he hw1, ← ih.fst]
        apply List.ext_getElem?
        intro i
        rw [List.getElem?_map, List.getElem?_map, List.getElem?_modify]
        cases s.out[i]? with
        | none => rfl
        | some z => simp only [Option.map_some]; split <;> rfl
      · rw [List.getElem?_modify] at hj
        cases hz : s.out[j]? with
        | none => rw [hz] at hj; simp at hj
        | some z =>
          rw [hz] at hj
          simp only [Option.map_eq_map, Option.map_some, Option.some.injEq] at hj
          by_cases hjo : s.o e.ed = j
          · rw [if_pos hjo] at hj
            subst hjo
            rw [hy0] at hz; injection hz with hz; subst hz
            obtain ⟨e', h1, h2, h3, h4⟩ := ih.each _ _ hy0
            have h5 : ∀ i, y0.fr < i → i < k → ¬ isDrop l i y0.ed := by
              rcases h4 with ⟨_, h5⟩ | ⟨h4, _⟩
              · exact h5
              · omega
            subst hj
            exact ⟨e', h1, h2, by show y0.fr < k + 1; omega, .inr ⟨by show k < k + 1; omega, h3, ⟨e, he, hw2, hy1.symm⟩, h5⟩⟩
          · rw [if_neg hjo] at hj
            subst hj
            have hq := ih.each j z hz
            by_cases hzd : z.ed = e.ed
            · -- another life of this edge: it has ended
              obtain ⟨e', h1, h2, h3, h4⟩ := hq
              rcases h4 with ⟨h4, _⟩ | ⟨h4, h5⟩
              · exact absurd (hzd ▸ (hL.only j z hz h4).2) hjo
              · exact ⟨e', h1, h2, by omega, .inr ⟨by omega, h5⟩⟩
            · exact SpOk.stay he (fun _ => fun hx => hzd hx.symm) hq
    · unfold lstep; rw [if_neg hw1, if_neg hw2]
      exact ⟨by rw [adds_no he hw1]; exact ih.fst, fun j y hj => SpOk.stay he (fun hw => absurd hw hw2) (ih.each j y hj)⟩
def lfSpans (l : List Ev) : List (Nat × Nat) := (lives l).map fun x => (x.fr, x.til)
theorem lives_spans {n : Int} {l : List Ev} (h : Good n l) : IsSpans l l.length (lfSpans l) := by
  have hs := spans_to h l.length (Nat.le_refl _)
  refine ⟨by unfold lfSpans lives; rw [List.map_map, ← hs.fst]; rfl, fun p hp => ?_⟩
  obtain ⟨y, hy, rfl⟩ := List.mem_map.1 hp
  obtain ⟨j, hj⟩ := List.mem_iff_getElem?.1 hy
  obtain ⟨e, h1, h2, h3, h4⟩ := hs.each j y hj
  refine ⟨e, h1, ?_⟩
  rw [h2]
  rcases h4 with ⟨h4, h5⟩ | ⟨h4, h5, h6, h7⟩
  · exact ⟨by rw [h4]; exact h3, by simp only; omega, fun i hi hk => h5 i hi (by simp only at hk; omega), fun hlt => by simp only at hlt; omega⟩
  · exact ⟨h5, by simp only; omega, h7, fun _ => h6⟩
end AK
end Go.Proofs.YtenjblonepegfaaDoor
