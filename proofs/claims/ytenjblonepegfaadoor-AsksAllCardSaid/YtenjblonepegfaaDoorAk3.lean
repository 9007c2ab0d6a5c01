/-
  What comes later changes no answer; one who asks more changes no other answer; in plain Lean. No program in sight.
-/
import Derived.Test.YtenjblonepegfaaDoorAk2
namespace Go.Proofs.YtenjblonepegfaaDoor
set_option linter.unusedVariables false
namespace AK
open UF
theorem alive_there {n : Int} {l : List Ev} (h : Good n l) {t : Nat} (ht : t < l.length) (p : Nat × Nat) : p ∈ alive (lives l) t ↔ ∃ x : Ed, there (l.take (t + 1)) x = true ∧ (x.1.toNat, x.2.toNat) = p := by
  rw [mem_alive]
  have hw := (lives_ok h).was (t + 1)
  constructor
  · rintro ⟨x, h1, h2, h3, h4⟩
    exact ⟨x.ed, (hw x.ed (by omega)).2 ⟨x, h1, rfl, by omega, by omega⟩, h4⟩
  · rintro ⟨x, h1, h2⟩
    obtain ⟨y, h3, h4, h5, h6⟩ := (hw x (by omega)).1 h1
    exact ⟨y, h3, by omega, by omega, by subst h4; exact h2⟩
theorem ans_congr {n : Int} {l m : List Ev} (hl : Good n l) (hm : Good n m) {t s : Nat} (ht : t < l.length) (hs : s < m.length) (hth : there (l.take (t + 1)) = there (m.take (s + 1))) (he : l.getD t default = m.getD s default) : ansAt l t = ansAt m s := by
  unfold ansAt
  rw [he, Bool.eq_iff_iff, beq_iff_eq, beq_iff_eq, tells_joinAll, tells_joinAll]
  apply Con.congr
  intro p
  rw [alive_there hl ht, alive_there hm hs, hth]
theorem asked_congr {l m : List Ev} {a b : Nat} : ∀ {d : Nat}, (∀ i, i < d → l.getD (a + i) default = m.getD (b + i) default ∧ ansAt l (a + i) = ansAt m (b + i)) → asked l a d = asked m b d
  | 0, _ => rfl
  | d + 1, h => by
    rw [asked, asked, asked_congr (fun i hi => h i (by omega)), (h d (by omega)).1, (h d (by omega)).2]
theorem asked_take {n : Int} {l : List Ev} (h : Good n l) (k : Nat) (hk : k ≤ l.length) : answers (l.take k) = asked l 0 k := by
  unfold answers
  rw [List.length_take, Nat.min_eq_left hk]
  apply asked_congr
  intro i hi
  have e1 : (l.take k).getD (0 + i) default = l.getD (0 + i) default := by
    rw [List.getD_eq_getElem?_getD, List.getD_eq_getElem?_getD, List.getElem?_take, if_pos (by omega)]
  refine ⟨e1, ans_congr (h.take k) h (by rw [List.length_take]; omega) (by omega) ?_ e1⟩
  rw [List.take_take, Nat.min_eq_left (by omega)]
theorem answers_split (l : List Ev) (k : Nat) (hk : k ≤ l.length) : answers l = asked l 0 k ++ asked l k (l.length - k) := by
  unfold answers
  have := asked_add l 0 k (l.length - k)
  rw [show k + (l.length - k) = l.length by omega, Nat.zero_add] at this
  exact this
/-- One who asks more, at place k. -/
def more (l : List Ev) (k : Nat) (a b : Int) : List Ev := l.take k ++ ⟨3, a, b⟩ :: l.drop k
section
variable {l : List Ev} {k : Nat} {a b : Int}
theorem more_len (hk : k ≤ l.length) : (more l k a b).length = l.length + 1 := by simp [more]; omega
theorem more_take {t : Nat} (ht : t ≤ k) (hk : k ≤ l.length) : (more l k a b).take t = l.take t := by
  unfold more
  rw [List.take_append_of_le_length (by rw [List.length_take]; omega), List.take_take, Nat.min_eq_left ht]
theorem more_there {t : Nat} (ht : k ≤ t) (hk : k ≤ l.length) : there ((more l k a b).take (t + 1)) = there (l.take t) := by
  unfold more
  rw [List.take_append, List.take_of_length_le (l := l.take k) (by rw [List.length_take]; omega), List.length_take, Nat.min_eq_left hk, show t + 1 - k = (t - k) + 1 by omega, List.take_succ_cons]
  have e : l.take t = l.take k ++ (l.drop k).take (t - k) := by
    rw [← List.take_add]; congr 1; omega
  rw [e]
  unfold there
  rw [List.foldl_append, List.foldl_append, List.foldl_cons]
  rfl
theorem more_get {t : Nat} (ht : t < k) (hk : k ≤ l.length) : (more l k a b)[t]? = l[t]? := by
  unfold more
  rw [List.getElem?_append_left (by rw [List.length_take]; omega), List.getElem?_take, if_pos ht]
theorem more_at (hk : k ≤ l.length) : (more l k a b)[k]? = some ⟨3, a, b⟩ := by
  unfold more
  rw [List.getElem?_append_right (by rw [List.length_take]; omega), List.length_take, Nat.min_eq_left hk, Nat.sub_self]; rfl
theorem more_after {t : Nat} (ht : k ≤ t) (hk : k ≤ l.length) : (more l k a b)[t + 1]? = l[t]? := by
  unfold more
  rw [List.getElem?_append_right (by rw [List.length_take]; omega), List.length_take, Nat.min_eq_left hk, show t + 1 - k = (t - k) + 1 by omega, List.getElem?_cons_succ, List.getElem?_drop]
  congr 1; omega
theorem more_good {n : Int} (h : Good n l) (hk : k ≤ l.length) (hl : l.length < 120) (ha : 0 ≤ a ∧ a < n) (hb : 0 ≤ b ∧ b < n) : Good n (more l k a b) := by
  refine ⟨h.1, h.2.1, by rw [more_len hk]; omega, fun t e he => ?_⟩
  rcases Nat.lt_trichotomy t k with ht | ht | ht
  · rw [more_get ht hk] at he
    rw [more_take (by omega) hk]
    exact h.2.2.2 t e he
  · subst ht
    rw [more_at hk] at he
    injection he with he
    subst he
    exact bad_ask (by omega) (by omega) ha.1 ha.2 hb.1 hb.2 rfl
  · obtain ⟨s, rfl⟩ : ∃ s, t = s + 1 := ⟨t - 1, by omega⟩
    rw [more_after (by omega) hk] at he
    rw [more_there (by omega) hk]
    exact h.2.2.2 s e he
theorem more_answers {n : Int} (h : Good n l) (hk : k ≤ l.length) (hl : l.length < 120) (ha : 0 ≤ a ∧ a < n) (hb : 0 ≤ b ∧ b < n) : ∃ x, answers (more l k a b) = asked l 0 k ++ x :: asked l k (l.length - k) := by
  have hg := more_good h hk hl ha hb
  have hlen := more_len (a := a) (b := b) hk
  refine ⟨ansAt (more l k a b) k, ?_⟩
  rw [answers_split (more l k a b) (k + 1) (by omega), hlen]
  rw [show k + 1 = k + 1 from rfl, asked_add (more l k a b) 0 k 1, Nat.zero_add]
  have e1 : asked (more l k a b) 0 k = asked l 0 k := asked_congr fun i hi => by
    have e : (more l k a b).getD (0 + i) default = l.getD (0 + i) default := by rw [List.getD_eq_getElem?_getD, List.getD_eq_getElem?_getD, more_get (by omega) hk]
    exact ⟨e, ans_congr hg h (by omega) (by omega) (by rw [more_take (by omega) hk]) e⟩
  have e2 : asked (more l k a b) k 1 = [ansAt (more l k a b) k] := by
    rw [asked, asked, Nat.add_zero, List.getD_eq_getElem?_getD, more_at hk]; rfl
  have e3 : asked (more l k a b) (k + 1) (l.length + 1 - (k + 1)) = asked l k (l.length - k) := by
    rw [show l.length + 1 - (k + 1) = l.length - k by omega]
    refine asked_congr fun i hi => ?_
    have e : (more l k a b).getD (k + 1 + i) default = l.getD (k + i) default := by
      rw [List.getD_eq_getElem?_getD, List.getD_eq_getElem?_getD, show k + 1 + i = (k + i) + 1 by omega, more_after (by omega) hk]
    exact ⟨e, ans_congr hg h (by omega) (by omega) (by rw [show k + 1 + i + 1 = (k + i + 1) + 1 by omega, more_there (by omega) hk]) e⟩
  rw [e1, e2, e3]
  simp
end
theorem fact_good : Good 2 [⟨3, 1, 1⟩] := by
  refine ⟨by omega, by omega, by simp, fun k e he => ?_⟩
  match k, he with
  | 0, he => simp at he; subst he; exact bad_ask (by omega) (by omega) (by omega) (by omega) (by omega) (by omega) rfl
theorem fact_answers : answers [⟨3, 1, 1⟩] = [true] := by
  rw [answers, List.length_singleton, asked, asked]
  simp [ansAt]
end AK
end Go.Proofs.YtenjblonepegfaaDoor
