/-
  Answers to all that is asked, in plain Lean: halves of the time, edges that are there all along, unions. No program in sight.
  What comes later changes no answer; one who asks more changes no other answer; in plain Lean. No program in sight.
  Plain: events one behind the other on a list of edges, beside what is answered at once. No program here; no conditions.
-/
import Derived.Test.YthgniehfejklhaaGreatBs3
import Derived.Test.YthgniehfejklhaaGreatBs5
namespace Go.Proofs.YthgniehfejklhaaGreat
set_option linter.unusedVariables false
namespace AK
open UF
def cov (low high : Nat) (x : Lf) : Bool := decide (x.fr ≤ low) && decide (high ≤ x.til)
def cut (low high : Nat) (x : Lf) : Bool := !cov low high x && (decide (x.fr < high) && decide (low < x.til))
def pr (x : Lf) : Nat × Nat := (x.ed.1.toNat, x.ed.2.toNat)
def joinTo (low high : Nat) (hs : Hs) (xs : List Lf) : Hs := xs.foldl (fun hs x => if cov low high x then join hs (pr x).1 (pr x).2 else hs) hs
def rest (low high : Nat) (xs : List Lf) : List Lf := xs.filter (cut low high)
def alive (xs : List Lf) (t : Nat) : List (Nat × Nat) := (xs.filter fun x => decide (x.fr ≤ t) && decide (t < x.til)).map pr
def joinAll (es : List (Nat × Nat)) : Hs := es.foldl (fun hs p => join hs p.1 p.2) []
def ansAt (l : List Ev) (t : Nat) : Bool := rt (joinAll (alive (lives l) t)) (l.getD t default).a.toNat == rt (joinAll (alive (lives l) t)) (l.getD t default).b.toNat
/-- What is asked from a place on, d events long. -/
def asked (l : List Ev) (low : Nat) : Nat → List Bool
  | 0 => []
  | d + 1 => asked l low d ++ (if (l.getD (low + d) default).w = 3 then [ansAt l (low + d)] else [])
def answers (l : List Ev) : List Bool := asked l 0 l.length
theorem asked_add (l : List Ev) (low a : Nat) : ∀ b, asked l low (a + b) = asked l low a ++ asked l (low + a) b
  | 0 => by simp [asked]
  | b + 1 => by rw [← Nat.add_assoc, asked, asked_add l low a b, asked, List.append_assoc, Nat.add_assoc]
theorem asked_len (l : List Ev) (low : Nat) : ∀ d, (asked l low d).length ≤ d
  | 0 => by simp [asked]
  | d + 1 => by
    have := asked_len l low d
    rw [asked, List.length_append]
    split <;> simp <;> omega
theorem tells_all : ∀ (es fs : List (Nat × Nat)) (hs : Hs), Tells hs fs → Tells (es.foldl (fun hs p => join hs p.1 p.2) hs) (fs ++ es)
  | [], fs, hs, h => by simpa using h
  | p :: es, fs, hs, h => by
    have := tells_all es (fs ++ [(p.1, p.2)]) (join hs p.1 p.2) (tells_join h p.1 p.2)
    simpa using this
theorem tells_joinAll (es : List (Nat × Nat)) : Tells (joinAll es) es := by have := tells_all es [] [] tells_nil; rwa [List.nil_append] at this
theorem joinTo_snoc (low high : Nat) (hs : Hs) (xs : List Lf) (x : Lf) : joinTo low high hs (xs ++ [x]) = if cov low high x then join (joinTo low high hs xs) (pr x).1 (pr x).2 else joinTo low high hs xs := by
  simp [joinTo, List.foldl_append]
theorem rest_snoc (low high : Nat) (xs : List Lf) (x : Lf) : rest low high (xs ++ [x]) = if cut low high x then rest low high xs ++ [x] else rest low high xs := by
  unfold rest; rw [List.filter_append]; by_cases h : cut low high x = true <;> simp [h]
theorem tells_joinTo (low high : Nat) : ∀ (xs : List Lf) (hs : Hs) (es : List (Nat × Nat)), Tells hs es → Tells (joinTo low high hs xs) (es ++ (xs.filter (cov low high)).map pr)
  | [], hs, es, h => by simpa [joinTo] using h
  | x :: xs, hs, es, h => by
    unfold joinTo
    rw [List.foldl_cons]
    by_cases c : cov low high x = true
    · rw [if_pos c]
      have := tells_joinTo low high xs _ _ (tells_join h (pr x).1 (pr x).2)
      unfold joinTo at this
      simpa [List.filter_cons, c] using this
    · rw [if_neg c]
      have := tells_joinTo low high xs hs es h
      unfold joinTo at this
      simpa [List.filter_cons, c] using this
theorem join_pre (hs : Hs) (x y : Nat) : ∃ p, join hs x y = p ++ hs := by
  unfold join
  split
  · exact ⟨[], rfl⟩
  · split
    · exact ⟨[_], rfl⟩
    · exact ⟨[_], rfl⟩
theorem joinTo_pre (low high : Nat) : ∀ (xs : List Lf) (hs : Hs), ∃ p, joinTo low high hs xs = p ++ hs
  | [], hs => ⟨[], rfl⟩
  | x :: xs, hs => by
    unfold joinTo
    rw [List.foldl_cons]
    split
    · obtain ⟨p, hp⟩ := join_pre hs (pr x).1 (pr x).2
      obtain ⟨q, hq⟩ := joinTo_pre low high xs (join hs (pr x).1 (pr x).2)
      unfold joinTo at hq
      exact ⟨q ++ p, by rw [hq, hp, List.append_assoc]⟩
    · obtain ⟨q, hq⟩ := joinTo_pre low high xs hs
      unfold joinTo at hq
      exact ⟨q, hq⟩
theorem joinTo_back (low high : Nat) (xs : List Lf) (hs : Hs) : (joinTo low high hs xs).drop ((joinTo low high hs xs).length - hs.length) = hs ∧ hs.length ≤ (joinTo low high hs xs).length := by
  obtain ⟨p, hp⟩ := joinTo_pre low high xs hs
  rw [hp]; simp
/-- All that is known of a time: the edges joined so far, and those at hand. -/
def Fits (l : List Ev) (es : List (Nat × Nat)) (xs : List Lf) (low high : Nat) : Prop := ∀ t, low ≤ t → t < high → ∀ p q, Con (es ++ alive xs t) p q ↔ Con (alive (lives l) t) p q
theorem Fits.start (l : List Ev) : Fits l [] (lives l) 0 l.length := fun t _ _ p q => by simp
theorem Con.congr {es fs : List (Nat × Nat)} (h : ∀ x, x ∈ es ↔ x ∈ fs) {p q : Nat} : Con es p q ↔ Con fs p q :=
  ⟨fun c => c.mono fun x y hm => .edge ((h _).1 hm), fun c => c.mono fun x y hm => .edge ((h _).2 hm)⟩
theorem mem_alive {xs : List Lf} {t : Nat} {p : Nat × Nat} : p ∈ alive xs t ↔ ∃ x ∈ xs, x.fr ≤ t ∧ t < x.til ∧ pr x = p := by
  unfold alive
  simp only [List.mem_map, List.mem_filter, Bool.and_eq_true, decide_eq_true_eq]
  constructor
  · rintro ⟨x, ⟨h1, h2, h3⟩, h4⟩; exact ⟨x, h1, h2, h3, h4⟩
  · rintro ⟨x, h1, h2, h3, h4⟩; exact ⟨x, ⟨h1, h2, h3⟩, h4⟩
theorem Fits.sub {l : List Ev} {es : List (Nat × Nat)} {xs : List Lf} {low high a b : Nat} (h : Fits l es xs low high) (h1 : low ≤ a) (h2 : b ≤ high) : Fits l (es ++ (xs.filter (cov low high)).map pr) (rest low high xs) a b := by
  intro t ha hb p q
  rw [← h t (by omega) (by omega)]
  apply Con.congr
  intro e
  simp only [List.mem_append, mem_alive, List.mem_map, List.mem_filter]
  constructor
  · rintro ((h3 | ⟨x, ⟨h3, h4⟩, h5⟩) | ⟨x, h3, h4, h5, h6⟩)
    · exact .inl h3
    · simp only [cov, Bool.and_eq_true, decide_eq_true_eq] at h4
      exact .inr ⟨x, h3, by omega, by omega, h5⟩
    · exact .inr ⟨x, (List.mem_filter.1 h3).1, h4, h5, h6⟩
  · rintro (h3 | ⟨x, h3, h4, h5, h6⟩)
    · exact .inl (.inl h3)
    · by_cases c : cov low high x = true
      · exact .inl (.inr ⟨x, ⟨h3, c⟩, h6⟩)
      · refine .inr ⟨x, List.mem_filter.2 ⟨h3, ?_⟩, h4, h5, h6⟩
        have c' : cov low high x = false := by simpa using c
        simp only [cut, c', Bool.not_false, Bool.true_and, Bool.and_eq_true, decide_eq_true_eq]
        omega
theorem Fits.leaf {l : List Ev} {es : List (Nat × Nat)} {xs : List Lf} {low : Nat} {hs : Hs} (h : Fits l es xs low (low + 1)) (ht : Tells hs es) : (rt (joinTo low (low + 1) hs xs) (l.getD low default).a.toNat == rt (joinTo low (low + 1) hs xs) (l.getD low default).b.toNat) = ansAt l low := by
  rw [Bool.eq_iff_iff, beq_iff_eq]
  unfold ansAt
  rw [beq_iff_eq, tells_joinTo low (low + 1) xs hs es ht, tells_joinAll, ← h low (Nat.le_refl _) (by omega)]
  apply Con.congr
  intro e
  simp only [List.mem_append, mem_alive, List.mem_map, List.mem_filter, cov, Bool.and_eq_true, decide_eq_true_eq]
  constructor
  · rintro (h3 | ⟨x, ⟨h3, h4, h5⟩, h6⟩)
    · exact .inl h3
    · exact .inr ⟨x, h3, h4, by omega, h6⟩
  · rintro (h3 | ⟨x, h3, h4, h5, h6⟩)
    · exact .inl h3
    · exact .inr ⟨x, ⟨h3, h4, by omega⟩, h6⟩
theorem joinTo_ok {n low high : Nat} : ∀ {xs : List Lf} {hs : Hs}, Ok n hs → (∀ x ∈ xs, (pr x).1 < n ∧ (pr x).2 < n) → Ok n (joinTo low high hs xs)
  | [], hs, h, _ => h
  | x :: xs, hs, h, hx => by
    unfold joinTo
    rw [List.foldl_cons]
    split
    · exact joinTo_ok (join_ok h (hx x (by simp)).1 (hx x (by simp)).2) (fun y hy => hx y (by simp [hy]))
    · exact joinTo_ok h (fun y hy => hx y (by simp [hy]))
end AK
end Go.Proofs.YthgniehfejklhaaGreat
namespace Go.Proofs.YthgniehfejklhaaGreat
set_option linter.unusedVariables false
namespace AK
open UF
theorem alive_there {n : Int} {l : List Ev} (h : Good n l) {t : Nat} (ht : t < l.length) (p : Nat × Nat) : p ∈ alive (lives l) t ↔ ∃ x : Ed, there (l.take (t + 1)) x = true ∧ (x.1.toNat, x.2.toNat) = p := by
  rw [mem_alive]
  have hw := (lives_ok h).was (t + 1)
  constructor
  · rintro ⟨x, h1, h2, h3, h4⟩
    exact ⟨x.ed, (hw x.ed (by omega)).2 ⟨x, h1, rfl, by omega, by omega⟩, h4⟩
  · rintro ⟨x, h1, h2⟩
    obtain ⟨y, h3, h4, h5, h6⟩ := (hw x (by omega)).1 h1
    exact ⟨y, h3, by omega, by omega, by subst h4; exact h2⟩
theorem ans_congr {n : Int} {l m : List Ev} (hl : Good n l) (hm : Good n m) {t s : Nat} (ht : t < l.length) (hs : s < m.length) (hth : there (l.take (t + 1)) = there (m.take (s + 1))) (he : l.getD t default = m.getD s default) : ansAt l t = ansAt m s := by
  unfold ansAt
  rw [he, Bool.eq_iff_iff, beq_iff_eq, beq_iff_eq, tells_joinAll, tells_joinAll]
  apply Con.congr
  intro p
  rw [alive_there hl ht, alive_there hm hs, hth]
theorem asked_congr {l m : List Ev} {a b : Nat} : ∀ {d : Nat}, (∀ i, i < d → l.getD (a + i) default = m.getD (b + i) default ∧ ansAt l (a + i) = ansAt m (b + i)) → asked l a d = asked m b d
  | 0, _ => rfl
  | d + 1, h => by
    rw [asked, asked, asked_congr (fun i hi => h i (by omega)), (h d (by omega)).1, (h d (by omega)).2]
theorem asked_take {n : Int} {l : List Ev} (h : Good n l) (k : Nat) (hk : k ≤ l.length) : answers (l.take k) = asked l 0 k := by
  unfold answers
  rw [List.length_take, Nat.min_eq_left hk]
  apply asked_congr
  intro i hi
  have e1 : (l.take k).getD (0 + i) default = l.getD (0 + i) default := by
    rw [List.getD_eq_getElem?_getD, List.getD_eq_getElem?_getD, List.getElem?_take, if_pos (by omega)]
  refine ⟨e1, ans_congr (h.take k) h (by rw [List.length_take]; omega) (by omega) ?_ e1⟩
  rw [List.take_take, Nat.min_eq_left (by omega)]
theorem answers_split (l : List Ev) (k : Nat) (hk : k ≤ l.length) : answers l = asked l 0 k ++ asked l k (l.length - k) := by
  unfold answers
  have := asked_add l 0 k (l.length - k)
  rw [show k + (l.length - k) = l.length by omega, Nat.zero_add] at this
  exact this
/-- One who asks more, at place k. -/
def more (l : List Ev) (k : Nat) (a b : Int) : List Ev := l.take k ++ ⟨3, a, b⟩ :: l.drop k
section
variable {l : List Ev} {k : Nat} {a b : Int}
theorem more_len (hk : k ≤ l.length) : (more l k a b).length = l.length + 1 := by simp [more]; omega
theorem more_take {t : Nat} (ht : t ≤ k) (hk : k ≤ l.length) : (more l k a b).take t = l.take t := by
  unfold more
  rw [List.take_append_of_le_length (by rw [List.length_take]; omega), List.take_take, Nat.min_eq_left ht]
theorem more_there {t : Nat} (ht : k ≤ t) (hk : k ≤ l.length) : there ((more l k a b).take (t + 1)) = there (l.take t) := by
  unfold more
  rw [List.take_append, List.take_of_length_le (l := l.take k) (by rw [List.length_take]; omega), List.length_take, Nat.min_eq_left hk, show t + 1 - k = (t - k) + 1 by omega, List.take_succ_cons]
  have e : l.take t = l.take k ++ (l.drop k).take (t - k) := by
    rw [← List.take_add]; congr 1; omega
  rw [e]
  unfold there
  rw [List.foldl_append, List.foldl_append, List.foldl_cons]
  rfl
theorem more_get {t : Nat} (ht : t < k) (hk : k ≤ l.length) : (more l k a b)[t]? = l[t]? := by
  unfold more
  rw [List.getElem?_append_left (by rw [List.length_take]; omega), List.getElem?_take, if_pos ht]
theorem more_at (hk : k ≤ l.length) : (more l k a b)[k]? = some ⟨3, a, b⟩ := by
  unfold more
  rw [List.getElem?_append_right (by rw [List.length_take]; omega), List.length_take, Nat.min_eq_left hk, Nat.sub_self]; rfl
theorem more_after {t : Nat} (ht : k ≤ t) (hk : k ≤ l.length) : (more l k a b)[t + 1]? = l[t]? := by
  unfold more
  rw [List.getElem?_append_right (by rw [List.length_take]; omega), List.length_take, Nat.min_eq_left hk, show t + 1 - k = (t - k) + 1 by omega, List.getElem?_cons_succ, List.getElem?_drop]
  congr 1; omega
theorem more_good {n : Int} (h : Good n l) (hk : k ≤ l.length) (hl : l.length < 120) (ha : 0 ≤ a ∧ a < n) (hb : 0 ≤ b ∧ b < n) : Good n (more l k a b) := by
  refine ⟨h.1, h.2.1, by rw [more_len hk]; omega, fun t e he => ?_⟩
  rcases Nat.lt_trichotomy t k with ht | ht | ht
  · rw [more_get ht hk] at he
    rw [more_take (by omega) hk]
    exact h.2.2.2 t e he
  · subst ht
    rw [more_at hk] at he
    injection he with he
    subst he
    exact bad_ask (by omega) (by omega) ha.1 ha.2 hb.1 hb.2 rfl
  · obtain ⟨s, rfl⟩ : ∃ s, t = s + 1 := ⟨t - 1, by omega⟩
    rw [more_after (by omega) hk] at he
    rw [more_there (by omega) hk]
    exact h.2.2.2 s e he
theorem more_answers {n : Int} (h : Good n l) (hk : k ≤ l.length) (hl : l.length < 120) (ha : 0 ≤ a ∧ a < n) (hb : 0 ≤ b ∧ b < n) : ∃ x, answers (more l k a b) = asked l 0 k ++ x :: asked l k (l.length - k) := by
  have hg := more_good h hk hl ha hb
  have hlen := more_len (a := a) (b := b) hk
  refine ⟨ansAt (more l k a b) k, ?_⟩
  rw [answers_split (more l k a b) (k + 1) (by omega), hlen]
  rw [show k + 1 = k + 1 from rfl, asked_add (more l k a b) 0 k 1, Nat.zero_add]
  have e1 : asked (more l k a b) 0 k = asked l 0 k := asked_congr fun i hi => by
    have e : (more l k a b).getD (0 + i) default = l.getD (0 + i) default := by rw [List.getD_eq_getElem?_getD, List.getD_eq_getElem?_getD, more_get (by omega) hk]
    exact ⟨e, ans_congr hg h (by omega) (by omega) (by rw [more_take (by omega) hk]) e⟩
  have e2 : asked (more l k a b) k 1 = [ansAt (more l k a b) k] := by
    rw [asked, asked, Nat.add_zero, List.getD_eq_getElem?_getD, more_at hk]; rfl
  have e3 : asked (more l k a b) (k + 1) (l.length + 1 - (k + 1)) = asked l k (l.length - k) := by
    rw [show l.length + 1 - (k + 1) = l.length - k by omega]
    refine asked_congr fun i hi => ?_
    have e : (more l k a b).getD (k + 1 + i) default = l.getD (k + i) default := by
      rw [List.getD_eq_getElem?_getD, List.getD_eq_getElem?_getD, show k + 1 + i = (k + i) + 1 by omega, more_after (by omega) hk]
    exact ⟨e, ans_congr hg h (by omega) (by omega) (by rw [show k + 1 + i + 1 = (k + i + 1) + 1 by omega, more_there (by omega) hk]) e⟩
  rw [e1, e2, e3]
  simp
end
theorem fact_good : Good 2 [⟨3, 1, 1⟩] := by
  refine ⟨by omega, by omega, by simp, fun k e he => ?_⟩
  match k, he with
  | 0, he => simp at he; subst he; exact bad_ask (by omega) (by omega) (by omega) (by omega) (by omega) (by omega) rfl
theorem fact_answers : answers [⟨3, 1, 1⟩] = [true] := by
  rw [answers, List.length_singleton, asked, asked]
  simp [ansAt]
end AK
end Go.Proofs.YthgniehfejklhaaGreat
namespace Go.Proofs.YthgniehfejklhaaGreat
set_option linter.unusedVariables false
namespace AG
open AK UF DF PD TR
/-- The edges that are there behind the first i events. -/
structure AgS (l : List Ev) (i : Nat) (A : List AK.Ed) : Prop where
  th : ∀ x, there (l.take i) x = true ↔ x ∈ A
  len : A.length ≤ i
section
variable {n i : Nat} {l : List Ev} {A : List AK.Ed} {e : Ev}
theorem AgS.start (l : List Ev) : AgS l 0 [] := ⟨fun x => by simp [there], Nat.le_refl _⟩
/-- What an event that may be is. -/
theorem good_at (hg : Good n l) (he : l[i]? = some e) : 1 ≤ e.w ∧ e.w ≤ 3 ∧ 0 ≤ e.a ∧ e.a < n ∧ 0 ≤ e.b ∧ e.b < n ∧ (e.w ≠ 3 → e.a ≠ e.b) ∧ (e.w = 1 → there (l.take i) (ek e.a e.b) = false) ∧ (e.w = 2 → there (l.take i) (ek e.a e.b) = true) := by
  have h := hg.2.2.2 i e he
  unfold bad at h
  split at h
  · cases h
  · rename_i q
    have q' : 1 ≤ e.w ∧ e.w ≤ 3 ∧ 0 ≤ e.a ∧ e.a < n ∧ 0 ≤ e.b ∧ e.b < n := by omega
    split at h
    · rename_i q2
      exact ⟨q'.1, q'.2.1, q'.2.2.1, q'.2.2.2.1, q'.2.2.2.2.1, q'.2.2.2.2.2, fun w => absurd q2 w, fun w => by omega, fun w => by omega⟩
    · split at h
      · cases h
      · rename_i q3
        split at h
        · cases h
        · rename_i q4
          split at h
          · cases h
          · rename_i q5
            refine ⟨q'.1, q'.2.1, q'.2.2.1, q'.2.2.2.1, q'.2.2.2.2.1, q'.2.2.2.2.2, fun _ => q3, fun w => ?_, fun w => ?_⟩
            · cases ht : there (l.take i) (ek e.a e.b) with
              | false => rfl
              | true => exact absurd ⟨w, ht⟩ q4
            · cases ht : there (l.take i) (ek e.a e.b) with
              | true => rfl
              | false => exact absurd ⟨w, ht⟩ q5
theorem AgS.add (h : AgS l i A) (he : l[i]? = some e) (hw : e.w = 1) (hn : ek e.a e.b ∉ A) : AgS l (i + 1) (putE (ek e.a e.b) A) := by
  refine ⟨fun x => ?_, by rw [putE_length]; have := h.len; omega⟩
  rw [there_flip he (by omega), AK.flip, putE_mem]
  by_cases q : x = e.ed
  · rw [if_pos q]
    have : there (l.take i) x = false := by
      cases ht : there (l.take i) x with
      | false => rfl
      | true => exact absurd ((h.th x).1 ht) (by rw [q]; exact hn)
    rw [← q, this]
    exact ⟨fun _ => .inl q, fun _ => rfl⟩
  · rw [if_neg q, h.th]
    exact ⟨.inr, fun w => w.resolve_left q⟩
theorem AgS.drop (h : AgS l i A) (he : l[i]? = some e) (hw : e.w = 2) (hm : ek e.a e.b ∈ A) : AgS l (i + 1) (cutE (ek e.a e.b) A) := by
  refine ⟨fun x => ?_, Nat.le_trans (List.length_filter_le _ _) (by have := h.len; omega)⟩
  rw [there_flip he (by omega), AK.flip, cutE_mem]
  by_cases q : x = e.ed
  · rw [if_pos q]
    have : there (l.take i) x = true := (h.th x).2 (by rw [q]; exact hm)
    rw [← q, this]
    exact ⟨fun w => (by cases w), fun w => absurd q w.2⟩
  · rw [if_neg q, h.th]
    exact ⟨fun w => ⟨w, q⟩, fun w => w.1⟩
theorem AgS.ask (h : AgS l i A) (he : l[i]? = some e) (hw : e.w = 3) : AgS l (i + 1) A := by
  refine ⟨fun x => ?_, by have := h.len; omega⟩
  rw [take_next he, there_snoc, nxt, if_pos hw]
  exact h.th x
theorem AgS.ans (h : AgS l i A) (hg : Good n l) (hok : ∀ x ∈ A, 0 ≤ x.1 ∧ x.1 < x.2 ∧ x.2 < (n : Int)) (he : l[i]? = some e) (hw : e.w = 3) {a b : Nat} (ha : e.a = a) (hb : e.b = b) : ansAt l i = true ↔ Cn (adj A) a b := by
  have hlt := (List.getElem?_eq_some_iff.1 he).1
  have hd : l.getD i default = e := by rw [List.getD_eq_getElem?_getD, he]; rfl
  unfold ansAt
  rw [beq_iff_eq, tells_joinAll, hd, ha, hb]
  have h2 := h.ask he hw
  refine con_iff (fun x y => ?_) _ _
  have key : ∀ x y : Nat, ((x : Int), (y : Int)) ∈ A ↔ (x, y) ∈ alive (lives l) i := fun x y => by
    rw [alive_there hg hlt]
    constructor
    · intro q; exact ⟨_, (h2.th _).2 q, by simp⟩
    · rintro ⟨z, z1, z2⟩
      have z3 := (h2.th _).1 z1
      have := hok z z3
      have e1 := congrArg Prod.fst z2
      have e2 := congrArg Prod.snd z2
      simp only at e1 e2
      have : z = ((x : Int), (y : Int)) := Prod.ext (by simp only; omega) (by simp only; omega)
      rwa [← this]
  unfold adj
  rw [key, key]
theorem asked_ask (he : l[i]? = some e) (hw : e.w = 3) : asked l 0 (i + 1) = asked l 0 i ++ [ansAt l i] := by
  have hd : l.getD i default = e := by rw [List.getD_eq_getElem?_getD, he]; rfl
  rw [asked, Nat.zero_add, hd, if_pos hw]
theorem asked_no (he : l[i]? = some e) (hw : e.w ≠ 3) : asked l 0 (i + 1) = asked l 0 i := by
  have hd : l.getD i default = e := by rw [List.getD_eq_getElem?_getD, he]; rfl
  rw [asked, Nat.zero_add, hd, if_neg hw, List.append_nil]
theorem asked_at (he : l[i]? = some e) (hw : e.w = 3) : (answers l)[(asked l 0 i).length]? = some (ansAt l i) := by
  have hlt := (List.getElem?_eq_some_iff.1 he).1
  have e1 : answers l = asked l 0 (i + 1) ++ asked l (0 + (i + 1)) (l.length - (i + 1)) := by
    unfold answers
    rw [← asked_add]
    congr 1
    omega
  rw [e1, asked_ask he hw, List.append_assoc, List.getElem?_append_right (Nat.le_refl _)]
  simp
theorem asked_le (hi : i ≤ l.length) : (asked l 0 i).length ≤ (answers l).length := by
  have e1 : answers l = asked l 0 i ++ asked l (0 + i) (l.length - i) := by
    unfold answers
    rw [← asked_add]
    congr 1
    omega
  rw [e1, List.length_append]; omega
end
def factE : List Ev := [⟨1, 0, 1⟩, ⟨3, 1, 0⟩, ⟨2, 1, 0⟩, ⟨3, 0, 1⟩]
theorem factE_good : Good 3 factE := good_iff.1 (by decide +kernel)
theorem factE_answers : answers factE = [true, false] := by decide +kernel
end AG
end Go.Proofs.YthgniehfejklhaaGreat
