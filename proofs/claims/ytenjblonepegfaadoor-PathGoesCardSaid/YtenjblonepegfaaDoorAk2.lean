/-
  Answers to all that is asked, in plain Lean: halves of the time, edges that are there all along, unions. No program in sight.
-/
import Derived.Test.YtenjblonepegfaaDoorAk
namespace Go.Proofs.YtenjblonepegfaaDoor
set_option linter.unusedVariables false
namespace AK
open UF
def cov (low high : Nat) (x : Lf) : Bool := decide (x.fr ≤ low) && decide (high ≤ x.til)
def cut (low high : Nat) (x : Lf) : Bool := !cov low high x && (decide (x.fr < high) && decide (low < x.til))
def pr (x : Lf) : Nat × Nat := (x.ed.1.toNat, x.ed.2.toNat)
def joinTo (low high : Nat) (hs : Hs) (xs : List Lf) : Hs := xs.foldl (fun hs x => if cov low high x then join hs (pr x).1 (pr x).2 else hs) hs
def rest (low high : Nat) (xs : List Lf) : List Lf := xs.filter (cut low high)
def alive (xs : List Lf) (t : Nat) : List (Nat × Nat) := (xs.filter fun x => decide (x.fr ≤ t) && decide (t < x.til)).map pr
def joinAll (es : List (Nat × Nat)) : Hs := es.foldl (fun hs p => join hs p.1 p.2) []
def ansAt (l : List Ev) (t : Nat) : Bool := rt (joinAll (alive (lives l) t)) (l.getD t default).a.toNat == rt (joinAll (alive (lives l) t)) (l.getD t default).b.toNat
/-- What is asked from a place on, d events long. -/
def asked (l : List Ev) (low : Nat) : Nat → List Bool
  | 0 => []
  | d + 1 => asked l low d ++ (if (l.getD (low + d) default).w = 3 then [ansAt l (low + d)] else [])
def answers (l : List Ev) : List Bool := asked l 0 l.length
theorem asked_add (l : List Ev) (low a : Nat) : ∀ b, asked l low (a + b) = asked l low a ++ asked l (low + a) b
  | 0 => by simp [asked]
  | b + 1 => by rw [← Nat.add_assoc, asked, asked_add l low a b, asked, List.append_assoc, Nat.add_assoc]
theorem asked_len (l : List Ev) (low : Nat) : ∀ d, (asked l low d).length ≤ d
  | 0 => by simp [asked]
  | d + 1 => by
    have := asked_len l low d
    rw [asked, List.length_append]
    split <;> simp <;> omega
theorem tells_all : ∀ (es fs : List (Nat × Nat)) (hs : Hs), Tells hs fs → Tells (es.foldl (fun hs p => join hs p.1 p.2) hs) (fs ++ es)
  | [], fs, hs, h => by simpa using h
  | p :: es, fs, hs, h => by
    have := tells_all es (fs ++ [(p.1, p.2)]) (join hs p.1 p.2) (tells_join h p.1 p.2)
    simpa using this
theorem tells_joinAll (es : List (Nat × Nat)) : Tells (joinAll es) es := by have := tells_all es [] [] tells_nil; rwa [List.nil_append] at this
theorem joinTo_snoc (low high : Nat) (hs : Hs) (xs : List Lf) (x : Lf) : joinTo low high hs (xs ++ [x]) = if cov low high x then join (joinTo low high hs xs) (pr x).1 (pr x).2 else joinTo low high hs xs := by
  simp [joinTo, List.foldl_append]
theorem rest_snoc (low high : Nat) (xs : List Lf) (x : Lf) : rest low high (xs ++ [x]) = if cut low high x then rest low high xs ++ [x] else rest low high xs := by
  unfold rest; rw [List.filter_append]; by_cases h : cut low high x = true <;> simp [h]
theorem tells_joinTo (low high : Nat) : ∀ (xs : List Lf) (hs : Hs) (es : List (Nat × Nat)), Tells hs es → Tells (joinTo low high hs xs) (es ++ (xs.filter (cov low high)).map pr)
  | [], hs, es, h => by simpa [joinTo] using h
  | x :: xs, hs, es, h => by
    unfold joinTo
    rw [List.foldl_cons]
    by_cases c : cov low high x = true
    · rw [if_pos c]
      have := tells_joinTo low high xs _ _ (tells_join h (pr x).1 (pr x).2)
      unfold joinTo at this
      simpa [List.filter_cons, c] using this
    · rw [if_neg c]
      have := tells_joinTo low high xs hs es h
      unfold joinTo at this
      simpa [List.filter_cons, c] using this
theorem join_pre (hs : Hs) (x y : Nat) : ∃ p, join hs x y = p ++ hs := by
  unfold join
  split
  · exact ⟨[], rfl⟩
  · split
    · exact ⟨[_], rfl⟩
    · exact ⟨[_], rfl⟩
theorem joinTo_pre (low high : Nat) : ∀ (xs : List Lf) (hs : Hs), ∃ p, joinTo low high hs xs = p ++ hs
  | [], hs => ⟨[], rfl⟩
  | x :: xs, hs => by
    unfold joinTo
    rw [List.foldl_cons]
    split
    · obtain ⟨p, hp⟩ := join_pre hs (pr x).1 (pr x).2
      obtain ⟨q, hq⟩ := joinTo_pre low high xs (join hs (pr x).1 (pr x).2)
      unfold joinTo at hq
      exact ⟨q ++ p, by rw [hq, hp, List.append_assoc]⟩
    · obtain ⟨q, hq⟩ := joinTo_pre low high xs hs
      unfold joinTo at hq
      exact ⟨q, hq⟩
theorem joinTo_back (low high : Nat) (xs : List Lf) (hs : Hs) : (joinTo low high hs xs).drop ((joinTo low high hs xs).length - hs.length) = hs ∧ hs.length ≤ (joinTo low high hs xs).length := by
  obtain ⟨p, hp⟩ := joinTo_pre low high xs hs
  rw [hp]; simp
/-- All that is known of a time: the edges joined so far, and those at hand. -/
def Fits (l : List Ev) (es : List (Nat × Nat)) (xs : List Lf) (low high : Nat) : Prop := ∀ t, low ≤ t → t < high → ∀ p q, Con (es ++ alive xs t) p q ↔ Con (alive (lives l) t) p q
theorem Fits.start (l : List Ev) : Fits l [] (lives l) 0 l.length := fun t _ _ p q => by simp
theorem Con.congr {es fs : List (Nat × Nat)} (h : ∀ x, x ∈ es ↔ x ∈ fs) {p q : Nat} : Con es p q ↔ Con fs p q :=
  ⟨fun c => c.mono fun x y hm => .edge ((h _).1 hm), fun c => c.mono fun x y hm => .edge ((h _).2 hm)⟩
theorem mem_alive {xs : List Lf} {t : Nat} {p : Nat × Nat} : p ∈ alive xs t ↔ ∃ x ∈ xs, x.fr ≤ t ∧ t < x.til ∧ pr x = p := by
  unfold alive
  simp only [List.mem_map, List.mem_filter, Bool.and_eq_true, decide_eq_true_eq]
  constructor
  · rintro ⟨x, ⟨h1, h2, h3⟩, h4⟩; exact ⟨x, h1, h2, h3, h4⟩
  · rintro ⟨x, h1, h2, h3, h4⟩; exact ⟨x, ⟨h1, h2, h3⟩, h4⟩
theorem Fits.sub {l : List Ev} {es : List (Nat × Nat)} {xs : List Lf} {low high a b : Nat} (h : Fits l es xs low high) (h1 : low ≤ a) (h2 : b ≤ high) : Fits l (es ++ (xs.filter (cov low high)).map pr) (rest low high xs) a b := by
  intro t ha hb p q
  rw [← h t (by omega) (by omega)]
  apply Con.congr
  intro e
  simp only [List.mem_append, mem_alive, List.mem_map, List.mem_filter]
  constructor
  · rintro ((h3 | ⟨x, ⟨h3, h4⟩, h5⟩) | ⟨x, h3, h4, h5, h6⟩)
    · exact .inl h3
    · simp only [cov, Bool.and_eq_true, decide_eq_true_eq] at h4
      exact .inr ⟨x, h3, by omega, by omega, h5⟩
    · exact .inr ⟨x, (List.mem_filter.1 h3).1, h4, h5, h6⟩
  · rintro (h3 | ⟨x, h3, h4, h5, h6⟩)
    · exact .inl (.inl h3)
    · by_cases c : cov low high x = true
      · exact .inl (.inr ⟨x, ⟨h3, c⟩, h6⟩)
      · refine .inr ⟨x, List.mem_filter.2 ⟨h3, ?_⟩, h4, h5, h6⟩
        have c' : cov low high x = false := by simpa using c
        simp only [cut, c', Bool.not_false, Bool.true_and, Bool.and_eq_true, decide_eq_true_eq]
        omega
theorem Fits.leaf {l : List Ev} {es : List (Nat × Nat)} {xs : List Lf} {low : Nat} {hs : Hs} (h : Fits l es xs low (low + 1)) (ht : Tells hs es) : (rt (joinTo low (low + 1) hs xs) (l.getD low default).a.toNat == rt (joinTo low (low + 1) hs xs) (l.getD low default).b.toNat) = ansAt l low := by
  rw [Bool.eq_iff_iff, beq_iff_eq]
  unfold ansAt
  rw [beq_iff_eq, tells_joinTo low (low + 1) xs hs es ht, tells_joinAll, ← h low (Nat.le_refl _) (by omega)]
  apply Con.congr
  intro e
  simp only [List.mem_append, mem_alive, List.mem_map, List.mem_filter, cov, Bool.and_eq_true, decide_eq_true_eq]
  constructor
  · rintro (h3 | ⟨x, ⟨h3, h4, h5⟩, h6⟩)
    · exact .inl h3
    · exact .inr ⟨x, h3, h4, by omega, h6⟩
  · rintro (h3 | ⟨x, h3, h4, h5, h6⟩)
    · exact .inl h3
    · exact .inr ⟨x, ⟨h3, h4, by omega⟩, h6⟩
theorem joinTo_ok {n low high : Nat} : ∀ {xs : List Lf} {hs : Hs}, Ok n hs → (∀ x ∈ xs, (pr x).1 < n ∧ (pr x).2 < n) → Ok n (joinTo low high hs xs)
  | [], hs, h, _ => h
  | x :: xs, hs, h, hx => by
    unfold joinTo
    rw [List.foldl_cons]
    split
    · exact joinTo_ok (join_ok h (hx x (by simp)).1 (hx x (by simp)).2) (fun y hy => hx y (by simp [hy]))
    · exact joinTo_ok h (fun y hy => hx y (by simp [hy]))
end AK
end Go.Proofs.YtenjblonepegfaaDoor
