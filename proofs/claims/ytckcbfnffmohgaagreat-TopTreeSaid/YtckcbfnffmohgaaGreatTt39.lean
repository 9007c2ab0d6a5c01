/-
  Stable sorting in plain (no program in sight): a row is a function of its places; exchange of two stretches, turning a stretch about a place, and the merge of two sorted stretches by turning (symMerge): what must hold for the whole to be sorted. The order: by weight, then by the number itself.
  Stable sorting in plain, second part: insertion (the kit's own function on arrays) at numbers that rise; stretches of a length that are sorted; a round of merges. No program in sight.
  slices.swapRangeCmpFunc and slices.rotateCmpFunc at rows of ints: two stretches exchanged; two stretches beside each other change places. Conditions: the row is its own block's (Row1, SW: the kit's words), the places lie within it.
  slices.symMergeCmpFunc at rows of ints, by span.light's closure: one into many. Under way.
  slices.symMergeCmpFunc at rows of ints, by span.light's closure: whatever the places. Printed by wip/ssgen.py. Conditions: as in Ss4.
  slices.symMergeCmpFunc at rows of ints, by span.light's closure: all of it, by induction on the stretch. Conditions: as in Ss4.
  slices.insertionSortCmpFunc at rows of ints, by span.light's closure, by the library's contract: stable where the numbers rise. Conditions: as in Ss4.
  slices.stableCmpFunc and slices.SortStableFunc at rows of ints, by span.light's closure: stable where the numbers rise. Conditions: as in Ss4.
-/
import Derived.Sort.WalkA
import Derived.Sort.LotA
import Derived.Test.YtckcbfnffmohgaaGreatProg
import Derived.Shelf.SlSortCmp.Kit1
import Derived.Sort.WalkB2
import Derived.Sort.WalkB12
import Derived.Deep.LoopGhost
import Derived.Lib.Hide
import Derived.Shelf.SlSortCmp.Insertion1
namespace Go.Proofs.YtckcbfnffmohgaaGreat.SS

/-- By weight, then by number. -/
def lx (w : Int → Int) (x y : Int) : Prop := w x < w y ∨ (w x = w y ∧ x < y)
theorem lx_irrefl (w : Int → Int) (x : Int) : ¬ lx w x x := by unfold lx; omega
theorem lx_trans {w : Int → Int} {x y z : Int} (h1 : lx w x y) (h2 : lx w y z) : lx w x z := by unfold lx at *; omega
theorem lx_asymm {w : Int → Int} {x y : Int} (h1 : lx w x y) (h2 : lx w y x) : False := lx_irrefl w x (lx_trans h1 h2)

/-- Sorted from place a to place b. -/
def So (w : Int → Int) (f : Nat → Int) (a b : Nat) : Prop := ∀ i j, a ≤ i → i < j → j < b → lx w (f i) (f j)
/-- The same members from a to b. -/
def Sm (f g : Nat → Int) (a b : Nat) : Prop := ∀ x, (∃ k, a ≤ k ∧ k < b ∧ g k = x) ↔ (∃ k, a ≤ k ∧ k < b ∧ f k = x)
/-- All that stands in the one stretch is less, as a number, than all in the other. -/
def Cr (f : Nat → Int) (a m b : Nat) : Prop := ∀ i j, a ≤ i → i < m → m ≤ j → j < b → f i < f j
/-- The same but from a to b. -/
def Of (f g : Nat → Int) (a b : Nat) : Prop := ∀ k, k < a ∨ b ≤ k → g k = f k

theorem Sm.refl (f : Nat → Int) (a b : Nat) : Sm f f a b := fun _ => Iff.rfl
theorem Sm.trans {f g h : Nat → Int} {a b : Nat} (h1 : Sm f g a b) (h2 : Sm g h a b) : Sm f h a b := fun x => (h2 x).trans (h1 x)
theorem Of.refl (f : Nat → Int) (a b : Nat) : Of f f a b := fun _ _ => rfl
theorem Of.trans {f g h : Nat → Int} {a b : Nat} (h1 : Of f g a b) (h2 : Of g h a b) : Of f h a b := fun k hk => (h2 k hk).trans (h1 k hk)
theorem Of.wide {f g : Nat → Int} {a b c d : Nat} (h : Of f g a b) (h1 : c ≤ a) (h2 : b ≤ d) : Of f g c d := fun k hk => h k (by omega)
theorem Sm.mem {f g : Nat → Int} {a b k : Nat} (h : Sm f g a b) (h1 : a ≤ k) (h2 : k < b) : ∃ j, a ≤ j ∧ j < b ∧ f j = g k := (h (g k)).1 ⟨k, h1, h2, rfl⟩
theorem Sm.mem' {f g : Nat → Int} {a b k : Nat} (h : Sm f g a b) (h1 : a ≤ k) (h2 : k < b) : ∃ j, a ≤ j ∧ j < b ∧ g j = f k := (h (f k)).2 ⟨k, h1, h2, rfl⟩
/-- A stretch inside another. -/
theorem Sm.wide {f g : Nat → Int} {a b c d : Nat} (h : Sm f g a b) (ho : Of f g a b) (h1 : c ≤ a) (h2 : b ≤ d) : Sm f g c d := fun x => by
  constructor
  · rintro ⟨k, k1, k2, rfl⟩
    by_cases q : a ≤ k ∧ k < b
    · obtain ⟨j, j1, j2, j3⟩ := h.mem q.1 q.2
      exact ⟨j, by omega, by omega, j3⟩
    · exact ⟨k, k1, k2, (ho k (by omega)).symm⟩
  · rintro ⟨k, k1, k2, rfl⟩
    by_cases q : a ≤ k ∧ k < b
    · obtain ⟨j, j1, j2, j3⟩ := h.mem' q.1 q.2
      exact ⟨j, by omega, by omega, j3⟩
    · exact ⟨k, k1, k2, ho k (by omega)⟩
theorem So.of {w : Int → Int} {f g : Nat → Int} {a b : Nat} (h : So w f a b) (he : ∀ k, a ≤ k → k < b → g k = f k) : So w g a b := fun i j h1 h2 h3 => by
  rw [he i h1 (by omega), he j (by omega) h3]; exact h i j h1 h2 h3
/-- Two sorted stretches, all of the first ahead of all of the second. -/
theorem So.join {w : Int → Int} {f : Nat → Int} {a m b : Nat} (h1 : So w f a m) (h2 : So w f m b) (h : ∀ i j, a ≤ i → i < m → m ≤ j → j < b → lx w (f i) (f j)) : So w f a b := fun i j q1 q2 q3 => by
  by_cases c : j < m
  · exact h1 i j q1 q2 c
  · by_cases d : i < m
    · exact h i j q1 d (by omega) q3
    · exact h2 i j (by omega) q2 q3

/-! ### Two stretches exchanged -/
/-- The first i places of the stretches at a and at b are exchanged. -/
def swr (f : Nat → Int) (a b i : Nat) (k : Nat) : Int := if a ≤ k ∧ k < a + i then f (k - a + b) else if b ≤ k ∧ k < b + i then f (k - b + a) else f k
theorem swr_zero (f : Nat → Int) (a b : Nat) : swr f a b 0 = f := by
  funext k; unfold swr; rw [if_neg (by omega), if_neg (by omega)]
/-- One exchange more. -/
theorem swr_step {f : Nat → Int} {a b i : Nat} (h : a + i < b) (k : Nat) : swr f a b (i + 1) k = if k = a + i then swr f a b i (b + i) else if k = b + i then swr f a b i (a + i) else swr f a b i k := by
  unfold swr
  by_cases h1 : k = a + i
  · subst h1
    rw [if_pos (by omega), if_pos rfl, if_neg (by omega), if_neg (by omega)]
    congr 1; omega
  · rw [if_neg h1]
    by_cases h2 : k = b + i
    · subst h2
      rw [if_pos rfl, if_neg (by omega), if_pos (by omega), if_neg (by omega), if_neg (by omega)]
      congr 1; omega
    · rw [if_neg h2]
      by_cases h3 : a ≤ k ∧ k < a + i
      · rw [if_pos (by omega), if_pos h3]
      · rw [if_neg (by omega), if_neg h3]
        by_cases h4 : b ≤ k ∧ k < b + i
        · rw [if_pos (by omega), if_pos h4]
        · rw [if_neg (by omega), if_neg h4]

/-! ### Turned about a place -/
/-- The stretches from a to m and from m to b change places. -/
def rot (f : Nat → Int) (a m b : Nat) (k : Nat) : Int := if k < a ∨ b ≤ k then f k else if k < a + (b - m) then f (k + m - a) else f (k - (b - m))
theorem rot_left {f : Nat → Int} {m i j : Nat} (hi : i ≤ m) (hij : j < i) : rot (swr f (m - i) m j) (m - (i - j)) m (m + j) = rot f (m - i) m (m + j) := by
  funext k
  unfold rot
  by_cases h1 : k < m - i ∨ m + j ≤ k
  · rw [if_pos (by omega), if_pos h1]
    unfold swr; rw [if_neg (by omega), if_neg (by omega)]
  · rw [if_neg h1]
    by_cases h2 : k < m - (i - j)
    · rw [if_pos (by omega), if_pos (by omega)]
      unfold swr; rw [if_pos (by omega)]
      congr 1; omega
    · rw [if_neg (by omega), if_neg (c := k < m - i + (m + j - m)) (by omega)]
      by_cases h3 : k < m - (i - j) + (m + j - m)
      · rw [if_pos h3]
        unfold swr
        rw [if_neg (by omega), if_pos (by omega)]
        congr 1; omega
      · rw [if_neg h3]
        unfold swr
        rw [if_neg (by omega), if_neg (by omega)]
theorem rot_right {f : Nat → Int} {m i j : Nat} (hi : i ≤ m) (hij : i < j) : rot (swr f (m - i) (m + j - i) i) (m - i) m (m + (j - i)) = rot f (m - i) m (m + j) := by
  funext k
  unfold rot
  by_cases h1 : k < m - i ∨ m + j ≤ k
  · rw [if_pos (by omega), if_pos h1]
    unfold swr; rw [if_neg (by omega), if_neg (by omega)]
  · rw [if_neg h1]
    by_cases h2 : m + (j - i) ≤ k
    · rw [if_pos (by omega), if_neg (by omega)]
      unfold swr
      rw [if_neg (by omega), if_pos (by omega)]
      congr 1; omega
    · rw [if_neg (by omega)]
      by_cases h3 : k < m - i + (m + (j - i) - m)
      · rw [if_pos h3, if_pos (by omega)]
        unfold swr
        rw [if_neg (by omega), if_neg (by omega)]
      · rw [if_neg h3]
        unfold swr
        rw [if_pos (by omega), if_pos (by omega)]
        congr 1; omega
theorem rot_end {f : Nat → Int} {m i : Nat} (hi : i ≤ m) : swr f (m - i) m i = rot f (m - i) m (m + i) := by
  funext k
  unfold rot swr
  by_cases h1 : k < m - i ∨ m + i ≤ k
  · rw [if_pos h1, if_neg (by omega), if_neg (by omega)]
  · rw [if_neg h1]
    by_cases h2 : k < m
    · rw [if_pos (by omega), if_pos (by omega)]
      congr 1; omega
    · rw [if_neg (by omega), if_pos (by omega), if_neg (by omega)]
      congr 1; omega
/-- Nothing to turn. -/
theorem rot_none (f : Nat → Int) {a m b : Nat} (h : a = m ∨ m = b) (ha : a ≤ m) (hb : m ≤ b) : rot f a m b = f := by
  funext k
  unfold rot
  by_cases h1 : k < a ∨ b ≤ k
  · rw [if_pos h1]
  · rw [if_neg h1]
    rcases h with rfl | rfl
    · rw [if_pos (by omega)]; congr 1; omega
    · rw [if_neg (by omega)]; congr 1; omega
theorem rot_of (f : Nat → Int) (a m b : Nat) : Of f (rot f a m b) a b := fun k hk => by unfold rot; rw [if_pos hk]
theorem rot_sm (f : Nat → Int) {a m b : Nat} (ha : a ≤ m) (hb : m ≤ b) : Sm f (rot f a m b) a b := fun x => by
  constructor
  · rintro ⟨k, k1, k2, rfl⟩
    unfold rot
    rw [if_neg (by omega)]
    by_cases h : k < a + (b - m)
    · rw [if_pos h]; exact ⟨k + m - a, by omega, by omega, rfl⟩
    · rw [if_neg h]; exact ⟨k - (b - m), by omega, by omega, rfl⟩
  · rintro ⟨k, k1, k2, rfl⟩
    by_cases h : k < m
    · refine ⟨k + (b - m), by omega, by omega, ?_⟩
      unfold rot; rw [if_neg (by omega), if_neg (by omega)]; congr 1; omega
    · refine ⟨k - m + a, by omega, by omega, ?_⟩
      unfold rot; rw [if_neg (by omega), if_pos (by omega)]; congr 1; omega
theorem rot_lo (f : Nat → Int) {a m b k : Nat} (h1 : a ≤ k) (h2 : k < a + (b - m)) (hb : m ≤ b) (ha : a ≤ m) : rot f a m b k = f (k + m - a) := by unfold rot; rw [if_neg (by omega), if_pos h2]
theorem rot_hi (f : Nat → Int) {a m b k : Nat} (h1 : a + (b - m) ≤ k) (h2 : k < b) : rot f a m b k = f (k - (b - m)) := by unfold rot; rw [if_neg (by omega), if_neg (by omega)]

/-! ### The merge -/
/-- What the search for the place of the turn has found. -/
structure Cut (w : Int → Int) (f : Nat → Int) (a m b mid st en : Nat) : Prop where
  sum : st + en = mid + m
  sa : a ≤ st
  sm : st ≤ m
  me : m ≤ en
  eb : en ≤ b
  am : a ≤ mid
  mb : mid ≤ b
  one : st < m → m < en → lx w (f (en - 1)) (f st)
  two : a < st → en < b → lx w (f (st - 1)) (f en)

/-- Behind the turn: both halves are two sorted stretches each. -/
structure Tn (w : Int → Int) (f1 : Nat → Int) (a mid b st en : Nat) : Prop where
  s1 : So w f1 a st
  s2 : So w f1 st mid
  s3 : So w f1 mid en
  s4 : So w f1 en b
  c1 : Cr f1 a st mid
  c2 : Cr f1 mid en b
  sep : ∀ i j, a ≤ i → i < mid → mid ≤ j → j < b → lx w (f1 i) (f1 j)

theorem Cut.turn {w : Int → Int} {f : Nat → Int} {a m b mid st en : Nat} (h : Cut w f a m b mid st en) (hx : So w f a m) (hy : So w f m b) (hc : Cr f a m b) : Tn w (rot f st m en) a mid b st en := by
  obtain ⟨q1, q2, q3, q4, q5, q6, q7, one, two⟩ := h
  have e1 : ∀ k, k < st → rot f st m en k = f k := fun k hk => rot_of f st m en k (.inl hk)
  have e4 : ∀ k, en ≤ k → rot f st m en k = f k := fun k hk => rot_of f st m en k (.inr hk)
  have e2 : ∀ k, st ≤ k → k < mid → rot f st m en k = f (k + m - st) := fun k h1 h2 => rot_lo f h1 (by omega) q4 q3
  have e3 : ∀ k, mid ≤ k → k < en → rot f st m en k = f (k - (en - m)) := fun k h1 h2 => rot_hi f (by omega) h2
  -- the four parts beside each other
  have x12 : ∀ i j, a ≤ i → i < st → en ≤ j → j < b → lx w (f i) (f j) := fun i j h1 h2 h3 h4 => by
    have t := two (by omega) (by omega)
    have t1 : f i = f (st - 1) ∨ lx w (f i) (f (st - 1)) := by
      by_cases e : i = st - 1
      · exact .inl (by rw [e])
      · exact .inr (hx i (st - 1) h1 (by omega) (by omega))
    have t2 : f j = f en ∨ lx w (f en) (f j) := by
      by_cases e : j = en
      · exact .inl (by rw [e])
      · exact .inr (hy en j q4 (by omega) h4)
    rcases t1 with t1 | t1 <;> rcases t2 with t2 | t2
    · rw [t1, t2]; exact t
    · rw [t1]; exact lx_trans t t2
    · rw [t2]; exact lx_trans t1 t
    · exact lx_trans t1 (lx_trans t t2)
  have y12 : ∀ i j, m ≤ i → i < en → st ≤ j → j < m → lx w (f i) (f j) := fun i j h1 h2 h3 h4 => by
    have t := one (by omega) (by omega)
    have t1 : f i = f (en - 1) ∨ lx w (f i) (f (en - 1)) := by
      by_cases e : i = en - 1
      · exact .inl (by rw [e])
      · exact .inr (hy i (en - 1) h1 (by omega) (by omega))
    have t2 : f j = f st ∨ lx w (f st) (f j) := by
      by_cases e : j = st
      · exact .inl (by rw [e])
      · exact .inr (hx st j q2 (by omega) h4)
    rcases t1 with t1 | t1 <;> rcases t2 with t2 | t2
    · rw [t1, t2]; exact t
    · rw [t1]; exact lx_trans t t2
    · rw [t2]; exact lx_trans t1 t
    · exact lx_trans t1 (lx_trans t t2)
  refine ⟨?_, ?_, ?_, ?_, ?_, ?_, ?_⟩
  · intro i j h1 h2 h3
    rw [e1 i (by omega), e1 j h3]; exact hx i j h1 h2 (by omega)
  · intro i j h1 h2 h3
    rw [e2 i h1 (by omega), e2 j (by omega) h3]; exact hy _ _ (by omega) (by omega) (by omega)
  · intro i j h1 h2 h3
    rw [e3 i h1 (by omega), e3 j (by omega) h3]; exact hx _ _ (by omega) (by omega) (by omega)
  · intro i j h1 h2 h3
    rw [e4 i h1, e4 j (by omega)]; exact hy i j (by omega) h2 h3
  · intro i j h1 h2 h3 h4
    rw [e1 i h2, e2 j h3 h4]; exact hc i _ h1 (by omega) (by omega) (by omega)
  · intro i j h1 h2 h3 h4
    rw [e3 i h1 h2, e4 j h3]; exact hc _ j (by omega) (by omega) (by omega) h4
  · intro i j h1 h2 h3 h4
    by_cases c : i < st
    · rw [e1 i c]
      by_cases d : j < en
      · rw [e3 j h3 d]; exact hx i _ h1 (by omega) (by omega)
      · rw [e4 j (by omega)]; exact x12 i j h1 c (by omega) h4
    · rw [e2 i (by omega) h2]
      by_cases d : j < en
      · rw [e3 j h3 d]; exact y12 _ _ (by omega) (by omega) (by omega) (by omega)
      · rw [e4 j (by omega)]; exact hy _ j (by omega) (by omega) h4

/-- Behind the two merges all is sorted. -/
theorem Tn.done {w : Int → Int} {f1 f2 f3 : Nat → Int} {a mid b st en : Nat} (h : Tn w f1 a mid b st en) (am : a ≤ mid) (mb : mid ≤ b) (o2 : Of f1 f2 a mid) (m2 : Sm f1 f2 a mid) (s2 : So w f2 a mid) (o3 : Of f2 f3 mid b) (m3 : Sm f2 f3 mid b) (s3 : So w f3 mid b) :
    So w f3 a b ∧ Of f1 f3 a b ∧ Sm f1 f3 a b := by
  have e3 : ∀ k, k < mid → f3 k = f2 k := fun k hk => o3 k (.inl hk)
  have e2 : ∀ k, mid ≤ k → f2 k = f1 k := fun k hk => o2 k (.inr hk)
  refine ⟨So.join (s2.of fun k _ h2 => e3 k h2) s3 ?_, (o2.wide (Nat.le_refl _) mb).trans (o3.wide am (Nat.le_refl _)), (m2.wide o2 (Nat.le_refl _) mb).trans (m3.wide o3 am (Nat.le_refl _))⟩
  intro i j h1 h2 h3 h4
  rw [e3 i h2]
  obtain ⟨i', a1, a2, a3⟩ := m2.mem h1 h2
  obtain ⟨j', b1, b2, b3⟩ := m3.mem h3 h4
  rw [← a3, ← b3, e2 j' b1]
  exact h.sep i' j' a1 a2 b1 b2

/-! ### One into many -/
/-- The first is taken behind the next ones: it stands at place e - 1. -/
theorem one_into {w : Int → Int} {f : Nat → Int} {a b e : Nat} (hy : So w f (a + 1) b) (h1 : a + 1 ≤ e) (h2 : e ≤ b) (lo : ∀ k, a + 1 ≤ k → k < e → lx w (f k) (f a)) (hi : ∀ k, e ≤ k → k < b → lx w (f a) (f k)) :
    So w (rot f a (a + 1) e) a b := by
  have e1 : ∀ k, a ≤ k → k + 1 < e → rot f a (a + 1) e k = f (k + 1) := fun k q1 q2 => by
    rw [rot_lo f q1 (by omega) h1 (by omega)]; congr 1; omega
  have e2 : rot f a (a + 1) e (e - 1) = f a := by
    rw [rot_hi f (by omega) (by omega)]; congr 1; omega
  have e3 : ∀ k, e ≤ k → rot f a (a + 1) e k = f k := fun k q => rot_of f a (a + 1) e k (.inr q)
  intro i j q1 q2 q3
  by_cases c : j + 1 < e
  · rw [e1 i q1 (by omega), e1 j (by omega) c]; exact hy _ _ (by omega) (by omega) (by omega)
  · by_cases d : j + 1 = e
    · obtain rfl : j = e - 1 := by omega
      rw [e2, e1 i q1 (by omega)]; exact lo _ (by omega) (by omega)
    · rw [e3 j (by omega)]
      by_cases c1 : i + 1 < e
      · rw [e1 i q1 c1]; exact hy _ _ (by omega) (by omega) q3
      · by_cases d1 : i + 1 = e
        · obtain rfl : i = e - 1 := by omega
          rw [e2]; exact hi j (by omega) q3
        · rw [e3 i (by omega)]; exact hy _ _ (by omega) q2 q3
/-- The last is taken ahead of those behind place e: it stands at place e. -/
theorem last_into {w : Int → Int} {f : Nat → Int} {a m e : Nat} (hx : So w f a m) (h1 : a ≤ e) (h2 : e ≤ m) (lo : ∀ k, a ≤ k → k < e → lx w (f k) (f m)) (hi : ∀ k, e ≤ k → k < m → lx w (f m) (f k)) :
    So w (rot f e m (m + 1)) a (m + 1) := by
  have e1 : ∀ k, k < e → rot f e m (m + 1) k = f k := fun k q => rot_of f e m (m + 1) k (.inl q)
  have e2 : rot f e m (m + 1) e = f m := by
    rw [rot_lo f (Nat.le_refl _) (by omega) (by omega) h2]; congr 1; omega
  have e3 : ∀ k, e < k → k < m + 1 → rot f e m (m + 1) k = f (k - 1) := fun k q1 q2 => by
    rw [rot_hi f (by omega) q2]; congr 1; omega
  intro i j q1 q2 q3
  by_cases c : j < e
  · rw [e1 i (by omega), e1 j c]; exact hx _ _ q1 q2 (by omega)
  · by_cases d : j = e
    · subst d
      rw [e2, e1 i q2]; exact lo i q1 q2
    · rw [e3 j (by omega) q3]
      by_cases c1 : i < e
      · rw [e1 i c1]; exact hx _ _ q1 (by omega) (by omega)
      · by_cases d1 : i = e
        · subst d1
          rw [e2]; exact hi _ (by omega) (by omega)
        · rw [e3 i (by omega) (by omega)]; exact hx _ _ (by omega) (by omega) (by omega)
/-- The one that moves right, place by place. -/
theorem rot_right_one {f : Nat → Int} {a k : Nat} (h : a ≤ k) (x : Nat) : rot f a (a + 1) (k + 2) x = if x = k then rot f a (a + 1) (k + 1) (k + 1) else if x = k + 1 then rot f a (a + 1) (k + 1) k else rot f a (a + 1) (k + 1) x := by
  unfold rot
  by_cases h1 : x = k
  · subst h1
    rw [if_neg (by omega), if_pos (by omega), if_pos rfl, if_pos (by omega)]
    congr 1; omega
  · rw [if_neg h1]
    by_cases h2 : x = k + 1
    · subst h2
      rw [if_neg (by omega), if_neg (by omega), if_pos rfl, if_neg (by omega), if_neg (by omega)]
      congr 1; omega
    · rw [if_neg h2]
      by_cases h3 : x < a ∨ k + 1 ≤ x
      · rw [if_pos (by omega), if_pos h3]
      · rw [if_neg (by omega), if_neg h3, if_pos (by omega), if_pos (by omega)]
/-- The one that moves left, place by place. -/
theorem rot_left_one {f : Nat → Int} {m k : Nat} (h : k < m) (x : Nat) : rot f k m (m + 1) x = if x = k + 1 then rot f (k + 1) m (m + 1) k else if x = k then rot f (k + 1) m (m + 1) (k + 1) else rot f (k + 1) m (m + 1) x := by
  unfold rot
  by_cases h1 : x = k + 1
  · subst h1
    rw [if_neg (by omega), if_neg (by omega), if_pos rfl, if_pos (by omega)]
    congr 1; omega
  · rw [if_neg h1]
    by_cases h2 : x = k
    · subst h2
      rw [if_neg (by omega), if_pos (by omega), if_pos rfl, if_neg (by omega), if_pos (by omega)]
      congr 1; omega
    · rw [if_neg h2]
      by_cases h3 : x < k + 1 ∨ m + 1 ≤ x
      · rw [if_pos (by omega), if_pos h3]
      · rw [if_neg (by omega), if_neg h3, if_neg (by omega), if_neg (by omega)]
end Go.Proofs.YtckcbfnffmohgaaGreat.SS
namespace Go.Proofs.YtckcbfnffmohgaaGreat.SS
open Go.Sort

/-- An array's row as a function of its places. -/
def vw (d : Array Int) (k : Nat) : Int := d[k]!
theorem vw_swp (d : Array Int) {i j : Nat} (hi : i < d.size) (hj : j < d.size) (k : Nat) : vw (swp d i j) k = if k = i then vw d j else if k = j then vw d i else vw d k := by
  unfold vw
  by_cases h1 : k = i
  · subst h1
    rw [if_pos rfl]
    by_cases h2 : k = j
    · subst h2; exact swp_right d k k hj
    · exact swp_left d k j hi h2
  · rw [if_neg h1]
    by_cases h2 : k = j
    · subst h2; rw [if_pos rfl]; exact swp_right d i k hj
    · rw [if_neg h2]; exact swp_other d i j k h1 h2

variable {w : Int → Int} {lt : Int → Int → Bool}

theorem ins_inner (hl : ∀ x y, lt x y = true ↔ w x < w y) {f : Nat → Int} {a i : Nat} : ∀ (j : Nat) (d : Array Int), a ≤ j → j ≤ i → i < d.size → (∀ k, vw d k = rot f j i (i + 1) k) → (∀ k, j ≤ k → k < i → w (f i) < w (f k)) →
    ∃ e, a ≤ e ∧ e ≤ i ∧ (insInner lt a j d).size = d.size ∧ (∀ k, vw (insInner lt a j d) k = rot f e i (i + 1) k) ∧ (∀ k, e ≤ k → k < i → w (f i) < w (f k)) ∧ (e = a ∨ ¬ w (f i) < w (f (e - 1)))
  | 0, d, haj, hji, hi, hv, hk => by
    rw [insInner]
    exact ⟨0, haj, hji, rfl, hv, hk, .inl (by omega)⟩
  | j + 1, d, haj, hji, hi, hv, hk => by
    have v1 : d[j + 1]! = f i := by
      have := hv (j + 1)
      rw [rot_lo f (Nat.le_refl _) (by omega) (by omega) hji] at this
      rw [show d[j + 1]! = vw d (j + 1) from rfl, this]; congr 1; omega
    have v0 : d[j]! = f j := by
      have := hv j
      rw [rot_of f (j + 1) i (i + 1) j (.inl (by omega))] at this
      exact this
    by_cases c : a < j + 1 ∧ w (f i) < w (f j)
    · have hg := insInner_go lt a (j + 1) d c.1 (by simp only [Nat.add_sub_cancel]; rw [v1, v0]; exact (hl _ _).2 c.2)
      simp only [Nat.add_sub_cancel] at hg
      rw [hg]
      obtain ⟨e, e1, e2, e3, e4, e5, e6⟩ := ins_inner hl (f := f) (a := a) (i := i) j (swp d (j + 1) j) (by omega) (by omega) (by rw [size_swp]; exact hi) (fun k => by
        rw [vw_swp d (i := j + 1) (j := j) (by omega) (by omega) k, rot_left_one (f := f) (m := i) (k := j) (by omega) k, hv, hv, hv]) (fun k q1 q2 => by
        by_cases e : k = j
        · subst e; exact c.2
        · exact hk k (by omega) q2)
      exact ⟨e, e1, e2, by rw [e3, size_swp], e4, e5, e6⟩
    · have hs : insInner lt a (j + 1) d = d := insInner_stop lt a (j + 1) d (by
        by_cases q : a < j + 1
        · right
          simp only [Nat.add_sub_cancel]
          rw [v1, v0]
          cases h : lt (f i) (f j) with
          | false => rfl
          | true => exact absurd ⟨q, (hl _ _).1 h⟩ c
        · left; omega)
      rw [hs]
      refine ⟨j + 1, haj, hji, rfl, hv, hk, ?_⟩
      by_cases q : a < j + 1
      · right; intro h; exact c ⟨q, h⟩
      · left; omega

/-- The numbers rise from a to b. -/
def Up (f : Nat → Int) (a b : Nat) : Prop := ∀ i j, a ≤ i → i < j → j < b → f i < f j

theorem ins_outer (hl : ∀ x y, lt x y = true ↔ w x < w y) {f0 : Nat → Int} {a b : Nat} (hu : Up f0 a b) : ∀ (t i : Nat) (d : Array Int), b - i = t → a < i → i ≤ b → b ≤ d.size → So w (vw d) a i → Sm f0 (vw d) a i → Of f0 (vw d) a i →
    (insOuter lt a b i d).size = d.size ∧ So w (vw (insOuter lt a b i d)) a b ∧ Sm f0 (vw (insOuter lt a b i d)) a b ∧ Of f0 (vw (insOuter lt a b i d)) a b
  | 0, i, d, ht, hai, hib, hb, hs, hm, ho => by
    obtain rfl : i = b := by omega
    rw [insOuter_stop lt a i i d (by omega)]
    exact ⟨rfl, hs, hm, ho⟩
  | t + 1, i, d, ht, hai, hib, hb, hs, hm, ho => by
    have hlt : i < b := by omega
    rw [insOuter_go lt a b i d hlt]
    have hx : vw d i = f0 i := ho i (.inr (Nat.le_refl _))
    have hnum : ∀ k, a ≤ k → k < i → vw d k < vw d i := fun k q1 q2 => by
      obtain ⟨j, j1, j2, j3⟩ := hm.mem q1 q2
      rw [← j3, hx]; exact hu j i j1 j2 hlt
    obtain ⟨e, e1, e2, e3, e4, e5, e6⟩ := ins_inner hl (f := vw d) (a := a) (i := i) i d (by omega) (Nat.le_refl _) (by omega) (fun k => by rw [rot_none (vw d) (.inl rfl) (Nat.le_refl _) (by omega)]) (fun k q1 q2 => by omega)
    have e4' : vw (insInner lt a i d) = rot (vw d) e i (i + 1) := funext e4
    have hs' : So w (vw (insInner lt a i d)) a (i + 1) := by
      rw [e4']
      refine last_into hs e1 e2 ?_ ?_
      · intro k q1 q2
        have h1 : lx w (vw d (e - 1)) (vw d i) := by
          rcases e6 with h | h
          · omega
          · have := hnum (e - 1) (by omega) (by omega)
            unfold lx; omega
        by_cases c : k = e - 1
        · rw [c]; exact h1
        · exact lx_trans (hs k (e - 1) q1 (by omega) (by omega)) h1
      · intro k q1 q2
        exact .inl (e5 k q1 q2)
    have r1 : Sm (vw d) (vw (insInner lt a i d)) a (i + 1) := by
      rw [e4']; exact (rot_sm (vw d) e2 (by omega)).wide (rot_of _ _ _ _) e1 (Nat.le_refl _)
    have r2 : Of (vw d) (vw (insInner lt a i d)) a (i + 1) := by
      rw [e4']; exact (rot_of (vw d) e i (i + 1)).wide e1 (Nat.le_refl _)
    obtain ⟨z1, z2, z3, z4⟩ := ins_outer hl hu t (i + 1) (insInner lt a i d) (by omega) (by omega) (by omega) (by rw [e3]; exact hb) hs'
      ((hm.wide ho (Nat.le_refl _) (Nat.le_succ _)).trans r1) ((ho.wide (Nat.le_refl _) (Nat.le_succ _)).trans r2)
    exact ⟨by rw [z1, e3], z2, z3, z4⟩
/-- Insertion at numbers that rise is stable. -/
theorem ins_sort (hl : ∀ x y, lt x y = true ↔ w x < w y) {d : Array Int} {a b : Nat} (hu : Up (vw d) a b) (hab : a ≤ b) (hb : b ≤ d.size) :
    (insertionSort lt d a b).size = d.size ∧ So w (vw (insertionSort lt d a b)) a b ∧ Sm (vw d) (vw (insertionSort lt d a b)) a b ∧ Of (vw d) (vw (insertionSort lt d a b)) a b := by
  unfold insertionSort
  by_cases h : a < b
  · exact ins_outer hl hu _ (a + 1) d rfl (by omega) (by omega) hb (fun i j q1 q2 q3 => by omega) (Sm.refl _ _ _) (Of.refl _ _ _)
  · rw [insOuter_stop lt a b (a + 1) d (by omega)]
    exact ⟨rfl, fun i j q1 q2 q3 => by omega, Sm.refl _ _ _, Of.refl _ _ _⟩

/-! ### Stretches of a length -/
/-- From x to y (no further than n) it is sorted, and holds what it held. -/
structure Bk (w : Int → Int) (f0 f : Nat → Int) (n x y : Nat) : Prop where
  so : So w f x (min y n)
  sm : Sm f0 f x (min y n)
theorem Bk.of {f0 f g : Nat → Int} {n x y a b : Nat} (h : Bk w f0 f n x y) (ho : Of f g a b) (hd : min y n ≤ a ∨ b ≤ x) : Bk w f0 g n x y := by
  have he : ∀ k, x ≤ k → k < min y n → g k = f k := fun k q1 q2 => ho k (by omega)
  refine ⟨h.so.of he, fun z => ?_⟩
  refine Iff.trans ?_ (h.sm z)
  constructor
  · rintro ⟨k, k1, k2, k3⟩; exact ⟨k, k1, k2, by rw [← he k k1 k2]; exact k3⟩
  · rintro ⟨k, k1, k2, k3⟩; exact ⟨k, k1, k2, by rw [he k k1 k2]; exact k3⟩
/-- Two stretches beside each other are each other's lesser and greater as numbers. -/
theorem Bk.cr {f0 f : Nat → Int} {n a m b : Nat} (hu : Up f0 0 n) (h1 : Bk w f0 f n a m) (h2 : Bk w f0 f n m b) (hm : m ≤ n) : Cr f a m (min b n) := fun i j q1 q2 q3 q4 => by
  obtain ⟨i', a1, a2, a3⟩ := h1.sm.mem q1 (show i < min m n by omega)
  obtain ⟨j', b1, b2, b3⟩ := h2.sm.mem q3 q4
  rw [← a3, ← b3]
  exact hu i' j' (Nat.zero_le _) (by omega) (by omega)
/-- Two beside each other, merged. -/
theorem Bk.merged {f0 f g : Nat → Int} {n a m b : Nat} (h1 : Bk w f0 f n a m) (h2 : Bk w f0 f n m b) (ham : a ≤ m) (hm : m ≤ n) (hmb : m ≤ b) (s : So w g a (min b n)) (sm : Sm f g a (min b n)) : Bk w f0 g n a b := by
  refine ⟨s, Sm.trans (fun z => ?_) sm⟩
  have e1 : min m n = m := by omega
  have t1 := h1.sm z
  rw [e1] at t1
  have t2 := h2.sm z
  constructor
  · rintro ⟨k, k1, k2, k3⟩
    by_cases c : k < m
    · obtain ⟨j, j1, j2, j3⟩ := t1.1 ⟨k, k1, c, k3⟩
      exact ⟨j, j1, by omega, j3⟩
    · obtain ⟨j, j1, j2, j3⟩ := t2.1 ⟨k, by omega, k2, k3⟩
      exact ⟨j, by omega, j2, j3⟩
  · rintro ⟨k, k1, k2, k3⟩
    by_cases c : k < m
    · obtain ⟨j, j1, j2, j3⟩ := t1.2 ⟨k, k1, c, k3⟩
      exact ⟨j, j1, by omega, j3⟩
    · obtain ⟨j, j1, j2, j3⟩ := t2.2 ⟨k, by omega, k2, k3⟩
      exact ⟨j, by omega, j2, j3⟩
/-- Within a round of merges, at place a: up to a the stretches are twice as long. -/
structure Pas (w : Int → Int) (f0 f : Nat → Int) (n bs a : Nat) : Prop where
  da : 2 * bs ∣ a
  lo : ∀ x, 2 * bs ∣ x → x < a → x < n → Bk w f0 f n x (x + 2 * bs)
  hi : ∀ x, bs ∣ x → a ≤ x → x < n → Bk w f0 f n x (x + bs)
theorem Pas.two {f0 f : Nat → Int} {n bs a : Nat} (h : Pas w f0 f n bs a) (hm : a + bs < n) : Bk w f0 f n a (a + bs) ∧ Bk w f0 f n (a + bs) (a + bs + bs) := by
  have d1 : bs ∣ a := Nat.dvd_trans (Nat.dvd_mul_left bs 2) h.da
  exact ⟨h.hi a d1 (Nat.le_refl _) (by omega), h.hi (a + bs) (Nat.dvd_add d1 (Nat.dvd_refl _)) (by omega) hm⟩
theorem dvd_far {c x a : Nat} (hx : c ∣ x) (ha : c ∣ a) (h1 : a < x) : a + c ≤ x := by
  obtain ⟨p, rfl⟩ := ha
  obtain ⟨q, rfl⟩ := hx
  have : p < q := Nat.lt_of_mul_lt_mul_left h1
  calc c * p + c = c * (p + 1) := by rw [Nat.mul_add, Nat.mul_one]
    _ ≤ c * q := Nat.mul_le_mul_left c this
/-- One merge more. -/
theorem Pas.step {f0 f g : Nat → Int} {n bs a : Nat} (h : Pas w f0 f n bs a) (hm : a + bs < n) (s : So w g a (min (a + 2 * bs) n)) (sm : Sm f g a (min (a + 2 * bs) n)) (ho : Of f g a (min (a + 2 * bs) n)) : Pas w f0 g n bs (a + 2 * bs) := by
  obtain ⟨b1, b2⟩ := h.two hm
  have e : a + bs + bs = a + 2 * bs := by omega
  rw [e] at b2
  have hb : Bk w f0 g n a (a + 2 * bs) := b1.merged b2 (by omega) (by omega) (by omega) s sm
  refine ⟨Nat.dvd_add h.da (Nat.dvd_refl _), fun x hx h1 h2 => ?_, fun x hx h1 h2 => ?_⟩
  · by_cases c : x < a
    · have := dvd_far h.da hx c
      exact (h.lo x hx c h2).of ho (.inl (by omega))
    · by_cases d : x = a
      · subst d; exact hb
      · have := dvd_far hx h.da (by omega)
        omega
  · exact (h.hi x hx (by omega) h2).of ho (.inr (by omega))
/-- A round is over: what is left is one stretch or none. -/
theorem Pas.over {f0 f : Nat → Int} {n bs a : Nat} (h : Pas w f0 f n bs a) (hm : n ≤ a + bs) : Pas w f0 f n (2 * bs) 0 := by
  refine ⟨Nat.dvd_zero _, fun x _ h1 => by omega, fun x hx _ h2 => ?_⟩
  by_cases c : x < a
  · exact h.lo x hx c h2
  · have d1 : bs ∣ x := Nat.dvd_trans (Nat.dvd_mul_left bs 2) hx
    have := h.hi x d1 (by omega) h2
    by_cases d : x = a
    · subst d
      have e : min (x + bs) n = min (x + 2 * bs) n := by omega
      exact ⟨by rw [← e]; exact this.so, by rw [← e]; exact this.sm⟩
    · have := dvd_far hx h.da (by omega)
      omega
/-- All is one stretch. -/
theorem Pas.all {f0 f : Nat → Int} {n bs : Nat} (h : Pas w f0 f n bs 0) (hm : n ≤ bs) : So w f 0 n ∧ Sm f0 f 0 n := by
  by_cases c : n = 0
  · subst c; exact ⟨fun i j _ _ q => by omega, fun x => by constructor <;> (rintro ⟨k, _, q, _⟩; omega)⟩
  · have := h.hi 0 (Nat.dvd_zero _) (Nat.le_refl _) (by omega)
    have e : min (0 + bs) n = n := by omega
    have s1 := this.so; have s2 := this.sm
    rw [e] at s1 s2
    exact ⟨s1, s2⟩
/-- Behind the insertions up to place a. -/
structure Ins20 (w : Int → Int) (f0 f : Nat → Int) (n bs a : Nat) : Prop where
  da : bs ∣ a
  lo : ∀ x, bs ∣ x → x < a → x < n → Bk w f0 f n x (x + bs)
  hi : ∀ k, a ≤ k → f k = f0 k
theorem Ins20.start (w : Int → Int) (f0 : Nat → Int) (n bs : Nat) : Ins20 w f0 f0 n bs 0 := ⟨Nat.dvd_zero _, fun x _ h => by omega, fun _ _ => rfl⟩
theorem Ins20.up {f0 f : Nat → Int} {n bs a : Nat} (h : Ins20 w f0 f n bs a) (hu : Up f0 0 n) {b : Nat} (hb : b ≤ n) : Up f a b := fun i j q1 q2 q3 => by
  rw [h.hi i q1, h.hi j (by omega)]; exact hu i j (Nat.zero_le _) q2 (by omega)
theorem Ins20.step {f0 f g : Nat → Int} {n bs a : Nat} (h : Ins20 w f0 f n bs a) (s : So w g a (min (a + bs) n)) (sm : Sm f g a (min (a + bs) n)) (ho : Of f g a (min (a + bs) n)) : Ins20 w f0 g n bs (a + bs) := by
  have hb : Bk w f0 g n a (a + bs) := ⟨s, Sm.trans (fun z => by
    constructor
    · rintro ⟨k, k1, k2, k3⟩; exact ⟨k, k1, k2, by rw [← h.hi k k1]; exact k3⟩
    · rintro ⟨k, k1, k2, k3⟩; exact ⟨k, k1, k2, by rw [h.hi k k1]; exact k3⟩) sm⟩
  refine ⟨Nat.dvd_add h.da (Nat.dvd_refl _), fun x hx h1 h2 => ?_, fun k hk => ?_⟩
  · by_cases c : x < a
    · have := dvd_far h.da hx c
      exact (h.lo x hx c h2).of ho (.inl (by omega))
    · by_cases d : x = a
      · subst d; exact hb
      · have := dvd_far hx h.da (by omega)
        omega
  · rw [ho k (.inr (by omega))]; exact h.hi k (by omega)
/-- Behind all insertions the first round of merges begins. -/
theorem Ins20.pas {f0 f : Nat → Int} {n bs a : Nat} (h : Ins20 w f0 f n bs a) (hn : n ≤ a) : Pas w f0 f n bs 0 :=
  ⟨Nat.dvd_zero _, fun x _ h1 => by omega, fun x hx _ h2 => h.lo x hx (by omega) h2⟩
end Go.Proofs.YtckcbfnffmohgaaGreat.SS
namespace Go.Proofs.YtckcbfnffmohgaaGreat
open Go Go.Shelf Go.RowKit Go.Lib Go.Sort SS
set_option linter.unusedVariables false

/-- Ints: as they are within the numbers 0 .. n-1; what is none of these is 0 (so that a compare by them may be asked of whatever two). -/
def cl (n : Nat) (x : Int) : Int := if 0 ≤ x ∧ x < (n : Int) then x else 0
abbrev eN (n : Nat) : Int → Value := fun x => Value.int .i64 (cl n x)
variable {nn : Nat}

set_option maxHeartbeats 4000000 in
set_option maxRecDepth 100000 in
theorem swr_any (w0 : World) (d0 : Array Int) (blk off cap a b n : Nat) (d : Array Int) (w : World) (cf : Value) (R : Row1 (eN nn) w0 blk off d0) (hs : d0.size = d.size) (S : SW (eN nn) w0 blk off d w) (hab : a + n ≤ b) (hb : b + n ≤ d.size) (hsz : d.size < 100000) :
    Calls Tryz.prog 147 #[.slice (some ⟨blk, off, none⟩) d.size cap, .int .i64 a, .int .i64 b, .int .i64 n, cf] w fun e w' => e = .returned (.tuple #[]) ∧ ∃ d' : Array Int, d'.size = d.size ∧ vw d' = swr (vw d) a b n ∧ SW (eN nn) w0 blk off d' w' := by
  have S0 : Hid (SW (eN nn) w0 blk off d w) := S
  clear S
  go_enter Tryz.func147, Tryz.ntmps147
  go_wp2
  go_loopw [10] (fun vi wr => ∃ (i : Nat) (di : Array Int), i ≤ n ∧ vi = .int .i64 i ∧ di.size = d.size ∧ Hid (vw di = swr (vw d) a b i) ∧ Hid (SW (eN nn) w0 blk off di wr)) (fun vi _ => n - (intOf vi).toNat)
  case atStart => exact ⟨0, d, Nat.zero_le _, rfl, rfl, (swr_zero _ _ _).symm, S0.out⟩
  case round =>
    clear S0
    obtain ⟨i, di, hi, rfl, hsd, HV, HS⟩ := hrel
    by_cases c : i < n
    · obtain ⟨p, hp⟩ : ∃ p, a + i = p := ⟨_, rfl⟩
      obtain ⟨q, hq⟩ : ∃ q, b + i = q := ⟨_, rfl⟩
      have rp : IntKind.i64.wrap ((a : Int) + (i : Int)) = (p : Int) := (IntWalk.i64_in _ (by omega)).trans (by omega)
      have rq : IntKind.i64.wrap ((b : Int) + (i : Int)) = (q : Int) := (IntWalk.i64_in _ (by omega)).trans (by omega)
      have bp : (p : Int) < (d.size : Int) := by omega
      have bq : (q : Int) < (d.size : Int) := by omega
      have c1 := HS.out.c1 R (by omega) p (by omega)
      have c2 := HS.out.c1 R (by omega) q (by omega)
      have f1 := HS.out.f1 R (by omega) p (by omega)
      have f2 := HS.out.f1 R (by omega) q (by omega)
      obtain ⟨u3, c3⟩ := HS.out.c2 R (by omega) p q (by omega) (by omega) ((eN nn) di[q]!)
      have HX : Hid (SW (eN nn) w0 blk off (swp di p q) ((wr.setCell ⟨blk, off + p, none⟩ ((eN nn) di[q]!)).setCell ⟨blk, off + q, none⟩ ((eN nn) di[p]!)).drew) := HS.out.swapped R p q (by omega) (by omega)
      have HW : Hid (vw (swp di p q) = swr (vw d) a b (i + 1)) := by
        funext k
        rw [vw_swp di (by omega) (by omega), swr_step (by omega), ← HV.out, hp, hq]
      generalize di[p]! = x at c1 c3 HX
      generalize di[q]! = y at c2 c3 HX
      simp only [eN] at c1 c2 c3 HX
      have hlt : (i : Int) < (n : Int) := by omega
      clear HV HS hp hq
      go_wp2_with fail
      go_big_region
      clear c1 c2 c3 f1 f2
      generalize ((wr.setCell ⟨blk, off + p, none⟩ (.int .i64 (cl nn y))).setCell ⟨blk, off + q, none⟩ (.int .i64 (cl nn x))).drew = w3 at HX ⊢
      go_wp2
      go_roundw
      case rel => exact ⟨i + 1, swp di p q, by omega, by go_num, by rw [size_swp]; exact hsd, HW, HX⟩
      case measure => simp [intOf]; omega
    · obtain rfl : i = n := by omega
      go_wp2
      go_end0
      exact ⟨rfl, di, hsd, HV.out, HS.out⟩
set_option maxHeartbeats 600000 in
set_option maxRecDepth 100000 in
theorem rot_any (w0 : World) (d0 : Array Int) (blk off cap a m b : Nat) (d : Array Int) (w : World) (cf : Value) (R : Row1 (eN nn) w0 blk off d0) (hs : d0.size = d.size) (S : SW (eN nn) w0 blk off d w) (ham : a < m) (hmb : m < b) (hb : b ≤ d.size) (hsz : d.size < 100000) :
    Calls Tryz.prog 143 #[.slice (some ⟨blk, off, none⟩) d.size cap, .int .i64 a, .int .i64 m, .int .i64 b, cf] w fun e w' => e = .returned (.tuple #[]) ∧ ∃ d' : Array Int, d'.size = d.size ∧ vw d' = rot (vw d) a m b ∧ SW (eN nn) w0 blk off d' w' := by
  have S0 : Hid (SW (eN nn) w0 blk off d w) := S
  clear S
  obtain ⟨i0, hi0⟩ : ∃ i0, a + i0 = m := ⟨m - a, by omega⟩
  obtain ⟨j0, hj0⟩ : ∃ j0, m + j0 = b := ⟨b - m, by omega⟩
  have r1 : IntKind.i64.wrap ((m : Int) - (a : Int)) = (i0 : Int) := (IntWalk.i64_in _ (by omega)).trans (by omega)
  have r2 : IntKind.i64.wrap ((b : Int) - (m : Int)) = (j0 : Int) := (IntWalk.i64_in _ (by omega)).trans (by omega)
  go_enter Tryz.func143, Tryz.ntmps143
  go_wp2
  go_loopw [10, 11] (fun vi vj wr => ∃ (i j : Nat) (di : Array Int), vi = .int .i64 i ∧ vj = .int .i64 j ∧ 1 ≤ i ∧ i ≤ i0 ∧ 1 ≤ j ∧ j ≤ j0 ∧ di.size = d.size ∧ Hid (rot (vw di) (m - i) m (m + j) = rot (vw d) a m b) ∧ Hid (SW (eN nn) w0 blk off di wr)) (fun vi vj _ => (intOf vi).toNat + (intOf vj).toNat)
  case atStart => exact ⟨i0, j0, d, rfl, rfl, by omega, by omega, by omega, by omega, rfl, by rw [Hid, show m - i0 = a by omega, hj0], S0.out⟩
  case round =>
    clear S0
    obtain ⟨i, j, di, rfl, rfl, hi1, hi2, hj1, hj2, hsd, HV, HS⟩ := hrel
    obtain ⟨p, hp⟩ : ∃ p, p + i = m := ⟨m - i, by omega⟩
    have rp : IntKind.i64.wrap ((m : Int) - (i : Int)) = (p : Int) := (IntWalk.i64_in _ (by omega)).trans (by omega)
    have hpm : m - i = p := by omega
    by_cases c : i = j
    · subst c
      have HC := Lib.hid (fun W (hW : SW (eN nn) w0 blk off di W) => swr_any w0 d0 blk off cap p m i di W cf R (by omega) hW (by omega) (by omega) (by omega))
      rw [hsd] at HC
      have HR : Hid (swr (vw di) p m i = rot (vw d) a m b) := by
        have := rot_end (f := vw di) (m := m) (i := i) (by omega)
        rw [hpm] at this
        rw [Hid, this, ← HV.out, hpm]
      clear HV
      go_wp2_with fail
      refine (HC.out wr HS.out).mono ?_
      rintro e w2 ⟨rfl, d2, q1, q2, q3⟩
      go_wp2
      go_end0
      exact ⟨rfl, d2, by omega, by rw [q2]; exact HR.out, q3⟩
    · have e1 : ((i : Int) == (j : Int)) = false := by rw [beq_eq_false_iff_ne]; omega
      have e2 : (i == j) = false := by rw [beq_eq_false_iff_ne]; exact c
      have e3 : ¬ (i : Int) = (j : Int) := by omega
      have e4 : ((i : Int) != (j : Int)) = true := by rw [bne, e1]; rfl
      have e5 : (i != j) = true := by rw [bne, e2]; rfl
      by_cases h : j < i
      · have hz : (j : Int) < (i : Int) := by omega
        obtain ⟨i2, hi3⟩ : ∃ i2, i2 + j = i := ⟨i - j, by omega⟩
        have rs : IntKind.i64.wrap ((i : Int) - (j : Int)) = (i2 : Int) := (IntWalk.i64_in _ (by omega)).trans (by omega)
        have HC := Lib.hid (fun W (hW : SW (eN nn) w0 blk off di W) => swr_any w0 d0 blk off cap p m j di W cf R (by omega) hW (by omega) (by omega) (by omega))
        rw [hsd] at HC
        have HR : Hid (rot (swr (vw di) p m j) (m - i2) m (m + j) = rot (vw d) a m b) := by
          have := rot_left (f := vw di) (m := m) (i := i) (j := j) (by omega) h
          rw [hpm, show i - j = i2 by omega] at this
          rw [Hid, this, ← HV.out, hpm]
        clear HV
        go_wp2_with fail
        refine (HC.out wr HS.out).mono ?_
        rintro e w2 ⟨rfl, d2, q1, q2, q3⟩
        have Q2 : Hid (rot (vw d2) (m - i2) m (m + j) = rot (vw d) a m b) := by rw [Hid, q2]; exact HR.out
        have Q3 : Hid (SW (eN nn) w0 blk off d2 w2) := q3
        clear q2 q3 HR HC HS
        go_wp2
        go_roundw
        case rel => exact ⟨i2, j, d2, rfl, rfl, by omega, by omega, hj1, hj2, by omega, Q2, Q3⟩
        case measure => simp [intOf]; omega
      · have hz : ¬ (j : Int) < (i : Int) := by omega
        obtain ⟨j2, hj3⟩ : ∃ j2, j2 + i = j := ⟨j - i, by omega⟩
        have rs : IntKind.i64.wrap ((j : Int) - (i : Int)) = (j2 : Int) := (IntWalk.i64_in _ (by omega)).trans (by omega)
        obtain ⟨s1, hs1⟩ : ∃ s1, m + j = s1 := ⟨_, rfl⟩
        obtain ⟨s2, hs2⟩ : ∃ s2, s2 + i = s1 := ⟨s1 - i, by omega⟩
        have ra : IntKind.i64.wrap ((m : Int) + (j : Int)) = (s1 : Int) := (IntWalk.i64_in _ (by omega)).trans (by omega)
        have rb : IntKind.i64.wrap ((s1 : Int) - (i : Int)) = (s2 : Int) := (IntWalk.i64_in _ (by omega)).trans (by omega)
        have HC := Lib.hid (fun W (hW : SW (eN nn) w0 blk off di W) => swr_any w0 d0 blk off cap p s2 i di W cf R (by omega) hW (by omega) (by omega) (by omega))
        rw [hsd] at HC
        have HR : Hid (rot (swr (vw di) p s2 i) (m - i) m (m + j2) = rot (vw d) a m b) := by
          have := rot_right (f := vw di) (m := m) (i := i) (j := j) (by omega) (by omega)
          rw [hpm, show j - i = j2 by omega, show m + j - i = s2 by omega] at this
          rw [Hid, hpm, this, ← HV.out, hpm]
        clear HV
        go_wp2_with fail
        refine (HC.out wr HS.out).mono ?_
        rintro e w2 ⟨rfl, d2, q1, q2, q3⟩
        have Q2 : Hid (rot (vw d2) (m - i) m (m + j2) = rot (vw d) a m b) := by rw [Hid, q2]; exact HR.out
        have Q3 : Hid (SW (eN nn) w0 blk off d2 w2) := q3
        clear q2 q3 HR HC HS
        go_wp2
        go_roundw
        case rel => exact ⟨i, j2, d2, rfl, rfl, hi1, hi2, by omega, by omega, by omega, Q2, Q3⟩
        case measure => simp [intOf]; omega
end Go.Proofs.YtckcbfnffmohgaaGreat
namespace Go.Proofs.YtckcbfnffmohgaaGreat
open Go Go.Shelf Go.RowKit Go.Lib Go.Sort SS
set_option linter.unusedVariables false
variable {nn : Nat}

/-- Compared by weight. -/
def cfW (wt : Int → Int) (x y : Int) : Int := wt x - wt y

set_option maxHeartbeats 1000000 in
set_option maxRecDepth 100000 in
theorem sym_one (wt : Int → Int) (w0 : World) (d0 : Array Int) (blk off cap a b : Nat) (d : Array Int) (w : World) (cb : Array Value) (hC : CmpLays1 Tryz.prog 81 cb (eN nn) (cfW wt) blk off d0.size w0) (R : Row1 (eN nn) w0 blk off d0) (hs : d0.size = d.size) (S : SW (eN nn) w0 blk off d w) (hab : a + 1 < b) (hb : b ≤ d.size) (hsz : d.size < 100000)
    (hy : So wt (vw d) (a + 1) b) (hc : Cr (vw d) a (a + 1) b) :
    Calls Tryz.prog 134 #[.slice (some ⟨blk, off, none⟩) d.size cap, .int .i64 a, .int .i64 ((a : Int) + 1), .int .i64 b, .func (.func 81) #[] cb] w fun e w' => e = .returned (.tuple #[]) ∧ ∃ d' : Array Int, d'.size = d.size ∧ So wt (vw d') a b ∧ Sm (vw d) (vw d') a b ∧ Of (vw d) (vw d') a b ∧ SW (eN nn) w0 blk off d' w' := by
  have S0 : Hid (SW (eN nn) w0 blk off d w) := S
  have HC := Lib.hid hC
  have mixed : Tryz.prog.follows .mixedOrders = true := by kernel_rfl
  clear S hC
  have r1 : IntKind.i64.wrap ((a : Int) + 1 - (a : Int)) = 1 := (IntWalk.i64_in _ (by omega)).trans (by omega)
  go_enter Tryz.func134, Tryz.ntmps134
  go_wp2
  go_loopw [10, 11, 12] (fun vi vj _ wr => ∃ (i j : Nat), vi = .int .i64 i ∧ vj = .int .i64 j ∧ a + 1 ≤ i ∧ i ≤ j ∧ j ≤ b ∧ Hid (∀ k, a + 1 ≤ k → k < i → lx wt (vw d k) (vw d a)) ∧ Hid (∀ k, j ≤ k → k < b → lx wt (vw d a) (vw d k)) ∧ Hid (SW (eN nn) w0 blk off d wr)) (fun vi vj _ _ => (intOf vj).toNat - (intOf vi).toNat)
  case atStart => exact ⟨a + 1, b, by go_num, rfl, by omega, by omega, by omega, fun k _ _ => by omega, fun k _ _ => by omega, S0.out⟩
  case round =>
    clear S0
    obtain ⟨i, j, rfl, rfl, h1, h2, h3, HL, HR, HS⟩ := hrel
    by_cases c : i < j
    · have hlt : (i : Int) < (j : Int) := by omega
      have rs : IntKind.i64.wrap ((i : Int) + (j : Int)) = ((i + j : Nat) : Int) := (IntWalk.i64_in _ (by omega)).trans (by omega)
      obtain ⟨h, hh⟩ : ∃ h : Nat, (i + j) / 2 = h := ⟨_, rfl⟩
      have hz : ((i : Int) + (j : Int)) / 2 = (h : Int) := by omega
      go_wp2_with fail
      have bh : (h : Int) < (d.size : Int) := by omega
      have ba : (a : Int) < (d.size : Int) := by omega
      have l1 : ∀ n os, (grow (wr.drewN n) os).cell? ⟨blk, off + h, none⟩ = some (.int .i64 (cl nn d[h]!)) := HS.out.cl R (by omega) h (by omega)
      have l2 : ∀ n os, (grow (wr.drewN n) os).cell? ⟨blk, off + a, none⟩ = some (.int .i64 (cl nn d[a]!)) := HS.out.cl R (by omega) a (by omega)
      have lc := HS.out.cmp HC.out (by omega) d[h]! d[a]!
      have nx : d[h]! = vw d h := rfl
      have ny : d[a]! = vw d a := rfl
      have hcr := hc a h (Nat.le_refl _) (by omega) (by omega) (by omega)
      by_cases q : wt (vw d h) < wt (vw d a)
      · have hlo : ∀ k, a + 1 ≤ k → k < h + 1 → lx wt (vw d k) (vw d a) := fun k q1 q2 => by
          by_cases e : k = h
          · rw [e]; exact .inl q
          · exact lx_trans (hy k h q1 (by omega) (by omega)) (.inl q)
        have HL2 := Lib.hid hlo
        have hq : cfW wt d[h]! d[a]! < 0 := by unfold cfW; rw [nx, ny]; omega
        have hd : decide (cfW wt d[h]! d[a]! < 0) = true := decide_eq_true hq
        clear hlo q hcr nx ny HL
        generalize d[h]! = x at l1 lc hq hd
        generalize d[a]! = y at l2 lc hq hd
        go_quiet_grown (first | (go_at_call 81; refine Calls.grown_of (lc _ _)))
        have S2 := Lib.hid (HS.out.grown nq osq)
        clear l1 l2 lc hq hd HS
        generalize grow (wr.drewN nq) osq = w2 at S2 ⊢
        go_wp2
        go_roundw
        case rel => exact ⟨h + 1, j, by go_num, rfl, by omega, by omega, h3, HL2.out, HR.out, S2.out⟩
        case measure => simp [intOf]; omega
      · have hhi : ∀ k, h ≤ k → k < b → lx wt (vw d a) (vw d k) := fun k q1 q2 => by
          have q3 : lx wt (vw d a) (vw d h) := by unfold lx; omega
          by_cases e : k = h
          · rw [e]; exact q3
          · exact lx_trans q3 (hy h k (by omega) (by omega) q2)
        have HR2 := Lib.hid hhi
        have hq : ¬ cfW wt d[h]! d[a]! < 0 := by unfold cfW; rw [nx, ny]; omega
        have hd : decide (cfW wt d[h]! d[a]! < 0) = false := decide_eq_false hq
        clear hhi q hcr nx ny HR
        generalize d[h]! = x at l1 lc hq hd
        generalize d[a]! = y at l2 lc hq hd
        go_quiet_grown (first | (go_at_call 81; refine Calls.grown_of (lc _ _)))
        have S2 := Lib.hid (HS.out.grown nq osq)
        clear l1 l2 lc hq hd HS
        generalize grow (wr.drewN nq) osq = w2 at S2 ⊢
        go_wp2
        go_roundw
        case rel => exact ⟨i, h, rfl, rfl, h1, by omega, by omega, HL.out, HR2.out, S2.out⟩
        case measure => simp [intOf]; omega
    · obtain rfl : i = j := by omega
      -- the place is found: the first goes there, place by place
      have e0 : rot (vw d) a (a + 1) (a + 1) = vw d := rot_none _ (.inr rfl) (by omega) (Nat.le_refl _)
      have HF := Lib.hid (one_into hy h1 h3 HL.out HR.out)
      have HM : Hid (Sm (vw d) (rot (vw d) a (a + 1) i) a b) := (rot_sm (vw d) (by omega) h1).wide (rot_of _ _ _ _) (Nat.le_refl _) h3
      have HO : Hid (Of (vw d) (rot (vw d) a (a + 1) i) a b) := (rot_of (vw d) a (a + 1) i).wide (Nat.le_refl _) h3
      have E0 := Lib.hid e0
      clear e0 HL HR
      have rj : IntKind.i64.wrap ((i : Int) - 1) = (i : Int) - 1 := IntWalk.i64_in _ (by omega)
      go_wp2
      go_loopw [13] (fun vk wk => ∃ (k : Nat) (dk : Array Int), vk = .int .i64 k ∧ a ≤ k ∧ k + 1 ≤ i ∧ dk.size = d.size ∧ Hid (vw dk = rot (vw d) a (a + 1) (k + 1)) ∧ Hid (SW (eN nn) w0 blk off dk wk)) (fun vk _ => i - (intOf vk).toNat)
      case atStart => exact ⟨a, d, rfl, Nat.le_refl _, by omega, rfl, E0.out.symm, HS.out⟩
      case round =>
        clear HS
        obtain ⟨k, dk, rfl, k1, k2, hsd, HV, HK⟩ := hrel
        by_cases c2 : k + 1 < i
        · have hlt : (k : Int) < (i : Int) - 1 := by omega
          obtain ⟨p, hp⟩ : ∃ p, k + 1 = p := ⟨_, rfl⟩
          have rp : IntKind.i64.wrap ((k : Int) + 1) = (p : Int) := (IntWalk.i64_in _ (by omega)).trans (by omega)
          have bp : (p : Int) < (d.size : Int) := by omega
          have bk : (k : Int) < (d.size : Int) := by omega
          have c1 := HK.out.c1 R (by omega) k (by omega)
          have c3 := HK.out.c1 R (by omega) p (by omega)
          have f1 := HK.out.f1 R (by omega) k (by omega)
          have f2 := HK.out.f1 R (by omega) p (by omega)
          obtain ⟨u3, c4⟩ := HK.out.c2 R (by omega) k p (by omega) (by omega) ((eN nn) dk[p]!)
          have HX : Hid (SW (eN nn) w0 blk off (swp dk k p) ((wr.setCell ⟨blk, off + k, none⟩ ((eN nn) dk[p]!)).setCell ⟨blk, off + p, none⟩ ((eN nn) dk[k]!)).drew) := HK.out.swapped R k p (by omega) (by omega)
          have HW : Hid (vw (swp dk k p) = rot (vw d) a (a + 1) (k + 1 + 1)) := by
            funext x
            rw [vw_swp dk (by omega) (by omega), rot_right_one k1, ← HV.out, hp]
          generalize dk[k]! = x at c1 c4 HX
          generalize dk[p]! = y at c3 c4 HX
          simp only [eN] at c1 c3 c4 HX
          clear HV HK
          go_wp2_with fail
          go_big_region
          clear c1 c3 c4 f1 f2
          generalize ((wr.setCell ⟨blk, off + k, none⟩ (.int .i64 (cl nn y))).setCell ⟨blk, off + p, none⟩ (.int .i64 (cl nn x))).drew = w3 at HX ⊢
          go_wp2
          go_roundw
          case rel => exact ⟨k + 1, swp dk k p, by go_num, by omega, by omega, by rw [size_swp]; exact hsd, HW, HX⟩
          case measure => simp [intOf]; omega
        · have hlt : ¬ (k : Int) < (i : Int) - 1 := by omega
          obtain rfl : k + 1 = i := by omega
          go_wp2
          (try simp only [Exit.inBlock, Exit.then])
          refine bodyPost_ret (results_none rfl _ _ _) rfl ?_
          exact ⟨rfl, dk, hsd, by rw [HV.out]; exact HF.out, by rw [HV.out]; exact HM.out, by rw [HV.out]; exact HO.out, HK.out⟩

set_option maxHeartbeats 1000000 in
set_option maxRecDepth 100000 in
theorem sym_last (wt : Int → Int) (w0 : World) (d0 : Array Int) (blk off cap a m : Nat) (d : Array Int) (w : World) (cb : Array Value) (hC : CmpLays1 Tryz.prog 81 cb (eN nn) (cfW wt) blk off d0.size w0) (R : Row1 (eN nn) w0 blk off d0) (hs : d0.size = d.size) (S : SW (eN nn) w0 blk off d w) (ham : a + 1 < m) (hb : m + 1 ≤ d.size) (hsz : d.size < 100000)
    (hx : So wt (vw d) a m) (hc : Cr (vw d) a m (m + 1)) :
    Calls Tryz.prog 134 #[.slice (some ⟨blk, off, none⟩) d.size cap, .int .i64 a, .int .i64 m, .int .i64 ((m : Int) + 1), .func (.func 81) #[] cb] w fun e w' => e = .returned (.tuple #[]) ∧ ∃ d' : Array Int, d'.size = d.size ∧ So wt (vw d') a (m + 1) ∧ Sm (vw d) (vw d') a (m + 1) ∧ Of (vw d) (vw d') a (m + 1) ∧ SW (eN nn) w0 blk off d' w' := by
  have S0 : Hid (SW (eN nn) w0 blk off d w) := S
  have HC := Lib.hid hC
  have mixed : Tryz.prog.follows .mixedOrders = true := by kernel_rfl
  clear S hC
  obtain ⟨x0, hx0⟩ : ∃ x0, a + x0 = m := ⟨m - a, by omega⟩
  have r0 : IntKind.i64.wrap ((m : Int) - (a : Int)) = (x0 : Int) := (IntWalk.i64_in _ (by omega)).trans (by omega)
  have z0 : ((x0 : Int) == 1) = false := by rw [beq_eq_false_iff_ne]; omega
  have z1 : ¬ (x0 : Int) = 1 := by omega
  have r1 : IntKind.i64.wrap ((m : Int) + 1 - (m : Int)) = 1 := (IntWalk.i64_in _ (by omega)).trans (by omega)
  go_enter Tryz.func134, Tryz.ntmps134
  go_wp2
  go_loopw [14, 15, 16] (fun vi vj _ wr => ∃ (i j : Nat), vi = .int .i64 i ∧ vj = .int .i64 j ∧ a ≤ i ∧ i ≤ j ∧ j ≤ m ∧ Hid (∀ k, a ≤ k → k < i → lx wt (vw d k) (vw d m)) ∧ Hid (∀ k, j ≤ k → k < m → lx wt (vw d m) (vw d k)) ∧ Hid (SW (eN nn) w0 blk off d wr)) (fun vi vj _ _ => (intOf vj).toNat - (intOf vi).toNat)
  case atStart => exact ⟨a, m, rfl, rfl, by omega, by omega, by omega, fun k _ _ => by omega, fun k _ _ => by omega, S0.out⟩
  case round =>
    clear S0
    obtain ⟨i, j, rfl, rfl, h1, h2, h3, HL, HR, HS⟩ := hrel
    by_cases c : i < j
    · have hlt : (i : Int) < (j : Int) := by omega
      have rs : IntKind.i64.wrap ((i : Int) + (j : Int)) = ((i + j : Nat) : Int) := (IntWalk.i64_in _ (by omega)).trans (by omega)
      obtain ⟨h, hh⟩ : ∃ h : Nat, (i + j) / 2 = h := ⟨_, rfl⟩
      have hz : ((i : Int) + (j : Int)) / 2 = (h : Int) := by omega
      go_wp2_with fail
      have bh : (h : Int) < (d.size : Int) := by omega
      have ba : (m : Int) < (d.size : Int) := by omega
      have l1 : ∀ n os, (grow (wr.drewN n) os).cell? ⟨blk, off + h, none⟩ = some (.int .i64 (cl nn d[h]!)) := HS.out.cl R (by omega) h (by omega)
      have l2 : ∀ n os, (grow (wr.drewN n) os).cell? ⟨blk, off + m, none⟩ = some (.int .i64 (cl nn d[m]!)) := HS.out.cl R (by omega) m (by omega)
      have lc := HS.out.cmp HC.out (by omega) d[m]! d[h]!
      have nx : d[h]! = vw d h := rfl
      have ny : d[m]! = vw d m := rfl
      have hcr := hc h m (by omega) (by omega) (Nat.le_refl _) (by omega)
      by_cases q : wt (vw d m) < wt (vw d h)
      · have hhi : ∀ k, h ≤ k → k < m → lx wt (vw d m) (vw d k) := fun k q1 q2 => by
          by_cases e : k = h
          · rw [e]; exact .inl q
          · exact lx_trans (.inl q) (hx h k (by omega) (by omega) q2)
        have HR2 := Lib.hid hhi
        have hq : cfW wt d[m]! d[h]! < 0 := by unfold cfW; rw [nx, ny]; omega
        have hd : decide (cfW wt d[m]! d[h]! < 0) = true := decide_eq_true hq
        clear hhi q hcr nx ny HR
        generalize d[h]! = x at l1 lc hq hd
        generalize d[m]! = y at l2 lc hq hd
        go_quiet_grown (first | (go_at_call 81; refine Calls.grown_of (lc _ _)))
        have S2 := Lib.hid (HS.out.grown nq osq)
        clear l1 l2 lc hq hd HS
        generalize grow (wr.drewN nq) osq = w2 at S2 ⊢
        go_wp2
        go_roundw
        case rel => exact ⟨i, h, rfl, rfl, h1, by omega, by omega, HL.out, HR2.out, S2.out⟩
        case measure => simp [intOf]; omega
      · have hlo : ∀ k, a ≤ k → k < h + 1 → lx wt (vw d k) (vw d m) := fun k q1 q2 => by
          have q3 : lx wt (vw d h) (vw d m) := by unfold lx; omega
          by_cases e : k = h
          · rw [e]; exact q3
          · exact lx_trans (hx k h q1 (by omega) (by omega)) q3
        have HL2 := Lib.hid hlo
        have hq : ¬ cfW wt d[m]! d[h]! < 0 := by unfold cfW; rw [nx, ny]; omega
        have hd : decide (cfW wt d[m]! d[h]! < 0) = false := decide_eq_false hq
        clear hlo q hcr nx ny HL
        generalize d[h]! = x at l1 lc hq hd
        generalize d[m]! = y at l2 lc hq hd
        go_quiet_grown (first | (go_at_call 81; refine Calls.grown_of (lc _ _)))
        have S2 := Lib.hid (HS.out.grown nq osq)
        clear l1 l2 lc hq hd HS
        generalize grow (wr.drewN nq) osq = w2 at S2 ⊢
        go_wp2
        go_roundw
        case rel => exact ⟨h + 1, j, by go_num, rfl, by omega, by omega, h3, HL2.out, HR.out, S2.out⟩
        case measure => simp [intOf]; omega
    · obtain rfl : i = j := by omega
      have e0 : rot (vw d) m m (m + 1) = vw d := rot_none _ (.inl rfl) (by omega) (by omega)
      have HF := Lib.hid (last_into hx h1 h3 HL.out HR.out)
      have HM : Hid (Sm (vw d) (rot (vw d) i m (m + 1)) a (m + 1)) := (rot_sm (vw d) h3 (by omega)).wide (rot_of _ _ _ _) h1 (Nat.le_refl _)
      have HO : Hid (Of (vw d) (rot (vw d) i m (m + 1)) a (m + 1)) := (rot_of (vw d) i m (m + 1)).wide h1 (Nat.le_refl _)
      have E0 := Lib.hid e0
      clear e0 HL HR
      go_wp2
      go_loopw [17] (fun vk wk => ∃ (k : Nat) (dk : Array Int), vk = .int .i64 k ∧ i ≤ k ∧ k ≤ m ∧ dk.size = d.size ∧ Hid (vw dk = rot (vw d) k m (m + 1)) ∧ Hid (SW (eN nn) w0 blk off dk wk)) (fun vk _ => (intOf vk).toNat)
      case atStart => exact ⟨m, d, rfl, h3, Nat.le_refl _, rfl, E0.out.symm, HS.out⟩
      case round =>
        clear HS
        obtain ⟨k, dk, rfl, k1, k2, hsd, HV, HK⟩ := hrel
        by_cases c2 : i < k
        · have hlt : (i : Int) < (k : Int) := by omega
          obtain ⟨p, hp⟩ : ∃ p, p + 1 = k := ⟨k - 1, by omega⟩
          have rp : IntKind.i64.wrap ((k : Int) - 1) = (p : Int) := (IntWalk.i64_in _ (by omega)).trans (by omega)
          have bp : (p : Int) < (d.size : Int) := by omega
          have bk : (k : Int) < (d.size : Int) := by omega
          have c1 := HK.out.c1 R (by omega) k (by omega)
          have c3 := HK.out.c1 R (by omega) p (by omega)
          have f1 := HK.out.f1 R (by omega) k (by omega)
          have f2 := HK.out.f1 R (by omega) p (by omega)
          obtain ⟨u3, c4⟩ := HK.out.c2 R (by omega) k p (by omega) (by omega) ((eN nn) dk[p]!)
          have HX : Hid (SW (eN nn) w0 blk off (swp dk k p) ((wr.setCell ⟨blk, off + k, none⟩ ((eN nn) dk[p]!)).setCell ⟨blk, off + p, none⟩ ((eN nn) dk[k]!)).drew) := HK.out.swapped R k p (by omega) (by omega)
          have HW : Hid (vw (swp dk k p) = rot (vw d) p m (m + 1)) := by
            funext x
            rw [vw_swp dk (by omega) (by omega), rot_left_one (by omega), hp, ← HV.out]
          generalize dk[k]! = x at c1 c4 HX
          generalize dk[p]! = y at c3 c4 HX
          simp only [eN] at c1 c3 c4 HX
          clear HV HK
          go_wp2_with fail
          go_big_region
          clear c1 c3 c4 f1 f2
          generalize ((wr.setCell ⟨blk, off + k, none⟩ (.int .i64 (cl nn y))).setCell ⟨blk, off + p, none⟩ (.int .i64 (cl nn x))).drew = w3 at HX ⊢
          go_wp2
          go_roundw
          case rel => exact ⟨p, swp dk k p, by first | rfl | go_num, by omega, by omega, by rw [size_swp]; exact hsd, HW, HX⟩
          case measure => simp [intOf]; omega
        · have hlt : ¬ (i : Int) < (k : Int) := by omega
          obtain rfl : k = i := by omega
          go_wp2
          (try simp only [Exit.inBlock, Exit.then])
          refine bodyPost_ret (results_none rfl _ _ _) rfl ?_
          exact ⟨rfl, dk, hsd, by rw [HV.out]; exact HF.out, by rw [HV.out]; exact HM.out, by rw [HV.out]; exact HO.out, HK.out⟩
end Go.Proofs.YtckcbfnffmohgaaGreat
namespace Go.Proofs.YtckcbfnffmohgaaGreat
open Go Go.Shelf Go.RowKit Go.Lib Go.Sort SS
set_option linter.unusedVariables false
variable {nn : Nat}

theorem cut_of {wt : Int → Int} {f : Nat → Int} {a m b mid s lo hi : Nat} (ham : a < m) (hmb : m < b) (h1 : a ≤ mid) (h2 : mid ≤ b) (l1 : a ≤ lo) (l2 : lo ≤ s) (l3 : s ≤ hi) (l4 : hi ≤ m) (l5 : hi ≤ mid) (l6 : mid + m ≤ b + lo) (e1 : lo = a ∨ lo + b = mid + m) (e2 : hi = m ∨ hi = mid)
    (HL : ∀ c, lo ≤ c → c < s → lx wt (f c) (f (mid + m - 1 - c))) (HR : ∀ c, s ≤ c → c < hi → lx wt (f (mid + m - 1 - c)) (f c)) : Cut wt f a m b mid s (mid + m - s) := by
  refine ⟨by omega, by omega, by omega, by omega, by omega, h1, h2, fun q1 q2 => ?_, fun q1 q2 => ?_⟩
  · have := HR s (Nat.le_refl _) (by omega)
    rwa [show mid + m - 1 - s = mid + m - s - 1 by omega] at this
  · have := HL (s - 1) (by omega) (by omega)
    rwa [show mid + m - 1 - (s - 1) = mid + m - s by omega] at this

theorem sym_done {wt : Int → Int} {d d1 d2 d3 : Array Int} {a m b mid st en : Nat} (h1 : a ≤ mid) (h2 : mid ≤ b) (h3 : a ≤ st) (h4 : st ≤ m) (h5 : m ≤ en) (h6 : en ≤ b) (V : vw d1 = rot (vw d) st m en) (T : Tn wt (vw d1) a mid b st en) (B : So wt (vw d2) a mid ∧ Sm (vw d1) (vw d2) a mid ∧ Of (vw d1) (vw d2) a mid) (c1 : So wt (vw d3) mid b) (c2 : Sm (vw d2) (vw d3) mid b) (c3 : Of (vw d2) (vw d3) mid b) :
    So wt (vw d3) a b ∧ Sm (vw d) (vw d3) a b ∧ Of (vw d) (vw d3) a b := by
  obtain ⟨e1, e2, e3⟩ := T.done h1 h2 B.2.2 B.2.1 B.1 c3 c2 c1
  have o := rot_of (vw d) st m en
  have s := rot_sm (vw d) h4 h5
  rw [← V] at o s
  exact ⟨e1, (s.wide o h3 h6).trans e3, (o.wide h3 h6).trans e2⟩

/-- What symMerge is to do. -/
def SymC (nn : Nat) (wt : Int → Int) (w0 : World) (d0 : Array Int) (blk off : Nat) (cb : Array Value) (t : Nat) : Prop :=
  ∀ (cap a m b : Nat) (d : Array Int) (w : World), b - a ≤ t → a < m → m < b → b ≤ d.size → d0.size = d.size → SW (eN nn) w0 blk off d w → So wt (vw d) a m → So wt (vw d) m b → Cr (vw d) a m b →
    Calls Tryz.prog 134 #[.slice (some ⟨blk, off, none⟩) d.size cap, .int .i64 a, .int .i64 m, .int .i64 b, .func (.func 81) #[] cb] w fun e w' => e = .returned (.tuple #[]) ∧ ∃ d' : Array Int, d'.size = d.size ∧ So wt (vw d') a b ∧ Sm (vw d) (vw d') a b ∧ Of (vw d) (vw d') a b ∧ SW (eN nn) w0 blk off d' w'

set_option maxHeartbeats 2000000 in
set_option maxRecDepth 100000 in
theorem sym_great (wt : Int → Int) (w0 : World) (d0 : Array Int) (blk off cap a m b t : Nat) (d : Array Int) (w : World) (cb : Array Value) (ih : SymC nn wt w0 d0 blk off cb t) (ht : b - a ≤ t + 1) (hC : CmpLays1 Tryz.prog 81 cb (eN nn) (cfW wt) blk off d0.size w0) (R : Row1 (eN nn) w0 blk off d0) (hs : d0.size = d.size) (S : SW (eN nn) w0 blk off d w) (ham : a + 1 < m) (hmb : m + 1 < b) (hb : b ≤ d.size) (hsz : d.size < 100000)
    (hx : So wt (vw d) a m) (hy : So wt (vw d) m b) (hc : Cr (vw d) a m b) :
    Calls Tryz.prog 134 #[.slice (some ⟨blk, off, none⟩) d.size cap, .int .i64 a, .int .i64 m, .int .i64 b, .func (.func 81) #[] cb] w fun e w' => e = .returned (.tuple #[]) ∧ ∃ d' : Array Int, d'.size = d.size ∧ So wt (vw d') a b ∧ Sm (vw d) (vw d') a b ∧ Of (vw d) (vw d') a b ∧ SW (eN nn) w0 blk off d' w' := by
  have S0 : Hid (SW (eN nn) w0 blk off d w) := S
  have HC := Lib.hid hC
  have IH := Lib.hid ih
  have mixed : Tryz.prog.follows .mixedOrders = true := by kernel_rfl
  clear S hC ih
  obtain ⟨x0, hx0⟩ : ∃ x0, a + x0 = m := ⟨m - a, by omega⟩
  obtain ⟨y0, hy0⟩ : ∃ y0, m + y0 = b := ⟨b - m, by omega⟩
  have r0 : IntKind.i64.wrap ((m : Int) - (a : Int)) = (x0 : Int) := (IntWalk.i64_in _ (by omega)).trans (by omega)
  have z0 : ((x0 : Int) == 1) = false := by rw [beq_eq_false_iff_ne]; omega
  have z1 : ¬ (x0 : Int) = 1 := by omega
  have r1 : IntKind.i64.wrap ((b : Int) - (m : Int)) = (y0 : Int) := (IntWalk.i64_in _ (by omega)).trans (by omega)
  have z2 : ((y0 : Int) == 1) = false := by rw [beq_eq_false_iff_ne]; omega
  have z3 : ¬ (y0 : Int) = 1 := by omega
  obtain ⟨mid, hmid⟩ : ∃ mid, (a + b) / 2 = mid := ⟨_, rfl⟩
  have r2 : IntKind.i64.wrap ((a : Int) + (b : Int)) = ((a + b : Nat) : Int) := (IntWalk.i64_in _ (by omega)).trans (by omega)
  have hz : ((a : Int) + (b : Int)) / 2 = (mid : Int) := by omega
  obtain ⟨n0, hn0⟩ : ∃ n0, mid + m = n0 := ⟨_, rfl⟩
  have r3 : IntKind.i64.wrap ((mid : Int) + (m : Int)) = (n0 : Int) := (IntWalk.i64_in _ (by omega)).trans (by omega)
  obtain ⟨p0, hp0⟩ : ∃ p0, p0 + 1 = n0 := ⟨n0 - 1, by omega⟩
  have r4 : IntKind.i64.wrap ((n0 : Int) - 1) = (p0 : Int) := (IntWalk.i64_in _ (by omega)).trans (by omega)
  go_enter Tryz.func134, Tryz.ntmps134
  by_cases cm : mid < m
  · obtain ⟨lo, hlo⟩ : ∃ lo, lo + b = n0 := ⟨n0 - b, by omega⟩
    have r5 : IntKind.i64.wrap ((n0 : Int) - (b : Int)) = (lo : Int) := (IntWalk.i64_in _ (by omega)).trans (by omega)
    have cz : (mid : Int) < (m : Int) := by omega
    obtain ⟨hi, hhi⟩ : ∃ hi, hi = mid := ⟨_, rfl⟩
    have e1 : lo = a ∨ lo + b = mid + m := by omega
    have e2 : hi = m ∨ hi = mid := by omega
    have f1 : a ≤ lo ∧ lo ≤ hi ∧ hi ≤ m ∧ hi ≤ mid ∧ mid + m ≤ b + lo := by omega
    go_wp2
    go_loopw [20, 21, 23] (fun vi vj _ wr => ∃ (i j : Nat), vi = .int .i64 i ∧ vj = .int .i64 j ∧ lo ≤ i ∧ i ≤ j ∧ j ≤ hi ∧ Hid (∀ c, lo ≤ c → c < i → lx wt (vw d c) (vw d (mid + m - 1 - c))) ∧ Hid (∀ c, j ≤ c → c < hi → lx wt (vw d (mid + m - 1 - c)) (vw d c)) ∧ Hid (SW (eN nn) w0 blk off d wr)) (fun vi vj _ _ => (intOf vj).toNat - (intOf vi).toNat)
    case atStart => exact ⟨lo, hi, by first | rfl | (rw [hlo]), by first | rfl | (rw [hhi]), by omega, by omega, by omega, fun k _ _ => by omega, fun k _ _ => by omega, S0.out⟩
    case round =>
      clear S0
      obtain ⟨i, j, rfl, rfl, h1, h2, h3, HL, HR, HS⟩ := hrel
      by_cases c : i < j
      · have hlt : (i : Int) < (j : Int) := by omega
        have rs : IntKind.i64.wrap ((i : Int) + (j : Int)) = ((i + j : Nat) : Int) := (IntWalk.i64_in _ (by omega)).trans (by omega)
        obtain ⟨h, hh⟩ : ∃ h : Nat, (i + j) / 2 = h := ⟨_, rfl⟩
        have hz2 : ((i : Int) + (j : Int)) / 2 = (h : Int) := by omega
        obtain ⟨e, he⟩ : ∃ e, e + h = p0 := ⟨p0 - h, by omega⟩
        have hpe : mid + m - 1 - h = e := by omega
        have re : IntKind.i64.wrap ((p0 : Int) - (h : Int)) = (e : Int) := (IntWalk.i64_in _ (by omega)).trans (by omega)
        go_wp2_with fail
        have bh : (h : Int) < (d.size : Int) := by omega
        have be : (e : Int) < (d.size : Int) := by omega
        have l1 : ∀ n os, (grow (wr.drewN n) os).cell? ⟨blk, off + h, none⟩ = some (.int .i64 (cl nn d[h]!)) := HS.out.cl R (by omega) h (by omega)
        have l2 : ∀ n os, (grow (wr.drewN n) os).cell? ⟨blk, off + e, none⟩ = some (.int .i64 (cl nn d[e]!)) := HS.out.cl R (by omega) e (by omega)
        have lc := HS.out.cmp HC.out (by omega) d[e]! d[h]!
        have nx : d[h]! = vw d h := rfl
        have ny : d[e]! = vw d e := rfl
        have hcr := hc h e (by omega) (by omega) (by omega) (by omega)
        by_cases q : wt (vw d e) < wt (vw d h)
        · have hhi2 : ∀ k, h ≤ k → k < hi → lx wt (vw d (mid + m - 1 - k)) (vw d k) := fun k q1 q2 => by
            have q3 : lx wt (vw d e) (vw d h) := .inl q
            by_cases e' : k = h
            · rw [e', hpe]; exact q3
            · exact lx_trans (hy (mid + m - 1 - k) e (by omega) (by omega) (by omega)) (lx_trans q3 (hx h k (by omega) (by omega) (by omega)))
          have HR2 := Lib.hid hhi2
          have hq : cfW wt d[e]! d[h]! < 0 := by unfold cfW; rw [nx, ny]; omega
          have hd : decide (cfW wt d[e]! d[h]! < 0) = true := decide_eq_true hq
          clear hhi2 q hcr nx ny HR
          generalize d[h]! = x at l1 lc hq hd
          generalize d[e]! = y at l2 lc hq hd
          go_quiet_grown (first | (go_at_call 81; refine Calls.grown_of (lc _ _)))
          have S2 := Lib.hid (HS.out.grown nq osq)
          clear l1 l2 lc hq hd HS
          generalize grow (wr.drewN nq) osq = w2 at S2 ⊢
          go_wp2
          go_roundw
          case rel => exact ⟨i, h, rfl, rfl, h1, by omega, by omega, HL.out, HR2.out, S2.out⟩
          case measure => simp [intOf]; omega
        · have hlo2 : ∀ k, lo ≤ k → k < h + 1 → lx wt (vw d k) (vw d (mid + m - 1 - k)) := fun k q1 q2 => by
            have q3 : lx wt (vw d h) (vw d e) := by unfold lx; omega
            by_cases e' : k = h
            · rw [e', hpe]; exact q3
            · exact lx_trans (hx k h (by omega) (by omega) (by omega)) (lx_trans q3 (hy e (mid + m - 1 - k) (by omega) (by omega) (by omega)))
          have HL2 := Lib.hid hlo2
          have hq : ¬ cfW wt d[e]! d[h]! < 0 := by unfold cfW; rw [nx, ny]; omega
          have hd : decide (cfW wt d[e]! d[h]! < 0) = false := decide_eq_false hq
          clear hlo2 q hcr nx ny HL
          generalize d[h]! = x at l1 lc hq hd
          generalize d[e]! = y at l2 lc hq hd
          go_quiet_grown (first | (go_at_call 81; refine Calls.grown_of (lc _ _)))
          have S2 := Lib.hid (HS.out.grown nq osq)
          clear l1 l2 lc hq hd HS
          generalize grow (wr.drewN nq) osq = w2 at S2 ⊢
          go_wp2
          go_roundw
          case rel => exact ⟨h + 1, j, by go_num, rfl, by omega, by omega, h3, HL2.out, HR.out, S2.out⟩
          case measure => simp [intOf]; omega
      · obtain rfl : i = j := by omega
        have HCut := Lib.hid (cut_of (by omega) (by omega) (by omega) (by omega) f1.1 h1 h3 f1.2.2.1 f1.2.2.2.1 f1.2.2.2.2 e1 e2 HL.out HR.out)
        clear HL HR
        obtain ⟨en, hen⟩ : ∃ en, en + i = n0 := ⟨n0 - i, by omega⟩
        have ren : IntKind.i64.wrap ((n0 : Int) - (i : Int)) = (en : Int) := (IntWalk.i64_in _ (by omega)).trans (by omega)
        have hen2 : mid + m - i = en := by omega
        rw [hen2] at HCut
        have HT := Lib.hid (HCut.out.turn hx hy hc)
        have w1 := HCut.out.sa; have w2 := HCut.out.sm; have w3 := HCut.out.me; have w4 := HCut.out.eb
        clear HCut
        by_cases y0 : i < m
        · by_cases y1 : m < en
          · by_cases y2 : a < i
            · by_cases y3 : en < b
              · have g1 : (i : Int) < (m : Int) := by omega
                have g2 : (m : Int) < (en : Int) := by omega
                have g3 : (a : Int) < (i : Int) := by omega
                have g4 : (i : Int) < (mid : Int) := by omega
                have g5 : (mid : Int) < (en : Int) := by omega
                have g6 : (en : Int) < (b : Int) := by omega
                go_wp2_with fail
                refine (rot_any w0 d0 blk off cap i m en d wr _ R hs HS.out (by omega) (by omega) (by omega) hsz).mono ?_
                rintro e w2 ⟨rfl, d1, s1, v1, t1⟩
                have V1 := Lib.hid v1
                have T1 := Lib.hid t1
                clear v1 t1
                have HT1 : Hid (Tn wt (vw d1) a mid b i en) := by rw [Hid, V1.out]; exact HT.out
                have q2 := IH.out cap a i mid d1 w2 (by omega) (by omega) (by omega) (by omega) (by omega) T1.out HT1.out.s1 HT1.out.s2 HT1.out.c1
                rw [s1] at q2
                have Q2 := Lib.hid q2
                clear q2
                go_wp2_with fail
                refine Q2.out.mono ?_
                rintro e w3 ⟨rfl, d2, s2, b1, b2, b3, t2⟩
                have B := Lib.hid (show So wt (vw d2) a mid ∧ Sm (vw d1) (vw d2) a mid ∧ Of (vw d1) (vw d2) a mid from ⟨b1, b2, b3⟩)
                have T2 := Lib.hid t2
                clear b1 b2 b3 t2
                have C3 : Hid (So wt (vw d2) mid en ∧ So wt (vw d2) en b ∧ Cr (vw d2) mid en b) := ⟨HT1.out.s3.of fun k q _ => B.out.2.2 k (.inr q), HT1.out.s4.of fun k q _ => B.out.2.2 k (.inr (by omega)), fun x y q1 q2 q3 q4 => by rw [B.out.2.2 x (.inr q1), B.out.2.2 y (.inr (by omega))]; exact HT1.out.c2 x y q1 q2 q3 q4⟩
                have q3 := IH.out cap mid en b d2 w3 (by omega) (by omega) (by omega) (by omega) (by omega) T2.out C3.out.1 C3.out.2.1 C3.out.2.2
                rw [s2] at q3
                have Q3 := Lib.hid q3
                clear q3
                go_wp2_with fail
                refine Q3.out.mono ?_
                rintro e w4 ⟨rfl, d3, s3, c1, c2, c3, t3⟩
                have E := Lib.hid (sym_done (by omega) (by omega) (by omega) (by omega) (by omega) (by omega) V1.out HT1.out B.out c1 c2 c3)
                have T3 := Lib.hid t3
                clear c1 c2 c3 t3
                go_wp2
                all_goals go_end0
                all_goals exact ⟨rfl, d3, s3, E.out.1, E.out.2.1, E.out.2.2, T3.out⟩
              · have g1 : (i : Int) < (m : Int) := by omega
                have g2 : (m : Int) < (en : Int) := by omega
                have g3 : (a : Int) < (i : Int) := by omega
                have g4 : (i : Int) < (mid : Int) := by omega
                have g5 : (mid : Int) < (en : Int) := by omega
                have g6 : ¬ (en : Int) < (b : Int) := by omega
                go_wp2_with fail
                refine (rot_any w0 d0 blk off cap i m en d wr _ R hs HS.out (by omega) (by omega) (by omega) hsz).mono ?_
                rintro e w2 ⟨rfl, d1, s1, v1, t1⟩
                have V1 := Lib.hid v1
                have T1 := Lib.hid t1
                clear v1 t1
                have HT1 : Hid (Tn wt (vw d1) a mid b i en) := by rw [Hid, V1.out]; exact HT.out
                have q2 := IH.out cap a i mid d1 w2 (by omega) (by omega) (by omega) (by omega) (by omega) T1.out HT1.out.s1 HT1.out.s2 HT1.out.c1
                rw [s1] at q2
                have Q2 := Lib.hid q2
                clear q2
                go_wp2_with fail
                refine Q2.out.mono ?_
                rintro e w3 ⟨rfl, d2, s2, b1, b2, b3, t2⟩
                have B := Lib.hid (show So wt (vw d2) a mid ∧ Sm (vw d1) (vw d2) a mid ∧ Of (vw d1) (vw d2) a mid from ⟨b1, b2, b3⟩)
                have T2 := Lib.hid t2
                clear b1 b2 b3 t2
                have C3 : Hid (So wt (vw d2) mid en ∧ So wt (vw d2) en b ∧ Cr (vw d2) mid en b) := ⟨HT1.out.s3.of fun k q _ => B.out.2.2 k (.inr q), HT1.out.s4.of fun k q _ => B.out.2.2 k (.inr (by omega)), fun x y q1 q2 q3 q4 => by rw [B.out.2.2 x (.inr q1), B.out.2.2 y (.inr (by omega))]; exact HT1.out.c2 x y q1 q2 q3 q4⟩
                obtain ⟨d3, s3, c1, c2, c3, t3⟩ : ∃ d3 : Array Int, d3.size = d.size ∧ So wt (vw d3) mid b ∧ Sm (vw d2) (vw d3) mid b ∧ Of (vw d2) (vw d3) mid b ∧ SW (eN nn) w0 blk off d3 w3 := ⟨d2, s2, by have q := C3.out.1; rwa [show en = b by omega] at q, Sm.refl _ _ _, Of.refl _ _ _, T2.out⟩
                have E := Lib.hid (sym_done (by omega) (by omega) (by omega) (by omega) (by omega) (by omega) V1.out HT1.out B.out c1 c2 c3)
                have T3 := Lib.hid t3
                clear c1 c2 c3 t3
                go_wp2
                all_goals go_end0
                all_goals exact ⟨rfl, d3, s3, E.out.1, E.out.2.1, E.out.2.2, T3.out⟩
            · by_cases y3 : en < b
              · have g1 : (i : Int) < (m : Int) := by omega
                have g2 : (m : Int) < (en : Int) := by omega
                have g3 : ¬ (a : Int) < (i : Int) := by omega
                have g4 : (i : Int) < (mid : Int) := by omega
                have g5 : (mid : Int) < (en : Int) := by omega
                have g6 : (en : Int) < (b : Int) := by omega
                go_wp2_with fail
                refine (rot_any w0 d0 blk off cap i m en d wr _ R hs HS.out (by omega) (by omega) (by omega) hsz).mono ?_
                rintro e w2 ⟨rfl, d1, s1, v1, t1⟩
                have V1 := Lib.hid v1
                have T1 := Lib.hid t1
                clear v1 t1
                have HT1 : Hid (Tn wt (vw d1) a mid b i en) := by rw [Hid, V1.out]; exact HT.out
                obtain ⟨d2, s2, b1, b2, b3, t2⟩ : ∃ d2 : Array Int, d2.size = d.size ∧ So wt (vw d2) a mid ∧ Sm (vw d1) (vw d2) a mid ∧ Of (vw d1) (vw d2) a mid ∧ SW (eN nn) w0 blk off d2 w2 := ⟨d1, s1, by have q := HT1.out.s2; rwa [show i = a by omega] at q, Sm.refl _ _ _, Of.refl _ _ _, T1.out⟩
                have B := Lib.hid (show So wt (vw d2) a mid ∧ Sm (vw d1) (vw d2) a mid ∧ Of (vw d1) (vw d2) a mid from ⟨b1, b2, b3⟩)
                have T2 := Lib.hid t2
                clear b1 b2 b3 t2
                have C3 : Hid (So wt (vw d2) mid en ∧ So wt (vw d2) en b ∧ Cr (vw d2) mid en b) := ⟨HT1.out.s3.of fun k q _ => B.out.2.2 k (.inr q), HT1.out.s4.of fun k q _ => B.out.2.2 k (.inr (by omega)), fun x y q1 q2 q3 q4 => by rw [B.out.2.2 x (.inr q1), B.out.2.2 y (.inr (by omega))]; exact HT1.out.c2 x y q1 q2 q3 q4⟩
                have q3 := IH.out cap mid en b d2 w2 (by omega) (by omega) (by omega) (by omega) (by omega) T2.out C3.out.1 C3.out.2.1 C3.out.2.2
                rw [s2] at q3
                have Q3 := Lib.hid q3
                clear q3
                go_wp2_with fail
                refine Q3.out.mono ?_
                rintro e w4 ⟨rfl, d3, s3, c1, c2, c3, t3⟩
                have E := Lib.hid (sym_done (by omega) (by omega) (by omega) (by omega) (by omega) (by omega) V1.out HT1.out B.out c1 c2 c3)
                have T3 := Lib.hid t3
                clear c1 c2 c3 t3
                go_wp2
                all_goals go_end0
                all_goals exact ⟨rfl, d3, s3, E.out.1, E.out.2.1, E.out.2.2, T3.out⟩
              · have g1 : (i : Int) < (m : Int) := by omega
                have g2 : (m : Int) < (en : Int) := by omega
                have g3 : ¬ (a : Int) < (i : Int) := by omega
                have g4 : (i : Int) < (mid : Int) := by omega
                have g5 : (mid : Int) < (en : Int) := by omega
                have g6 : ¬ (en : Int) < (b : Int) := by omega
                go_wp2_with fail
                refine (rot_any w0 d0 blk off cap i m en d wr _ R hs HS.out (by omega) (by omega) (by omega) hsz).mono ?_
                rintro e w2 ⟨rfl, d1, s1, v1, t1⟩
                have V1 := Lib.hid v1
                have T1 := Lib.hid t1
                clear v1 t1
                have HT1 : Hid (Tn wt (vw d1) a mid b i en) := by rw [Hid, V1.out]; exact HT.out
                obtain ⟨d2, s2, b1, b2, b3, t2⟩ : ∃ d2 : Array Int, d2.size = d.size ∧ So wt (vw d2) a mid ∧ Sm (vw d1) (vw d2) a mid ∧ Of (vw d1) (vw d2) a mid ∧ SW (eN nn) w0 blk off d2 w2 := ⟨d1, s1, by have q := HT1.out.s2; rwa [show i = a by omega] at q, Sm.refl _ _ _, Of.refl _ _ _, T1.out⟩
                have B := Lib.hid (show So wt (vw d2) a mid ∧ Sm (vw d1) (vw d2) a mid ∧ Of (vw d1) (vw d2) a mid from ⟨b1, b2, b3⟩)
                have T2 := Lib.hid t2
                clear b1 b2 b3 t2
                have C3 : Hid (So wt (vw d2) mid en ∧ So wt (vw d2) en b ∧ Cr (vw d2) mid en b) := ⟨HT1.out.s3.of fun k q _ => B.out.2.2 k (.inr q), HT1.out.s4.of fun k q _ => B.out.2.2 k (.inr (by omega)), fun x y q1 q2 q3 q4 => by rw [B.out.2.2 x (.inr q1), B.out.2.2 y (.inr (by omega))]; exact HT1.out.c2 x y q1 q2 q3 q4⟩
                obtain ⟨d3, s3, c1, c2, c3, t3⟩ : ∃ d3 : Array Int, d3.size = d.size ∧ So wt (vw d3) mid b ∧ Sm (vw d2) (vw d3) mid b ∧ Of (vw d2) (vw d3) mid b ∧ SW (eN nn) w0 blk off d3 w2 := ⟨d2, s2, by have q := C3.out.1; rwa [show en = b by omega] at q, Sm.refl _ _ _, Of.refl _ _ _, T2.out⟩
                have E := Lib.hid (sym_done (by omega) (by omega) (by omega) (by omega) (by omega) (by omega) V1.out HT1.out B.out c1 c2 c3)
                have T3 := Lib.hid t3
                clear c1 c2 c3 t3
                go_wp2
                all_goals go_end0
                all_goals exact ⟨rfl, d3, s3, E.out.1, E.out.2.1, E.out.2.2, T3.out⟩
          · by_cases y2 : a < i
            · by_cases y3 : en < b
              · have g1 : (i : Int) < (m : Int) := by omega
                have g2 : ¬ (m : Int) < (en : Int) := by omega
                have g3 : (a : Int) < (i : Int) := by omega
                have g4 : ¬ (i : Int) < (mid : Int) := by omega
                have g5 : (mid : Int) < (en : Int) := by omega
                have g6 : (en : Int) < (b : Int) := by omega
                obtain ⟨d1, s1, v1, t1⟩ : ∃ d1 : Array Int, d1.size = d.size ∧ vw d1 = rot (vw d) i m en ∧ SW (eN nn) w0 blk off d1 wr := ⟨d, rfl, (rot_none _ (by omega) (by omega) (by omega)).symm, HS.out⟩
                have V1 := Lib.hid v1
                have T1 := Lib.hid t1
                clear v1 t1
                have HT1 : Hid (Tn wt (vw d1) a mid b i en) := by rw [Hid, V1.out]; exact HT.out
                obtain ⟨d2, s2, b1, b2, b3, t2⟩ : ∃ d2 : Array Int, d2.size = d.size ∧ So wt (vw d2) a mid ∧ Sm (vw d1) (vw d2) a mid ∧ Of (vw d1) (vw d2) a mid ∧ SW (eN nn) w0 blk off d2 wr := ⟨d1, s1, by have q := HT1.out.s1; rwa [show i = mid by omega] at q, Sm.refl _ _ _, Of.refl _ _ _, T1.out⟩
                have B := Lib.hid (show So wt (vw d2) a mid ∧ Sm (vw d1) (vw d2) a mid ∧ Of (vw d1) (vw d2) a mid from ⟨b1, b2, b3⟩)
                have T2 := Lib.hid t2
                clear b1 b2 b3 t2
                have C3 : Hid (So wt (vw d2) mid en ∧ So wt (vw d2) en b ∧ Cr (vw d2) mid en b) := ⟨HT1.out.s3.of fun k q _ => B.out.2.2 k (.inr q), HT1.out.s4.of fun k q _ => B.out.2.2 k (.inr (by omega)), fun x y q1 q2 q3 q4 => by rw [B.out.2.2 x (.inr q1), B.out.2.2 y (.inr (by omega))]; exact HT1.out.c2 x y q1 q2 q3 q4⟩
                have q3 := IH.out cap mid en b d2 wr (by omega) (by omega) (by omega) (by omega) (by omega) T2.out C3.out.1 C3.out.2.1 C3.out.2.2
                rw [s2] at q3
                have Q3 := Lib.hid q3
                clear q3
                go_wp2_with fail
                refine Q3.out.mono ?_
                rintro e w4 ⟨rfl, d3, s3, c1, c2, c3, t3⟩
                have E := Lib.hid (sym_done (by omega) (by omega) (by omega) (by omega) (by omega) (by omega) V1.out HT1.out B.out c1 c2 c3)
                have T3 := Lib.hid t3
                clear c1 c2 c3 t3
                go_wp2
                all_goals go_end0
                all_goals exact ⟨rfl, d3, s3, E.out.1, E.out.2.1, E.out.2.2, T3.out⟩
              · have g1 : (i : Int) < (m : Int) := by omega
                have g2 : ¬ (m : Int) < (en : Int) := by omega
                have g3 : (a : Int) < (i : Int) := by omega
                have g4 : ¬ (i : Int) < (mid : Int) := by omega
                have g5 : (mid : Int) < (en : Int) := by omega
                have g6 : ¬ (en : Int) < (b : Int) := by omega
                obtain ⟨d1, s1, v1, t1⟩ : ∃ d1 : Array Int, d1.size = d.size ∧ vw d1 = rot (vw d) i m en ∧ SW (eN nn) w0 blk off d1 wr := ⟨d, rfl, (rot_none _ (by omega) (by omega) (by omega)).symm, HS.out⟩
                have V1 := Lib.hid v1
                have T1 := Lib.hid t1
                clear v1 t1
                have HT1 : Hid (Tn wt (vw d1) a mid b i en) := by rw [Hid, V1.out]; exact HT.out
                obtain ⟨d2, s2, b1, b2, b3, t2⟩ : ∃ d2 : Array Int, d2.size = d.size ∧ So wt (vw d2) a mid ∧ Sm (vw d1) (vw d2) a mid ∧ Of (vw d1) (vw d2) a mid ∧ SW (eN nn) w0 blk off d2 wr := ⟨d1, s1, by have q := HT1.out.s1; rwa [show i = mid by omega] at q, Sm.refl _ _ _, Of.refl _ _ _, T1.out⟩
                have B := Lib.hid (show So wt (vw d2) a mid ∧ Sm (vw d1) (vw d2) a mid ∧ Of (vw d1) (vw d2) a mid from ⟨b1, b2, b3⟩)
                have T2 := Lib.hid t2
                clear b1 b2 b3 t2
                have C3 : Hid (So wt (vw d2) mid en ∧ So wt (vw d2) en b ∧ Cr (vw d2) mid en b) := ⟨HT1.out.s3.of fun k q _ => B.out.2.2 k (.inr q), HT1.out.s4.of fun k q _ => B.out.2.2 k (.inr (by omega)), fun x y q1 q2 q3 q4 => by rw [B.out.2.2 x (.inr q1), B.out.2.2 y (.inr (by omega))]; exact HT1.out.c2 x y q1 q2 q3 q4⟩
                obtain ⟨d3, s3, c1, c2, c3, t3⟩ : ∃ d3 : Array Int, d3.size = d.size ∧ So wt (vw d3) mid b ∧ Sm (vw d2) (vw d3) mid b ∧ Of (vw d2) (vw d3) mid b ∧ SW (eN nn) w0 blk off d3 wr := ⟨d2, s2, by have q := C3.out.1; rwa [show en = b by omega] at q, Sm.refl _ _ _, Of.refl _ _ _, T2.out⟩
                have E := Lib.hid (sym_done (by omega) (by omega) (by omega) (by omega) (by omega) (by omega) V1.out HT1.out B.out c1 c2 c3)
                have T3 := Lib.hid t3
                clear c1 c2 c3 t3
                go_wp2
                all_goals go_end0
                all_goals exact ⟨rfl, d3, s3, E.out.1, E.out.2.1, E.out.2.2, T3.out⟩
            · by_cases y3 : en < b
              · have g1 : (i : Int) < (m : Int) := by omega
                have g2 : ¬ (m : Int) < (en : Int) := by omega
                have g3 : ¬ (a : Int) < (i : Int) := by omega
                have g4 : ¬ (i : Int) < (mid : Int) := by omega
                have g5 : (mid : Int) < (en : Int) := by omega
                have g6 : (en : Int) < (b : Int) := by omega
                obtain ⟨d1, s1, v1, t1⟩ : ∃ d1 : Array Int, d1.size = d.size ∧ vw d1 = rot (vw d) i m en ∧ SW (eN nn) w0 blk off d1 wr := ⟨d, rfl, (rot_none _ (by omega) (by omega) (by omega)).symm, HS.out⟩
                have V1 := Lib.hid v1
                have T1 := Lib.hid t1
                clear v1 t1
                have HT1 : Hid (Tn wt (vw d1) a mid b i en) := by rw [Hid, V1.out]; exact HT.out
                obtain ⟨d2, s2, b1, b2, b3, t2⟩ : ∃ d2 : Array Int, d2.size = d.size ∧ So wt (vw d2) a mid ∧ Sm (vw d1) (vw d2) a mid ∧ Of (vw d1) (vw d2) a mid ∧ SW (eN nn) w0 blk off d2 wr := ⟨d1, s1, by have q := HT1.out.s2; rwa [show i = a by omega] at q, Sm.refl _ _ _, Of.refl _ _ _, T1.out⟩
                have B := Lib.hid (show So wt (vw d2) a mid ∧ Sm (vw d1) (vw d2) a mid ∧ Of (vw d1) (vw d2) a mid from ⟨b1, b2, b3⟩)
                have T2 := Lib.hid t2
                clear b1 b2 b3 t2
                have C3 : Hid (So wt (vw d2) mid en ∧ So wt (vw d2) en b ∧ Cr (vw d2) mid en b) := ⟨HT1.out.s3.of fun k q _ => B.out.2.2 k (.inr q), HT1.out.s4.of fun k q _ => B.out.2.2 k (.inr (by omega)), fun x y q1 q2 q3 q4 => by rw [B.out.2.2 x (.inr q1), B.out.2.2 y (.inr (by omega))]; exact HT1.out.c2 x y q1 q2 q3 q4⟩
                have q3 := IH.out cap mid en b d2 wr (by omega) (by omega) (by omega) (by omega) (by omega) T2.out C3.out.1 C3.out.2.1 C3.out.2.2
                rw [s2] at q3
                have Q3 := Lib.hid q3
                clear q3
                go_wp2_with fail
                refine Q3.out.mono ?_
                rintro e w4 ⟨rfl, d3, s3, c1, c2, c3, t3⟩
                have E := Lib.hid (sym_done (by omega) (by omega) (by omega) (by omega) (by omega) (by omega) V1.out HT1.out B.out c1 c2 c3)
                have T3 := Lib.hid t3
                clear c1 c2 c3 t3
                go_wp2
                all_goals go_end0
                all_goals exact ⟨rfl, d3, s3, E.out.1, E.out.2.1, E.out.2.2, T3.out⟩
              · have g1 : (i : Int) < (m : Int) := by omega
                have g2 : ¬ (m : Int) < (en : Int) := by omega
                have g3 : ¬ (a : Int) < (i : Int) := by omega
                have g4 : ¬ (i : Int) < (mid : Int) := by omega
                have g5 : (mid : Int) < (en : Int) := by omega
                have g6 : ¬ (en : Int) < (b : Int) := by omega
                obtain ⟨d1, s1, v1, t1⟩ : ∃ d1 : Array Int, d1.size = d.size ∧ vw d1 = rot (vw d) i m en ∧ SW (eN nn) w0 blk off d1 wr := ⟨d, rfl, (rot_none _ (by omega) (by omega) (by omega)).symm, HS.out⟩
                have V1 := Lib.hid v1
                have T1 := Lib.hid t1
                clear v1 t1
                have HT1 : Hid (Tn wt (vw d1) a mid b i en) := by rw [Hid, V1.out]; exact HT.out
                obtain ⟨d2, s2, b1, b2, b3, t2⟩ : ∃ d2 : Array Int, d2.size = d.size ∧ So wt (vw d2) a mid ∧ Sm (vw d1) (vw d2) a mid ∧ Of (vw d1) (vw d2) a mid ∧ SW (eN nn) w0 blk off d2 wr := ⟨d1, s1, by have q := HT1.out.s2; rwa [show i = a by omega] at q, Sm.refl _ _ _, Of.refl _ _ _, T1.out⟩
                have B := Lib.hid (show So wt (vw d2) a mid ∧ Sm (vw d1) (vw d2) a mid ∧ Of (vw d1) (vw d2) a mid from ⟨b1, b2, b3⟩)
                have T2 := Lib.hid t2
                clear b1 b2 b3 t2
                have C3 : Hid (So wt (vw d2) mid en ∧ So wt (vw d2) en b ∧ Cr (vw d2) mid en b) := ⟨HT1.out.s3.of fun k q _ => B.out.2.2 k (.inr q), HT1.out.s4.of fun k q _ => B.out.2.2 k (.inr (by omega)), fun x y q1 q2 q3 q4 => by rw [B.out.2.2 x (.inr q1), B.out.2.2 y (.inr (by omega))]; exact HT1.out.c2 x y q1 q2 q3 q4⟩
                obtain ⟨d3, s3, c1, c2, c3, t3⟩ : ∃ d3 : Array Int, d3.size = d.size ∧ So wt (vw d3) mid b ∧ Sm (vw d2) (vw d3) mid b ∧ Of (vw d2) (vw d3) mid b ∧ SW (eN nn) w0 blk off d3 wr := ⟨d2, s2, by have q := C3.out.1; rwa [show en = b by omega] at q, Sm.refl _ _ _, Of.refl _ _ _, T2.out⟩
                have E := Lib.hid (sym_done (by omega) (by omega) (by omega) (by omega) (by omega) (by omega) V1.out HT1.out B.out c1 c2 c3)
                have T3 := Lib.hid t3
                clear c1 c2 c3 t3
                go_wp2
                all_goals go_end0
                all_goals exact ⟨rfl, d3, s3, E.out.1, E.out.2.1, E.out.2.2, T3.out⟩
        · by_cases y1 : m < en
          · by_cases y2 : a < i
            · by_cases y3 : en < b
              · have g1 : ¬ (i : Int) < (m : Int) := by omega
                have g2 : (m : Int) < (en : Int) := by omega
                have g3 : (a : Int) < (i : Int) := by omega
                have g4 : (i : Int) < (mid : Int) := by omega
                have g5 : ¬ (mid : Int) < (en : Int) := by omega
                have g6 : (en : Int) < (b : Int) := by omega
                obtain ⟨d1, s1, v1, t1⟩ : ∃ d1 : Array Int, d1.size = d.size ∧ vw d1 = rot (vw d) i m en ∧ SW (eN nn) w0 blk off d1 wr := ⟨d, rfl, (rot_none _ (by omega) (by omega) (by omega)).symm, HS.out⟩
                have V1 := Lib.hid v1
                have T1 := Lib.hid t1
                clear v1 t1
                have HT1 : Hid (Tn wt (vw d1) a mid b i en) := by rw [Hid, V1.out]; exact HT.out
                have q2 := IH.out cap a i mid d1 wr (by omega) (by omega) (by omega) (by omega) (by omega) T1.out HT1.out.s1 HT1.out.s2 HT1.out.c1
                rw [s1] at q2
                have Q2 := Lib.hid q2
                clear q2
                go_wp2_with fail
                refine Q2.out.mono ?_
                rintro e w3 ⟨rfl, d2, s2, b1, b2, b3, t2⟩
                have B := Lib.hid (show So wt (vw d2) a mid ∧ Sm (vw d1) (vw d2) a mid ∧ Of (vw d1) (vw d2) a mid from ⟨b1, b2, b3⟩)
                have T2 := Lib.hid t2
                clear b1 b2 b3 t2
                have C3 : Hid (So wt (vw d2) mid en ∧ So wt (vw d2) en b ∧ Cr (vw d2) mid en b) := ⟨HT1.out.s3.of fun k q _ => B.out.2.2 k (.inr q), HT1.out.s4.of fun k q _ => B.out.2.2 k (.inr (by omega)), fun x y q1 q2 q3 q4 => by rw [B.out.2.2 x (.inr q1), B.out.2.2 y (.inr (by omega))]; exact HT1.out.c2 x y q1 q2 q3 q4⟩
                obtain ⟨d3, s3, c1, c2, c3, t3⟩ : ∃ d3 : Array Int, d3.size = d.size ∧ So wt (vw d3) mid b ∧ Sm (vw d2) (vw d3) mid b ∧ Of (vw d2) (vw d3) mid b ∧ SW (eN nn) w0 blk off d3 w3 := ⟨d2, s2, by have q := C3.out.2.1; rwa [show en = mid by omega] at q, Sm.refl _ _ _, Of.refl _ _ _, T2.out⟩
                have E := Lib.hid (sym_done (by omega) (by omega) (by omega) (by omega) (by omega) (by omega) V1.out HT1.out B.out c1 c2 c3)
                have T3 := Lib.hid t3
                clear c1 c2 c3 t3
                go_wp2
                all_goals go_end0
                all_goals exact ⟨rfl, d3, s3, E.out.1, E.out.2.1, E.out.2.2, T3.out⟩
              · have g1 : ¬ (i : Int) < (m : Int) := by omega
                have g2 : (m : Int) < (en : Int) := by omega
                have g3 : (a : Int) < (i : Int) := by omega
                have g4 : (i : Int) < (mid : Int) := by omega
                have g5 : ¬ (mid : Int) < (en : Int) := by omega
                have g6 : ¬ (en : Int) < (b : Int) := by omega
                obtain ⟨d1, s1, v1, t1⟩ : ∃ d1 : Array Int, d1.size = d.size ∧ vw d1 = rot (vw d) i m en ∧ SW (eN nn) w0 blk off d1 wr := ⟨d, rfl, (rot_none _ (by omega) (by omega) (by omega)).symm, HS.out⟩
                have V1 := Lib.hid v1
                have T1 := Lib.hid t1
                clear v1 t1
                have HT1 : Hid (Tn wt (vw d1) a mid b i en) := by rw [Hid, V1.out]; exact HT.out
                have q2 := IH.out cap a i mid d1 wr (by omega) (by omega) (by omega) (by omega) (by omega) T1.out HT1.out.s1 HT1.out.s2 HT1.out.c1
                rw [s1] at q2
                have Q2 := Lib.hid q2
                clear q2
                go_wp2_with fail
                refine Q2.out.mono ?_
                rintro e w3 ⟨rfl, d2, s2, b1, b2, b3, t2⟩
                have B := Lib.hid (show So wt (vw d2) a mid ∧ Sm (vw d1) (vw d2) a mid ∧ Of (vw d1) (vw d2) a mid from ⟨b1, b2, b3⟩)
                have T2 := Lib.hid t2
                clear b1 b2 b3 t2
                have C3 : Hid (So wt (vw d2) mid en ∧ So wt (vw d2) en b ∧ Cr (vw d2) mid en b) := ⟨HT1.out.s3.of fun k q _ => B.out.2.2 k (.inr q), HT1.out.s4.of fun k q _ => B.out.2.2 k (.inr (by omega)), fun x y q1 q2 q3 q4 => by rw [B.out.2.2 x (.inr q1), B.out.2.2 y (.inr (by omega))]; exact HT1.out.c2 x y q1 q2 q3 q4⟩
                obtain ⟨d3, s3, c1, c2, c3, t3⟩ : ∃ d3 : Array Int, d3.size = d.size ∧ So wt (vw d3) mid b ∧ Sm (vw d2) (vw d3) mid b ∧ Of (vw d2) (vw d3) mid b ∧ SW (eN nn) w0 blk off d3 w3 := ⟨d2, s2, by have q := C3.out.2.1; rwa [show en = mid by omega] at q, Sm.refl _ _ _, Of.refl _ _ _, T2.out⟩
                have E := Lib.hid (sym_done (by omega) (by omega) (by omega) (by omega) (by omega) (by omega) V1.out HT1.out B.out c1 c2 c3)
                have T3 := Lib.hid t3
                clear c1 c2 c3 t3
                go_wp2
                all_goals go_end0
                all_goals exact ⟨rfl, d3, s3, E.out.1, E.out.2.1, E.out.2.2, T3.out⟩
            · by_cases y3 : en < b
              · have g1 : ¬ (i : Int) < (m : Int) := by omega
                have g2 : (m : Int) < (en : Int) := by omega
                have g3 : ¬ (a : Int) < (i : Int) := by omega
                have g4 : (i : Int) < (mid : Int) := by omega
                have g5 : ¬ (mid : Int) < (en : Int) := by omega
                have g6 : (en : Int) < (b : Int) := by omega
                obtain ⟨d1, s1, v1, t1⟩ : ∃ d1 : Array Int, d1.size = d.size ∧ vw d1 = rot (vw d) i m en ∧ SW (eN nn) w0 blk off d1 wr := ⟨d, rfl, (rot_none _ (by omega) (by omega) (by omega)).symm, HS.out⟩
                have V1 := Lib.hid v1
                have T1 := Lib.hid t1
                clear v1 t1
                have HT1 : Hid (Tn wt (vw d1) a mid b i en) := by rw [Hid, V1.out]; exact HT.out
                obtain ⟨d2, s2, b1, b2, b3, t2⟩ : ∃ d2 : Array Int, d2.size = d.size ∧ So wt (vw d2) a mid ∧ Sm (vw d1) (vw d2) a mid ∧ Of (vw d1) (vw d2) a mid ∧ SW (eN nn) w0 blk off d2 wr := ⟨d1, s1, by have q := HT1.out.s2; rwa [show i = a by omega] at q, Sm.refl _ _ _, Of.refl _ _ _, T1.out⟩
                have B := Lib.hid (show So wt (vw d2) a mid ∧ Sm (vw d1) (vw d2) a mid ∧ Of (vw d1) (vw d2) a mid from ⟨b1, b2, b3⟩)
                have T2 := Lib.hid t2
                clear b1 b2 b3 t2
                have C3 : Hid (So wt (vw d2) mid en ∧ So wt (vw d2) en b ∧ Cr (vw d2) mid en b) := ⟨HT1.out.s3.of fun k q _ => B.out.2.2 k (.inr q), HT1.out.s4.of fun k q _ => B.out.2.2 k (.inr (by omega)), fun x y q1 q2 q3 q4 => by rw [B.out.2.2 x (.inr q1), B.out.2.2 y (.inr (by omega))]; exact HT1.out.c2 x y q1 q2 q3 q4⟩
                obtain ⟨d3, s3, c1, c2, c3, t3⟩ : ∃ d3 : Array Int, d3.size = d.size ∧ So wt (vw d3) mid b ∧ Sm (vw d2) (vw d3) mid b ∧ Of (vw d2) (vw d3) mid b ∧ SW (eN nn) w0 blk off d3 wr := ⟨d2, s2, by have q := C3.out.2.1; rwa [show en = mid by omega] at q, Sm.refl _ _ _, Of.refl _ _ _, T2.out⟩
                have E := Lib.hid (sym_done (by omega) (by omega) (by omega) (by omega) (by omega) (by omega) V1.out HT1.out B.out c1 c2 c3)
                have T3 := Lib.hid t3
                clear c1 c2 c3 t3
                go_wp2
                all_goals go_end0
                all_goals exact ⟨rfl, d3, s3, E.out.1, E.out.2.1, E.out.2.2, T3.out⟩
              · have g1 : ¬ (i : Int) < (m : Int) := by omega
                have g2 : (m : Int) < (en : Int) := by omega
                have g3 : ¬ (a : Int) < (i : Int) := by omega
                have g4 : (i : Int) < (mid : Int) := by omega
                have g5 : ¬ (mid : Int) < (en : Int) := by omega
                have g6 : ¬ (en : Int) < (b : Int) := by omega
                obtain ⟨d1, s1, v1, t1⟩ : ∃ d1 : Array Int, d1.size = d.size ∧ vw d1 = rot (vw d) i m en ∧ SW (eN nn) w0 blk off d1 wr := ⟨d, rfl, (rot_none _ (by omega) (by omega) (by omega)).symm, HS.out⟩
                have V1 := Lib.hid v1
                have T1 := Lib.hid t1
                clear v1 t1
                have HT1 : Hid (Tn wt (vw d1) a mid b i en) := by rw [Hid, V1.out]; exact HT.out
                obtain ⟨d2, s2, b1, b2, b3, t2⟩ : ∃ d2 : Array Int, d2.size = d.size ∧ So wt (vw d2) a mid ∧ Sm (vw d1) (vw d2) a mid ∧ Of (vw d1) (vw d2) a mid ∧ SW (eN nn) w0 blk off d2 wr := ⟨d1, s1, by have q := HT1.out.s2; rwa [show i = a by omega] at q, Sm.refl _ _ _, Of.refl _ _ _, T1.out⟩
                have B := Lib.hid (show So wt (vw d2) a mid ∧ Sm (vw d1) (vw d2) a mid ∧ Of (vw d1) (vw d2) a mid from ⟨b1, b2, b3⟩)
                have T2 := Lib.hid t2
                clear b1 b2 b3 t2
                have C3 : Hid (So wt (vw d2) mid en ∧ So wt (vw d2) en b ∧ Cr (vw d2) mid en b) := ⟨HT1.out.s3.of fun k q _ => B.out.2.2 k (.inr q), HT1.out.s4.of fun k q _ => B.out.2.2 k (.inr (by omega)), fun x y q1 q2 q3 q4 => by rw [B.out.2.2 x (.inr q1), B.out.2.2 y (.inr (by omega))]; exact HT1.out.c2 x y q1 q2 q3 q4⟩
                obtain ⟨d3, s3, c1, c2, c3, t3⟩ : ∃ d3 : Array Int, d3.size = d.size ∧ So wt (vw d3) mid b ∧ Sm (vw d2) (vw d3) mid b ∧ Of (vw d2) (vw d3) mid b ∧ SW (eN nn) w0 blk off d3 wr := ⟨d2, s2, by have q := C3.out.2.1; rwa [show en = mid by omega] at q, Sm.refl _ _ _, Of.refl _ _ _, T2.out⟩
                have E := Lib.hid (sym_done (by omega) (by omega) (by omega) (by omega) (by omega) (by omega) V1.out HT1.out B.out c1 c2 c3)
                have T3 := Lib.hid t3
                clear c1 c2 c3 t3
                go_wp2
                all_goals go_end0
                all_goals exact ⟨rfl, d3, s3, E.out.1, E.out.2.1, E.out.2.2, T3.out⟩
          · by_cases y2 : a < i
            · by_cases y3 : en < b
              · have g1 : ¬ (i : Int) < (m : Int) := by omega
                have g2 : ¬ (m : Int) < (en : Int) := by omega
                have g3 : (a : Int) < (i : Int) := by omega
                have g4 : ¬ (i : Int) < (mid : Int) := by omega
                have g5 : ¬ (mid : Int) < (en : Int) := by omega
                have g6 : (en : Int) < (b : Int) := by omega
                obtain ⟨d1, s1, v1, t1⟩ : ∃ d1 : Array Int, d1.size = d.size ∧ vw d1 = rot (vw d) i m en ∧ SW (eN nn) w0 blk off d1 wr := ⟨d, rfl, (rot_none _ (by omega) (by omega) (by omega)).symm, HS.out⟩
                have V1 := Lib.hid v1
                have T1 := Lib.hid t1
                clear v1 t1
                have HT1 : Hid (Tn wt (vw d1) a mid b i en) := by rw [Hid, V1.out]; exact HT.out
                obtain ⟨d2, s2, b1, b2, b3, t2⟩ : ∃ d2 : Array Int, d2.size = d.size ∧ So wt (vw d2) a mid ∧ Sm (vw d1) (vw d2) a mid ∧ Of (vw d1) (vw d2) a mid ∧ SW (eN nn) w0 blk off d2 wr := ⟨d1, s1, by have q := HT1.out.s1; rwa [show i = mid by omega] at q, Sm.refl _ _ _, Of.refl _ _ _, T1.out⟩
                have B := Lib.hid (show So wt (vw d2) a mid ∧ Sm (vw d1) (vw d2) a mid ∧ Of (vw d1) (vw d2) a mid from ⟨b1, b2, b3⟩)
                have T2 := Lib.hid t2
                clear b1 b2 b3 t2
                have C3 : Hid (So wt (vw d2) mid en ∧ So wt (vw d2) en b ∧ Cr (vw d2) mid en b) := ⟨HT1.out.s3.of fun k q _ => B.out.2.2 k (.inr q), HT1.out.s4.of fun k q _ => B.out.2.2 k (.inr (by omega)), fun x y q1 q2 q3 q4 => by rw [B.out.2.2 x (.inr q1), B.out.2.2 y (.inr (by omega))]; exact HT1.out.c2 x y q1 q2 q3 q4⟩
                obtain ⟨d3, s3, c1, c2, c3, t3⟩ : ∃ d3 : Array Int, d3.size = d.size ∧ So wt (vw d3) mid b ∧ Sm (vw d2) (vw d3) mid b ∧ Of (vw d2) (vw d3) mid b ∧ SW (eN nn) w0 blk off d3 wr := ⟨d2, s2, by have q := C3.out.2.1; rwa [show en = mid by omega] at q, Sm.refl _ _ _, Of.refl _ _ _, T2.out⟩
                have E := Lib.hid (sym_done (by omega) (by omega) (by omega) (by omega) (by omega) (by omega) V1.out HT1.out B.out c1 c2 c3)
                have T3 := Lib.hid t3
                clear c1 c2 c3 t3
                go_wp2
                all_goals go_end0
                all_goals exact ⟨rfl, d3, s3, E.out.1, E.out.2.1, E.out.2.2, T3.out⟩
              · have g1 : ¬ (i : Int) < (m : Int) := by omega
                have g2 : ¬ (m : Int) < (en : Int) := by omega
                have g3 : (a : Int) < (i : Int) := by omega
                have g4 : ¬ (i : Int) < (mid : Int) := by omega
                have g5 : ¬ (mid : Int) < (en : Int) := by omega
                have g6 : ¬ (en : Int) < (b : Int) := by omega
                obtain ⟨d1, s1, v1, t1⟩ : ∃ d1 : Array Int, d1.size = d.size ∧ vw d1 = rot (vw d) i m en ∧ SW (eN nn) w0 blk off d1 wr := ⟨d, rfl, (rot_none _ (by omega) (by omega) (by omega)).symm, HS.out⟩
                have V1 := Lib.hid v1
                have T1 := Lib.hid t1
                clear v1 t1
                have HT1 : Hid (Tn wt (vw d1) a mid b i en) := by rw [Hid, V1.out]; exact HT.out
                obtain ⟨d2, s2, b1, b2, b3, t2⟩ : ∃ d2 : Array Int, d2.size = d.size ∧ So wt (vw d2) a mid ∧ Sm (vw d1) (vw d2) a mid ∧ Of (vw d1) (vw d2) a mid ∧ SW (eN nn) w0 blk off d2 wr := ⟨d1, s1, by have q := HT1.out.s1; rwa [show i = mid by omega] at q, Sm.refl _ _ _, Of.refl _ _ _, T1.out⟩
                have B := Lib.hid (show So wt (vw d2) a mid ∧ Sm (vw d1) (vw d2) a mid ∧ Of (vw d1) (vw d2) a mid from ⟨b1, b2, b3⟩)
                have T2 := Lib.hid t2
                clear b1 b2 b3 t2
                have C3 : Hid (So wt (vw d2) mid en ∧ So wt (vw d2) en b ∧ Cr (vw d2) mid en b) := ⟨HT1.out.s3.of fun k q _ => B.out.2.2 k (.inr q), HT1.out.s4.of fun k q _ => B.out.2.2 k (.inr (by omega)), fun x y q1 q2 q3 q4 => by rw [B.out.2.2 x (.inr q1), B.out.2.2 y (.inr (by omega))]; exact HT1.out.c2 x y q1 q2 q3 q4⟩
                obtain ⟨d3, s3, c1, c2, c3, t3⟩ : ∃ d3 : Array Int, d3.size = d.size ∧ So wt (vw d3) mid b ∧ Sm (vw d2) (vw d3) mid b ∧ Of (vw d2) (vw d3) mid b ∧ SW (eN nn) w0 blk off d3 wr := ⟨d2, s2, by have q := C3.out.2.1; rwa [show en = mid by omega] at q, Sm.refl _ _ _, Of.refl _ _ _, T2.out⟩
                have E := Lib.hid (sym_done (by omega) (by omega) (by omega) (by omega) (by omega) (by omega) V1.out HT1.out B.out c1 c2 c3)
                have T3 := Lib.hid t3
                clear c1 c2 c3 t3
                go_wp2
                all_goals go_end0
                all_goals exact ⟨rfl, d3, s3, E.out.1, E.out.2.1, E.out.2.2, T3.out⟩
            · by_cases y3 : en < b
              · have g1 : ¬ (i : Int) < (m : Int) := by omega
                have g2 : ¬ (m : Int) < (en : Int) := by omega
                have g3 : ¬ (a : Int) < (i : Int) := by omega
                have g4 : ¬ (i : Int) < (mid : Int) := by omega
                have g5 : ¬ (mid : Int) < (en : Int) := by omega
                have g6 : (en : Int) < (b : Int) := by omega
                obtain ⟨d1, s1, v1, t1⟩ : ∃ d1 : Array Int, d1.size = d.size ∧ vw d1 = rot (vw d) i m en ∧ SW (eN nn) w0 blk off d1 wr := ⟨d, rfl, (rot_none _ (by omega) (by omega) (by omega)).symm, HS.out⟩
                have V1 := Lib.hid v1
                have T1 := Lib.hid t1
                clear v1 t1
                have HT1 : Hid (Tn wt (vw d1) a mid b i en) := by rw [Hid, V1.out]; exact HT.out
                obtain ⟨d2, s2, b1, b2, b3, t2⟩ : ∃ d2 : Array Int, d2.size = d.size ∧ So wt (vw d2) a mid ∧ Sm (vw d1) (vw d2) a mid ∧ Of (vw d1) (vw d2) a mid ∧ SW (eN nn) w0 blk off d2 wr := ⟨d1, s1, by have q := HT1.out.s2; rwa [show i = a by omega] at q, Sm.refl _ _ _, Of.refl _ _ _, T1.out⟩
                have B := Lib.hid (show So wt (vw d2) a mid ∧ Sm (vw d1) (vw d2) a mid ∧ Of (vw d1) (vw d2) a mid from ⟨b1, b2, b3⟩)
                have T2 := Lib.hid t2
                clear b1 b2 b3 t2
                have C3 : Hid (So wt (vw d2) mid en ∧ So wt (vw d2) en b ∧ Cr (vw d2) mid en b) := ⟨HT1.out.s3.of fun k q _ => B.out.2.2 k (.inr q), HT1.out.s4.of fun k q _ => B.out.2.2 k (.inr (by omega)), fun x y q1 q2 q3 q4 => by rw [B.out.2.2 x (.inr q1), B.out.2.2 y (.inr (by omega))]; exact HT1.out.c2 x y q1 q2 q3 q4⟩
                obtain ⟨d3, s3, c1, c2, c3, t3⟩ : ∃ d3 : Array Int, d3.size = d.size ∧ So wt (vw d3) mid b ∧ Sm (vw d2) (vw d3) mid b ∧ Of (vw d2) (vw d3) mid b ∧ SW (eN nn) w0 blk off d3 wr := ⟨d2, s2, by have q := C3.out.2.1; rwa [show en = mid by omega] at q, Sm.refl _ _ _, Of.refl _ _ _, T2.out⟩
                have E := Lib.hid (sym_done (by omega) (by omega) (by omega) (by omega) (by omega) (by omega) V1.out HT1.out B.out c1 c2 c3)
                have T3 := Lib.hid t3
                clear c1 c2 c3 t3
                go_wp2
                all_goals go_end0
                all_goals exact ⟨rfl, d3, s3, E.out.1, E.out.2.1, E.out.2.2, T3.out⟩
              · have g1 : ¬ (i : Int) < (m : Int) := by omega
                have g2 : ¬ (m : Int) < (en : Int) := by omega
                have g3 : ¬ (a : Int) < (i : Int) := by omega
                have g4 : ¬ (i : Int) < (mid : Int) := by omega
                have g5 : ¬ (mid : Int) < (en : Int) := by omega
                have g6 : ¬ (en : Int) < (b : Int) := by omega
                obtain ⟨d1, s1, v1, t1⟩ : ∃ d1 : Array Int, d1.size = d.size ∧ vw d1 = rot (vw d) i m en ∧ SW (eN nn) w0 blk off d1 wr := ⟨d, rfl, (rot_none _ (by omega) (by omega) (by omega)).symm, HS.out⟩
                have V1 := Lib.hid v1
                have T1 := Lib.hid t1
                clear v1 t1
                have HT1 : Hid (Tn wt (vw d1) a mid b i en) := by rw [Hid, V1.out]; exact HT.out
                obtain ⟨d2, s2, b1, b2, b3, t2⟩ : ∃ d2 : Array Int, d2.size = d.size ∧ So wt (vw d2) a mid ∧ Sm (vw d1) (vw d2) a mid ∧ Of (vw d1) (vw d2) a mid ∧ SW (eN nn) w0 blk off d2 wr := ⟨d1, s1, by have q := HT1.out.s2; rwa [show i = a by omega] at q, Sm.refl _ _ _, Of.refl _ _ _, T1.out⟩
                have B := Lib.hid (show So wt (vw d2) a mid ∧ Sm (vw d1) (vw d2) a mid ∧ Of (vw d1) (vw d2) a mid from ⟨b1, b2, b3⟩)
                have T2 := Lib.hid t2
                clear b1 b2 b3 t2
                have C3 : Hid (So wt (vw d2) mid en ∧ So wt (vw d2) en b ∧ Cr (vw d2) mid en b) := ⟨HT1.out.s3.of fun k q _ => B.out.2.2 k (.inr q), HT1.out.s4.of fun k q _ => B.out.2.2 k (.inr (by omega)), fun x y q1 q2 q3 q4 => by rw [B.out.2.2 x (.inr q1), B.out.2.2 y (.inr (by omega))]; exact HT1.out.c2 x y q1 q2 q3 q4⟩
                obtain ⟨d3, s3, c1, c2, c3, t3⟩ : ∃ d3 : Array Int, d3.size = d.size ∧ So wt (vw d3) mid b ∧ Sm (vw d2) (vw d3) mid b ∧ Of (vw d2) (vw d3) mid b ∧ SW (eN nn) w0 blk off d3 wr := ⟨d2, s2, by have q := C3.out.2.1; rwa [show en = mid by omega] at q, Sm.refl _ _ _, Of.refl _ _ _, T2.out⟩
                have E := Lib.hid (sym_done (by omega) (by omega) (by omega) (by omega) (by omega) (by omega) V1.out HT1.out B.out c1 c2 c3)
                have T3 := Lib.hid t3
                clear c1 c2 c3 t3
                go_wp2
                all_goals go_end0
                all_goals exact ⟨rfl, d3, s3, E.out.1, E.out.2.1, E.out.2.2, T3.out⟩
  · have cz : ¬ (mid : Int) < (m : Int) := by omega
    obtain ⟨lo, hlo⟩ : ∃ lo, lo = a := ⟨_, rfl⟩
    obtain ⟨hi, hhi⟩ : ∃ hi, hi = m := ⟨_, rfl⟩
    have e1 : lo = a ∨ lo + b = mid + m := by omega
    have e2 : hi = m ∨ hi = mid := by omega
    have f1 : a ≤ lo ∧ lo ≤ hi ∧ hi ≤ m ∧ hi ≤ mid ∧ mid + m ≤ b + lo := by omega
    go_wp2
    go_loopw [20, 21, 23] (fun vi vj _ wr => ∃ (i j : Nat), vi = .int .i64 i ∧ vj = .int .i64 j ∧ lo ≤ i ∧ i ≤ j ∧ j ≤ hi ∧ Hid (∀ c, lo ≤ c → c < i → lx wt (vw d c) (vw d (mid + m - 1 - c))) ∧ Hid (∀ c, j ≤ c → c < hi → lx wt (vw d (mid + m - 1 - c)) (vw d c)) ∧ Hid (SW (eN nn) w0 blk off d wr)) (fun vi vj _ _ => (intOf vj).toNat - (intOf vi).toNat)
    case atStart => exact ⟨lo, hi, by first | rfl | (rw [hlo]), by first | rfl | (rw [hhi]), by omega, by omega, by omega, fun k _ _ => by omega, fun k _ _ => by omega, S0.out⟩
    case round =>
      clear S0
      obtain ⟨i, j, rfl, rfl, h1, h2, h3, HL, HR, HS⟩ := hrel
      by_cases c : i < j
      · have hlt : (i : Int) < (j : Int) := by omega
        have rs : IntKind.i64.wrap ((i : Int) + (j : Int)) = ((i + j : Nat) : Int) := (IntWalk.i64_in _ (by omega)).trans (by omega)
        obtain ⟨h, hh⟩ : ∃ h : Nat, (i + j) / 2 = h := ⟨_, rfl⟩
        have hz2 : ((i : Int) + (j : Int)) / 2 = (h : Int) := by omega
        obtain ⟨e, he⟩ : ∃ e, e + h = p0 := ⟨p0 - h, by omega⟩
        have hpe : mid + m - 1 - h = e := by omega
        have re : IntKind.i64.wrap ((p0 : Int) - (h : Int)) = (e : Int) := (IntWalk.i64_in _ (by omega)).trans (by omega)
        go_wp2_with fail
        have bh : (h : Int) < (d.size : Int) := by omega
        have be : (e : Int) < (d.size : Int) := by omega
        have l1 : ∀ n os, (grow (wr.drewN n) os).cell? ⟨blk, off + h, none⟩ = some (.int .i64 (cl nn d[h]!)) := HS.out.cl R (by omega) h (by omega)
        have l2 : ∀ n os, (grow (wr.drewN n) os).cell? ⟨blk, off + e, none⟩ = some (.int .i64 (cl nn d[e]!)) := HS.out.cl R (by omega) e (by omega)
        have lc := HS.out.cmp HC.out (by omega) d[e]! d[h]!
        have nx : d[h]! = vw d h := rfl
        have ny : d[e]! = vw d e := rfl
        have hcr := hc h e (by omega) (by omega) (by omega) (by omega)
        by_cases q : wt (vw d e) < wt (vw d h)
        · have hhi2 : ∀ k, h ≤ k → k < hi → lx wt (vw d (mid + m - 1 - k)) (vw d k) := fun k q1 q2 => by
            have q3 : lx wt (vw d e) (vw d h) := .inl q
            by_cases e' : k = h
            · rw [e', hpe]; exact q3
            · exact lx_trans (hy (mid + m - 1 - k) e (by omega) (by omega) (by omega)) (lx_trans q3 (hx h k (by omega) (by omega) (by omega)))
          have HR2 := Lib.hid hhi2
          have hq : cfW wt d[e]! d[h]! < 0 := by unfold cfW; rw [nx, ny]; omega
          have hd : decide (cfW wt d[e]! d[h]! < 0) = true := decide_eq_true hq
          clear hhi2 q hcr nx ny HR
          generalize d[h]! = x at l1 lc hq hd
          generalize d[e]! = y at l2 lc hq hd
          go_quiet_grown (first | (go_at_call 81; refine Calls.grown_of (lc _ _)))
          have S2 := Lib.hid (HS.out.grown nq osq)
          clear l1 l2 lc hq hd HS
          generalize grow (wr.drewN nq) osq = w2 at S2 ⊢
          go_wp2
          go_roundw
          case rel => exact ⟨i, h, rfl, rfl, h1, by omega, by omega, HL.out, HR2.out, S2.out⟩
          case measure => simp [intOf]; omega
        · have hlo2 : ∀ k, lo ≤ k → k < h + 1 → lx wt (vw d k) (vw d (mid + m - 1 - k)) := fun k q1 q2 => by
            have q3 : lx wt (vw d h) (vw d e) := by unfold lx; omega
            by_cases e' : k = h
            · rw [e', hpe]; exact q3
            · exact lx_trans (hx k h (by omega) (by omega) (by omega)) (lx_trans q3 (hy e (mid + m - 1 - k) (by omega) (by omega) (by omega)))
          have HL2 := Lib.hid hlo2
          have hq : ¬ cfW wt d[e]! d[h]! < 0 := by unfold cfW; rw [nx, ny]; omega
          have hd : decide (cfW wt d[e]! d[h]! < 0) = false := decide_eq_false hq
          clear hlo2 q hcr nx ny HL
          generalize d[h]! = x at l1 lc hq hd
          generalize d[e]! = y at l2 lc hq hd
          go_quiet_grown (first | (go_at_call 81; refine Calls.grown_of (lc _ _)))
          have S2 := Lib.hid (HS.out.grown nq osq)
          clear l1 l2 lc hq hd HS
          generalize grow (wr.drewN nq) osq = w2 at S2 ⊢
          go_wp2
          go_roundw
          case rel => exact ⟨h + 1, j, by go_num, rfl, by omega, by omega, h3, HL2.out, HR.out, S2.out⟩
          case measure => simp [intOf]; omega
      · obtain rfl : i = j := by omega
        have HCut := Lib.hid (cut_of (by omega) (by omega) (by omega) (by omega) f1.1 h1 h3 f1.2.2.1 f1.2.2.2.1 f1.2.2.2.2 e1 e2 HL.out HR.out)
        clear HL HR
        obtain ⟨en, hen⟩ : ∃ en, en + i = n0 := ⟨n0 - i, by omega⟩
        have ren : IntKind.i64.wrap ((n0 : Int) - (i : Int)) = (en : Int) := (IntWalk.i64_in _ (by omega)).trans (by omega)
        have hen2 : mid + m - i = en := by omega
        rw [hen2] at HCut
        have HT := Lib.hid (HCut.out.turn hx hy hc)
        have w1 := HCut.out.sa; have w2 := HCut.out.sm; have w3 := HCut.out.me; have w4 := HCut.out.eb
        clear HCut
        by_cases y0 : i < m
        · by_cases y1 : m < en
          · by_cases y2 : a < i
            · by_cases y3 : en < b
              · have g1 : (i : Int) < (m : Int) := by omega
                have g2 : (m : Int) < (en : Int) := by omega
                have g3 : (a : Int) < (i : Int) := by omega
                have g4 : (i : Int) < (mid : Int) := by omega
                have g5 : (mid : Int) < (en : Int) := by omega
                have g6 : (en : Int) < (b : Int) := by omega
                go_wp2_with fail
                refine (rot_any w0 d0 blk off cap i m en d wr _ R hs HS.out (by omega) (by omega) (by omega) hsz).mono ?_
                rintro e w2 ⟨rfl, d1, s1, v1, t1⟩
                have V1 := Lib.hid v1
                have T1 := Lib.hid t1
                clear v1 t1
                have HT1 : Hid (Tn wt (vw d1) a mid b i en) := by rw [Hid, V1.out]; exact HT.out
                have q2 := IH.out cap a i mid d1 w2 (by omega) (by omega) (by omega) (by omega) (by omega) T1.out HT1.out.s1 HT1.out.s2 HT1.out.c1
                rw [s1] at q2
                have Q2 := Lib.hid q2
                clear q2
                go_wp2_with fail
                refine Q2.out.mono ?_
                rintro e w3 ⟨rfl, d2, s2, b1, b2, b3, t2⟩
                have B := Lib.hid (show So wt (vw d2) a mid ∧ Sm (vw d1) (vw d2) a mid ∧ Of (vw d1) (vw d2) a mid from ⟨b1, b2, b3⟩)
                have T2 := Lib.hid t2
                clear b1 b2 b3 t2
                have C3 : Hid (So wt (vw d2) mid en ∧ So wt (vw d2) en b ∧ Cr (vw d2) mid en b) := ⟨HT1.out.s3.of fun k q _ => B.out.2.2 k (.inr q), HT1.out.s4.of fun k q _ => B.out.2.2 k (.inr (by omega)), fun x y q1 q2 q3 q4 => by rw [B.out.2.2 x (.inr q1), B.out.2.2 y (.inr (by omega))]; exact HT1.out.c2 x y q1 q2 q3 q4⟩
                have q3 := IH.out cap mid en b d2 w3 (by omega) (by omega) (by omega) (by omega) (by omega) T2.out C3.out.1 C3.out.2.1 C3.out.2.2
                rw [s2] at q3
                have Q3 := Lib.hid q3
                clear q3
                go_wp2_with fail
                refine Q3.out.mono ?_
                rintro e w4 ⟨rfl, d3, s3, c1, c2, c3, t3⟩
                have E := Lib.hid (sym_done (by omega) (by omega) (by omega) (by omega) (by omega) (by omega) V1.out HT1.out B.out c1 c2 c3)
                have T3 := Lib.hid t3
                clear c1 c2 c3 t3
                go_wp2
                all_goals go_end0
                all_goals exact ⟨rfl, d3, s3, E.out.1, E.out.2.1, E.out.2.2, T3.out⟩
              · have g1 : (i : Int) < (m : Int) := by omega
                have g2 : (m : Int) < (en : Int) := by omega
                have g3 : (a : Int) < (i : Int) := by omega
                have g4 : (i : Int) < (mid : Int) := by omega
                have g5 : (mid : Int) < (en : Int) := by omega
                have g6 : ¬ (en : Int) < (b : Int) := by omega
                go_wp2_with fail
                refine (rot_any w0 d0 blk off cap i m en d wr _ R hs HS.out (by omega) (by omega) (by omega) hsz).mono ?_
                rintro e w2 ⟨rfl, d1, s1, v1, t1⟩
                have V1 := Lib.hid v1
                have T1 := Lib.hid t1
                clear v1 t1
                have HT1 : Hid (Tn wt (vw d1) a mid b i en) := by rw [Hid, V1.out]; exact HT.out
                have q2 := IH.out cap a i mid d1 w2 (by omega) (by omega) (by omega) (by omega) (by omega) T1.out HT1.out.s1 HT1.out.s2 HT1.out.c1
                rw [s1] at q2
                have Q2 := Lib.hid q2
                clear q2
                go_wp2_with fail
                refine Q2.out.mono ?_
                rintro e w3 ⟨rfl, d2, s2, b1, b2, b3, t2⟩
                have B := Lib.hid (show So wt (vw d2) a mid ∧ Sm (vw d1) (vw d2) a mid ∧ Of (vw d1) (vw d2) a mid from ⟨b1, b2, b3⟩)
                have T2 := Lib.hid t2
                clear b1 b2 b3 t2
                have C3 : Hid (So wt (vw d2) mid en ∧ So wt (vw d2) en b ∧ Cr (vw d2) mid en b) := ⟨HT1.out.s3.of fun k q _ => B.out.2.2 k (.inr q), HT1.out.s4.of fun k q _ => B.out.2.2 k (.inr (by omega)), fun x y q1 q2 q3 q4 => by rw [B.out.2.2 x (.inr q1), B.out.2.2 y (.inr (by omega))]; exact HT1.out.c2 x y q1 q2 q3 q4⟩
                obtain ⟨d3, s3, c1, c2, c3, t3⟩ : ∃ d3 : Array Int, d3.size = d.size ∧ So wt (vw d3) mid b ∧ Sm (vw d2) (vw d3) mid b ∧ Of (vw d2) (vw d3) mid b ∧ SW (eN nn) w0 blk off d3 w3 := ⟨d2, s2, by have q := C3.out.1; rwa [show en = b by omega] at q, Sm.refl _ _ _, Of.refl _ _ _, T2.out⟩
                have E := Lib.hid (sym_done (by omega) (by omega) (by omega) (by omega) (by omega) (by omega) V1.out HT1.out B.out c1 c2 c3)
                have T3 := Lib.hid t3
                clear c1 c2 c3 t3
                go_wp2
                all_goals go_end0
                all_goals exact ⟨rfl, d3, s3, E.out.1, E.out.2.1, E.out.2.2, T3.out⟩
            · by_cases y3 : en < b
              · have g1 : (i : Int) < (m : Int) := by omega
                have g2 : (m : Int) < (en : Int) := by omega
                have g3 : ¬ (a : Int) < (i : Int) := by omega
                have g4 : (i : Int) < (mid : Int) := by omega
                have g5 : (mid : Int) < (en : Int) := by omega
                have g6 : (en : Int) < (b : Int) := by omega
                go_wp2_with fail
                refine (rot_any w0 d0 blk off cap i m en d wr _ R hs HS.out (by omega) (by omega) (by omega) hsz).mono ?_
                rintro e w2 ⟨rfl, d1, s1, v1, t1⟩
                have V1 := Lib.hid v1
                have T1 := Lib.hid t1
                clear v1 t1
                have HT1 : Hid (Tn wt (vw d1) a mid b i en) := by rw [Hid, V1.out]; exact HT.out
                obtain ⟨d2, s2, b1, b2, b3, t2⟩ : ∃ d2 : Array Int, d2.size = d.size ∧ So wt (vw d2) a mid ∧ Sm (vw d1) (vw d2) a mid ∧ Of (vw d1) (vw d2) a mid ∧ SW (eN nn) w0 blk off d2 w2 := ⟨d1, s1, by have q := HT1.out.s2; rwa [show i = a by omega] at q, Sm.refl _ _ _, Of.refl _ _ _, T1.out⟩
                have B := Lib.hid (show So wt (vw d2) a mid ∧ Sm (vw d1) (vw d2) a mid ∧ Of (vw d1) (vw d2) a mid from ⟨b1, b2, b3⟩)
                have T2 := Lib.hid t2
                clear b1 b2 b3 t2
                have C3 : Hid (So wt (vw d2) mid en ∧ So wt (vw d2) en b ∧ Cr (vw d2) mid en b) := ⟨HT1.out.s3.of fun k q _ => B.out.2.2 k (.inr q), HT1.out.s4.of fun k q _ => B.out.2.2 k (.inr (by omega)), fun x y q1 q2 q3 q4 => by rw [B.out.2.2 x (.inr q1), B.out.2.2 y (.inr (by omega))]; exact HT1.out.c2 x y q1 q2 q3 q4⟩
                have q3 := IH.out cap mid en b d2 w2 (by omega) (by omega) (by omega) (by omega) (by omega) T2.out C3.out.1 C3.out.2.1 C3.out.2.2
                rw [s2] at q3
                have Q3 := Lib.hid q3
                clear q3
                go_wp2_with fail
                refine Q3.out.mono ?_
                rintro e w4 ⟨rfl, d3, s3, c1, c2, c3, t3⟩
                have E := Lib.hid (sym_done (by omega) (by omega) (by omega) (by omega) (by omega) (by omega) V1.out HT1.out B.out c1 c2 c3)
                have T3 := Lib.hid t3
                clear c1 c2 c3 t3
                go_wp2
                all_goals go_end0
                all_goals exact ⟨rfl, d3, s3, E.out.1, E.out.2.1, E.out.2.2, T3.out⟩
              · have g1 : (i : Int) < (m : Int) := by omega
                have g2 : (m : Int) < (en : Int) := by omega
                have g3 : ¬ (a : Int) < (i : Int) := by omega
                have g4 : (i : Int) < (mid : Int) := by omega
                have g5 : (mid : Int) < (en : Int) := by omega
                have g6 : ¬ (en : Int) < (b : Int) := by omega
                go_wp2_with fail
                refine (rot_any w0 d0 blk off cap i m en d wr _ R hs HS.out (by omega) (by omega) (by omega) hsz).mono ?_
                rintro e w2 ⟨rfl, d1, s1, v1, t1⟩
                have V1 := Lib.hid v1
                have T1 := Lib.hid t1
                clear v1 t1
                have HT1 : Hid (Tn wt (vw d1) a mid b i en) := by rw [Hid, V1.out]; exact HT.out
                obtain ⟨d2, s2, b1, b2, b3, t2⟩ : ∃ d2 : Array Int, d2.size = d.size ∧ So wt (vw d2) a mid ∧ Sm (vw d1) (vw d2) a mid ∧ Of (vw d1) (vw d2) a mid ∧ SW (eN nn) w0 blk off d2 w2 := ⟨d1, s1, by have q := HT1.out.s2; rwa [show i = a by omega] at q, Sm.refl _ _ _, Of.refl _ _ _, T1.out⟩
                have B := Lib.hid (show So wt (vw d2) a mid ∧ Sm (vw d1) (vw d2) a mid ∧ Of (vw d1) (vw d2) a mid from ⟨b1, b2, b3⟩)
                have T2 := Lib.hid t2
                clear b1 b2 b3 t2
                have C3 : Hid (So wt (vw d2) mid en ∧ So wt (vw d2) en b ∧ Cr (vw d2) mid en b) := ⟨HT1.out.s3.of fun k q _ => B.out.2.2 k (.inr q), HT1.out.s4.of fun k q _ => B.out.2.2 k (.inr (by omega)), fun x y q1 q2 q3 q4 => by rw [B.out.2.2 x (.inr q1), B.out.2.2 y (.inr (by omega))]; exact HT1.out.c2 x y q1 q2 q3 q4⟩
                obtain ⟨d3, s3, c1, c2, c3, t3⟩ : ∃ d3 : Array Int, d3.size = d.size ∧ So wt (vw d3) mid b ∧ Sm (vw d2) (vw d3) mid b ∧ Of (vw d2) (vw d3) mid b ∧ SW (eN nn) w0 blk off d3 w2 := ⟨d2, s2, by have q := C3.out.1; rwa [show en = b by omega] at q, Sm.refl _ _ _, Of.refl _ _ _, T2.out⟩
                have E := Lib.hid (sym_done (by omega) (by omega) (by omega) (by omega) (by omega) (by omega) V1.out HT1.out B.out c1 c2 c3)
                have T3 := Lib.hid t3
                clear c1 c2 c3 t3
                go_wp2
                all_goals go_end0
                all_goals exact ⟨rfl, d3, s3, E.out.1, E.out.2.1, E.out.2.2, T3.out⟩
          · by_cases y2 : a < i
            · by_cases y3 : en < b
              · have g1 : (i : Int) < (m : Int) := by omega
                have g2 : ¬ (m : Int) < (en : Int) := by omega
                have g3 : (a : Int) < (i : Int) := by omega
                have g4 : ¬ (i : Int) < (mid : Int) := by omega
                have g5 : (mid : Int) < (en : Int) := by omega
                have g6 : (en : Int) < (b : Int) := by omega
                obtain ⟨d1, s1, v1, t1⟩ : ∃ d1 : Array Int, d1.size = d.size ∧ vw d1 = rot (vw d) i m en ∧ SW (eN nn) w0 blk off d1 wr := ⟨d, rfl, (rot_none _ (by omega) (by omega) (by omega)).symm, HS.out⟩
                have V1 := Lib.hid v1
                have T1 := Lib.hid t1
                clear v1 t1
                have HT1 : Hid (Tn wt (vw d1) a mid b i en) := by rw [Hid, V1.out]; exact HT.out
                obtain ⟨d2, s2, b1, b2, b3, t2⟩ : ∃ d2 : Array Int, d2.size = d.size ∧ So wt (vw d2) a mid ∧ Sm (vw d1) (vw d2) a mid ∧ Of (vw d1) (vw d2) a mid ∧ SW (eN nn) w0 blk off d2 wr := ⟨d1, s1, by have q := HT1.out.s1; rwa [show i = mid by omega] at q, Sm.refl _ _ _, Of.refl _ _ _, T1.out⟩
                have B := Lib.hid (show So wt (vw d2) a mid ∧ Sm (vw d1) (vw d2) a mid ∧ Of (vw d1) (vw d2) a mid from ⟨b1, b2, b3⟩)
                have T2 := Lib.hid t2
                clear b1 b2 b3 t2
                have C3 : Hid (So wt (vw d2) mid en ∧ So wt (vw d2) en b ∧ Cr (vw d2) mid en b) := ⟨HT1.out.s3.of fun k q _ => B.out.2.2 k (.inr q), HT1.out.s4.of fun k q _ => B.out.2.2 k (.inr (by omega)), fun x y q1 q2 q3 q4 => by rw [B.out.2.2 x (.inr q1), B.out.2.2 y (.inr (by omega))]; exact HT1.out.c2 x y q1 q2 q3 q4⟩
                have q3 := IH.out cap mid en b d2 wr (by omega) (by omega) (by omega) (by omega) (by omega) T2.out C3.out.1 C3.out.2.1 C3.out.2.2
                rw [s2] at q3
                have Q3 := Lib.hid q3
                clear q3
                go_wp2_with fail
                refine Q3.out.mono ?_
                rintro e w4 ⟨rfl, d3, s3, c1, c2, c3, t3⟩
                have E := Lib.hid (sym_done (by omega) (by omega) (by omega) (by omega) (by omega) (by omega) V1.out HT1.out B.out c1 c2 c3)
                have T3 := Lib.hid t3
                clear c1 c2 c3 t3
                go_wp2
                all_goals go_end0
                all_goals exact ⟨rfl, d3, s3, E.out.1, E.out.2.1, E.out.2.2, T3.out⟩
              · have g1 : (i : Int) < (m : Int) := by omega
                have g2 : ¬ (m : Int) < (en : Int) := by omega
                have g3 : (a : Int) < (i : Int) := by omega
                have g4 : ¬ (i : Int) < (mid : Int) := by omega
                have g5 : (mid : Int) < (en : Int) := by omega
                have g6 : ¬ (en : Int) < (b : Int) := by omega
                obtain ⟨d1, s1, v1, t1⟩ : ∃ d1 : Array Int, d1.size = d.size ∧ vw d1 = rot (vw d) i m en ∧ SW (eN nn) w0 blk off d1 wr := ⟨d, rfl, (rot_none _ (by omega) (by omega) (by omega)).symm, HS.out⟩
                have V1 := Lib.hid v1
                have T1 := Lib.hid t1
                clear v1 t1
                have HT1 : Hid (Tn wt (vw d1) a mid b i en) := by rw [Hid, V1.out]; exact HT.out
                obtain ⟨d2, s2, b1, b2, b3, t2⟩ : ∃ d2 : Array Int, d2.size = d.size ∧ So wt (vw d2) a mid ∧ Sm (vw d1) (vw d2) a mid ∧ Of (vw d1) (vw d2) a mid ∧ SW (eN nn) w0 blk off d2 wr := ⟨d1, s1, by have q := HT1.out.s1; rwa [show i = mid by omega] at q, Sm.refl _ _ _, Of.refl _ _ _, T1.out⟩
                have B := Lib.hid (show So wt (vw d2) a mid ∧ Sm (vw d1) (vw d2) a mid ∧ Of (vw d1) (vw d2) a mid from ⟨b1, b2, b3⟩)
                have T2 := Lib.hid t2
                clear b1 b2 b3 t2
                have C3 : Hid (So wt (vw d2) mid en ∧ So wt (vw d2) en b ∧ Cr (vw d2) mid en b) := ⟨HT1.out.s3.of fun k q _ => B.out.2.2 k (.inr q), HT1.out.s4.of fun k q _ => B.out.2.2 k (.inr (by omega)), fun x y q1 q2 q3 q4 => by rw [B.out.2.2 x (.inr q1), B.out.2.2 y (.inr (by omega))]; exact HT1.out.c2 x y q1 q2 q3 q4⟩
                obtain ⟨d3, s3, c1, c2, c3, t3⟩ : ∃ d3 : Array Int, d3.size = d.size ∧ So wt (vw d3) mid b ∧ Sm (vw d2) (vw d3) mid b ∧ Of (vw d2) (vw d3) mid b ∧ SW (eN nn) w0 blk off d3 wr := ⟨d2, s2, by have q := C3.out.1; rwa [show en = b by omega] at q, Sm.refl _ _ _, Of.refl _ _ _, T2.out⟩
                have E := Lib.hid (sym_done (by omega) (by omega) (by omega) (by omega) (by omega) (by omega) V1.out HT1.out B.out c1 c2 c3)
                have T3 := Lib.hid t3
                clear c1 c2 c3 t3
                go_wp2
                all_goals go_end0
                all_goals exact ⟨rfl, d3, s3, E.out.1, E.out.2.1, E.out.2.2, T3.out⟩
            · by_cases y3 : en < b
              · have g1 : (i : Int) < (m : Int) := by omega
                have g2 : ¬ (m : Int) < (en : Int) := by omega
                have g3 : ¬ (a : Int) < (i : Int) := by omega
                have g4 : ¬ (i : Int) < (mid : Int) := by omega
                have g5 : (mid : Int) < (en : Int) := by omega
                have g6 : (en : Int) < (b : Int) := by omega
                obtain ⟨d1, s1, v1, t1⟩ : ∃ d1 : Array Int, d1.size = d.size ∧ vw d1 = rot (vw d) i m en ∧ SW (eN nn) w0 blk off d1 wr := ⟨d, rfl, (rot_none _ (by omega) (by omega) (by omega)).symm, HS.out⟩
                have V1 := Lib.hid v1
                have T1 := Lib.hid t1
                clear v1 t1
                have HT1 : Hid (Tn wt (vw d1) a mid b i en) := by rw [Hid, V1.out]; exact HT.out
                obtain ⟨d2, s2, b1, b2, b3, t2⟩ : ∃ d2 : Array Int, d2.size = d.size ∧ So wt (vw d2) a mid ∧ Sm (vw d1) (vw d2) a mid ∧ Of (vw d1) (vw d2) a mid ∧ SW (eN nn) w0 blk off d2 wr := ⟨d1, s1, by have q := HT1.out.s2; rwa [show i = a by omega] at q, Sm.refl _ _ _, Of.refl _ _ _, T1.out⟩
                have B := Lib.hid (show So wt (vw d2) a mid ∧ Sm (vw d1) (vw d2) a mid ∧ Of (vw d1) (vw d2) a mid from ⟨b1, b2, b3⟩)
                have T2 := Lib.hid t2
                clear b1 b2 b3 t2
                have C3 : Hid (So wt (vw d2) mid en ∧ So wt (vw d2) en b ∧ Cr (vw d2) mid en b) := ⟨HT1.out.s3.of fun k q _ => B.out.2.2 k (.inr q), HT1.out.s4.of fun k q _ => B.out.2.2 k (.inr (by omega)), fun x y q1 q2 q3 q4 => by rw [B.out.2.2 x (.inr q1), B.out.2.2 y (.inr (by omega))]; exact HT1.out.c2 x y q1 q2 q3 q4⟩
                have q3 := IH.out cap mid en b d2 wr (by omega) (by omega) (by omega) (by omega) (by omega) T2.out C3.out.1 C3.out.2.1 C3.out.2.2
                rw [s2] at q3
                have Q3 := Lib.hid q3
                clear q3
                go_wp2_with fail
                refine Q3.out.mono ?_
                rintro e w4 ⟨rfl, d3, s3, c1, c2, c3, t3⟩
                have E := Lib.hid (sym_done (by omega) (by omega) (by omega) (by omega) (by omega) (by omega) V1.out HT1.out B.out c1 c2 c3)
                have T3 := Lib.hid t3
                clear c1 c2 c3 t3
                go_wp2
                all_goals go_end0
                all_goals exact ⟨rfl, d3, s3, E.out.1, E.out.2.1, E.out.2.2, T3.out⟩
              · have g1 : (i : Int) < (m : Int) := by omega
                have g2 : ¬ (m : Int) < (en : Int) := by omega
                have g3 : ¬ (a : Int) < (i : Int) := by omega
                have g4 : ¬ (i : Int) < (mid : Int) := by omega
                have g5 : (mid : Int) < (en : Int) := by omega
                have g6 : ¬ (en : Int) < (b : Int) := by omega
                obtain ⟨d1, s1, v1, t1⟩ : ∃ d1 : Array Int, d1.size = d.size ∧ vw d1 = rot (vw d) i m en ∧ SW (eN nn) w0 blk off d1 wr := ⟨d, rfl, (rot_none _ (by omega) (by omega) (by omega)).symm, HS.out⟩
                have V1 := Lib.hid v1
                have T1 := Lib.hid t1
                clear v1 t1
                have HT1 : Hid (Tn wt (vw d1) a mid b i en) := by rw [Hid, V1.out]; exact HT.out
                obtain ⟨d2, s2, b1, b2, b3, t2⟩ : ∃ d2 : Array Int, d2.size = d.size ∧ So wt (vw d2) a mid ∧ Sm (vw d1) (vw d2) a mid ∧ Of (vw d1) (vw d2) a mid ∧ SW (eN nn) w0 blk off d2 wr := ⟨d1, s1, by have q := HT1.out.s2; rwa [show i = a by omega] at q, Sm.refl _ _ _, Of.refl _ _ _, T1.out⟩
                have B := Lib.hid (show So wt (vw d2) a mid ∧ Sm (vw d1) (vw d2) a mid ∧ Of (vw d1) (vw d2) a mid from ⟨b1, b2, b3⟩)
                have T2 := Lib.hid t2
                clear b1 b2 b3 t2
                have C3 : Hid (So wt (vw d2) mid en ∧ So wt (vw d2) en b ∧ Cr (vw d2) mid en b) := ⟨HT1.out.s3.of fun k q _ => B.out.2.2 k (.inr q), HT1.out.s4.of fun k q _ => B.out.2.2 k (.inr (by omega)), fun x y q1 q2 q3 q4 => by rw [B.out.2.2 x (.inr q1), B.out.2.2 y (.inr (by omega))]; exact HT1.out.c2 x y q1 q2 q3 q4⟩
                obtain ⟨d3, s3, c1, c2, c3, t3⟩ : ∃ d3 : Array Int, d3.size = d.size ∧ So wt (vw d3) mid b ∧ Sm (vw d2) (vw d3) mid b ∧ Of (vw d2) (vw d3) mid b ∧ SW (eN nn) w0 blk off d3 wr := ⟨d2, s2, by have q := C3.out.1; rwa [show en = b by omega] at q, Sm.refl _ _ _, Of.refl _ _ _, T2.out⟩
                have E := Lib.hid (sym_done (by omega) (by omega) (by omega) (by omega) (by omega) (by omega) V1.out HT1.out B.out c1 c2 c3)
                have T3 := Lib.hid t3
                clear c1 c2 c3 t3
                go_wp2
                all_goals go_end0
                all_goals exact ⟨rfl, d3, s3, E.out.1, E.out.2.1, E.out.2.2, T3.out⟩
        · by_cases y1 : m < en
          · by_cases y2 : a < i
            · by_cases y3 : en < b
              · have g1 : ¬ (i : Int) < (m : Int) := by omega
                have g2 : (m : Int) < (en : Int) := by omega
                have g3 : (a : Int) < (i : Int) := by omega
                have g4 : (i : Int) < (mid : Int) := by omega
                have g5 : ¬ (mid : Int) < (en : Int) := by omega
                have g6 : (en : Int) < (b : Int) := by omega
                obtain ⟨d1, s1, v1, t1⟩ : ∃ d1 : Array Int, d1.size = d.size ∧ vw d1 = rot (vw d) i m en ∧ SW (eN nn) w0 blk off d1 wr := ⟨d, rfl, (rot_none _ (by omega) (by omega) (by omega)).symm, HS.out⟩
                have V1 := Lib.hid v1
                have T1 := Lib.hid t1
                clear v1 t1
                have HT1 : Hid (Tn wt (vw d1) a mid b i en) := by rw [Hid, V1.out]; exact HT.out
                have q2 := IH.out cap a i mid d1 wr (by omega) (by omega) (by omega) (by omega) (by omega) T1.out HT1.out.s1 HT1.out.s2 HT1.out.c1
                rw [s1] at q2
                have Q2 := Lib.hid q2
                clear q2
                go_wp2_with fail
                refine Q2.out.mono ?_
                rintro e w3 ⟨rfl, d2, s2, b1, b2, b3, t2⟩
                have B := Lib.hid (show So wt (vw d2) a mid ∧ Sm (vw d1) (vw d2) a mid ∧ Of (vw d1) (vw d2) a mid from ⟨b1, b2, b3⟩)
                have T2 := Lib.hid t2
                clear b1 b2 b3 t2
                have C3 : Hid (So wt (vw d2) mid en ∧ So wt (vw d2) en b ∧ Cr (vw d2) mid en b) := ⟨HT1.out.s3.of fun k q _ => B.out.2.2 k (.inr q), HT1.out.s4.of fun k q _ => B.out.2.2 k (.inr (by omega)), fun x y q1 q2 q3 q4 => by rw [B.out.2.2 x (.inr q1), B.out.2.2 y (.inr (by omega))]; exact HT1.out.c2 x y q1 q2 q3 q4⟩
                obtain ⟨d3, s3, c1, c2, c3, t3⟩ : ∃ d3 : Array Int, d3.size = d.size ∧ So wt (vw d3) mid b ∧ Sm (vw d2) (vw d3) mid b ∧ Of (vw d2) (vw d3) mid b ∧ SW (eN nn) w0 blk off d3 w3 := ⟨d2, s2, by have q := C3.out.2.1; rwa [show en = mid by omega] at q, Sm.refl _ _ _, Of.refl _ _ _, T2.out⟩
                have E := Lib.hid (sym_done (by omega) (by omega) (by omega) (by omega) (by omega) (by omega) V1.out HT1.out B.out c1 c2 c3)
                have T3 := Lib.hid t3
                clear c1 c2 c3 t3
                go_wp2
                all_goals go_end0
                all_goals exact ⟨rfl, d3, s3, E.out.1, E.out.2.1, E.out.2.2, T3.out⟩
              · have g1 : ¬ (i : Int) < (m : Int) := by omega
                have g2 : (m : Int) < (en : Int) := by omega
                have g3 : (a : Int) < (i : Int) := by omega
                have g4 : (i : Int) < (mid : Int) := by omega
                have g5 : ¬ (mid : Int) < (en : Int) := by omega
                have g6 : ¬ (en : Int) < (b : Int) := by omega
                obtain ⟨d1, s1, v1, t1⟩ : ∃ d1 : Array Int, d1.size = d.size ∧ vw d1 = rot (vw d) i m en ∧ SW (eN nn) w0 blk off d1 wr := ⟨d, rfl, (rot_none _ (by omega) (by omega) (by omega)).symm, HS.out⟩
                have V1 := Lib.hid v1
                have T1 := Lib.hid t1
                clear v1 t1
                have HT1 : Hid (Tn wt (vw d1) a mid b i en) := by rw [Hid, V1.out]; exact HT.out
                have q2 := IH.out cap a i mid d1 wr (by omega) (by omega) (by omega) (by omega) (by omega) T1.out HT1.out.s1 HT1.out.s2 HT1.out.c1
                rw [s1] at q2
                have Q2 := Lib.hid q2
                clear q2
                go_wp2_with fail
                refine Q2.out.mono ?_
                rintro e w3 ⟨rfl, d2, s2, b1, b2, b3, t2⟩
                have B := Lib.hid (show So wt (vw d2) a mid ∧ Sm (vw d1) (vw d2) a mid ∧ Of (vw d1) (vw d2) a mid from ⟨b1, b2, b3⟩)
                have T2 := Lib.hid t2
                clear b1 b2 b3 t2
                have C3 : Hid (So wt (vw d2) mid en ∧ So wt (vw d2) en b ∧ Cr (vw d2) mid en b) := ⟨HT1.out.s3.of fun k q _ => B.out.2.2 k (.inr q), HT1.out.s4.of fun k q _ => B.out.2.2 k (.inr (by omega)), fun x y q1 q2 q3 q4 => by rw [B.out.2.2 x (.inr q1), B.out.2.2 y (.inr (by omega))]; exact HT1.out.c2 x y q1 q2 q3 q4⟩
                obtain ⟨d3, s3, c1, c2, c3, t3⟩ : ∃ d3 : Array Int, d3.size = d.size ∧ So wt (vw d3) mid b ∧ Sm (vw d2) (vw d3) mid b ∧ Of (vw d2) (vw d3) mid b ∧ SW (eN nn) w0 blk off d3 w3 := ⟨d2, s2, by have q := C3.out.2.1; rwa [show en = mid by omega] at q, Sm.refl _ _ _, Of.refl _ _ _, T2.out⟩
                have E := Lib.hid (sym_done (by omega) (by omega) (by omega) (by omega) (by omega) (by omega) V1.out HT1.out B.out c1 c2 c3)
                have T3 := Lib.hid t3
                clear c1 c2 c3 t3
                go_wp2
                all_goals go_end0
                all_goals exact ⟨rfl, d3, s3, E.out.1, E.out.2.1, E.out.2.2, T3.out⟩
            · by_cases y3 : en < b
              · have g1 : ¬ (i : Int) < (m : Int) := by omega
                have g2 : (m : Int) < (en : Int) := by omega
                have g3 : ¬ (a : Int) < (i : Int) := by omega
                have g4 : (i : Int) < (mid : Int) := by omega
                have g5 : ¬ (mid : Int) < (en : Int) := by omega
                have g6 : (en : Int) < (b : Int) := by omega
                obtain ⟨d1, s1, v1, t1⟩ : ∃ d1 : Array Int, d1.size = d.size ∧ vw d1 = rot (vw d) i m en ∧ SW (eN nn) w0 blk off d1 wr := ⟨d, rfl, (rot_none _ (by omega) (by omega) (by omega)).symm, HS.out⟩
                have V1 := Lib.hid v1
                have T1 := Lib.hid t1
                clear v1 t1
                have HT1 : Hid (Tn wt (vw d1) a mid b i en) := by rw [Hid, V1.out]; exact HT.out
                obtain ⟨d2, s2, b1, b2, b3, t2⟩ : ∃ d2 : Array Int, d2.size = d.size ∧ So wt (vw d2) a mid ∧ Sm (vw d1) (vw d2) a mid ∧ Of (vw d1) (vw d2) a mid ∧ SW (eN nn) w0 blk off d2 wr := ⟨d1, s1, by have q := HT1.out.s2; rwa [show i = a by omega] at q, Sm.refl _ _ _, Of.refl _ _ _, T1.out⟩
                have B := Lib.hid (show So wt (vw d2) a mid ∧ Sm (vw d1) (vw d2) a mid ∧ Of (vw d1) (vw d2) a mid from ⟨b1, b2, b3⟩)
                have T2 := Lib.hid t2
                clear b1 b2 b3 t2
                have C3 : Hid (So wt (vw d2) mid en ∧ So wt (vw d2) en b ∧ Cr (vw d2) mid en b) := ⟨HT1.out.s3.of fun k q _ => B.out.2.2 k (.inr q), HT1.out.s4.of fun k q _ => B.out.2.2 k (.inr (by omega)), fun x y q1 q2 q3 q4 => by rw [B.out.2.2 x (.inr q1), B.out.2.2 y (.inr (by omega))]; exact HT1.out.c2 x y q1 q2 q3 q4⟩
                obtain ⟨d3, s3, c1, c2, c3, t3⟩ : ∃ d3 : Array Int, d3.size = d.size ∧ So wt (vw d3) mid b ∧ Sm (vw d2) (vw d3) mid b ∧ Of (vw d2) (vw d3) mid b ∧ SW (eN nn) w0 blk off d3 wr := ⟨d2, s2, by have q := C3.out.2.1; rwa [show en = mid by omega] at q, Sm.refl _ _ _, Of.refl _ _ _, T2.out⟩
                have E := Lib.hid (sym_done (by omega) (by omega) (by omega) (by omega) (by omega) (by omega) V1.out HT1.out B.out c1 c2 c3)
                have T3 := Lib.hid t3
                clear c1 c2 c3 t3
                go_wp2
                all_goals go_end0
                all_goals exact ⟨rfl, d3, s3, E.out.1, E.out.2.1, E.out.2.2, T3.out⟩
              · have g1 : ¬ (i : Int) < (m : Int) := by omega
                have g2 : (m : Int) < (en : Int) := by omega
                have g3 : ¬ (a : Int) < (i : Int) := by omega
                have g4 : (i : Int) < (mid : Int) := by omega
                have g5 : ¬ (mid : Int) < (en : Int) := by omega
                have g6 : ¬ (en : Int) < (b : Int) := by omega
                obtain ⟨d1, s1, v1, t1⟩ : ∃ d1 : Array Int, d1.size = d.size ∧ vw d1 = rot (vw d) i m en ∧ SW (eN nn) w0 blk off d1 wr := ⟨d, rfl, (rot_none _ (by omega) (by omega) (by omega)).symm, HS.out⟩
                have V1 := Lib.hid v1
                have T1 := Lib.hid t1
                clear v1 t1
                have HT1 : Hid (Tn wt (vw d1) a mid b i en) := by rw [Hid, V1.out]; exact HT.out
                obtain ⟨d2, s2, b1, b2, b3, t2⟩ : ∃ d2 : Array Int, d2.size = d.size ∧ So wt (vw d2) a mid ∧ Sm (vw d1) (vw d2) a mid ∧ Of (vw d1) (vw d2) a mid ∧ SW (eN nn) w0 blk off d2 wr := ⟨d1, s1, by have q := HT1.out.s2; rwa [show i = a by omega] at q, Sm.refl _ _ _, Of.refl _ _ _, T1.out⟩
                have B := Lib.hid (show So wt (vw d2) a mid ∧ Sm (vw d1) (vw d2) a mid ∧ Of (vw d1) (vw d2) a mid from ⟨b1, b2, b3⟩)
                have T2 := Lib.hid t2
                clear b1 b2 b3 t2
                have C3 : Hid (So wt (vw d2) mid en ∧ So wt (vw d2) en b ∧ Cr (vw d2) mid en b) := ⟨HT1.out.s3.of fun k q _ => B.out.2.2 k (.inr q), HT1.out.s4.of fun k q _ => B.out.2.2 k (.inr (by omega)), fun x y q1 q2 q3 q4 => by rw [B.out.2.2 x (.inr q1), B.out.2.2 y (.inr (by omega))]; exact HT1.out.c2 x y q1 q2 q3 q4⟩
                obtain ⟨d3, s3, c1, c2, c3, t3⟩ : ∃ d3 : Array Int, d3.size = d.size ∧ So wt (vw d3) mid b ∧ Sm (vw d2) (vw d3) mid b ∧ Of (vw d2) (vw d3) mid b ∧ SW (eN nn) w0 blk off d3 wr := ⟨d2, s2, by have q := C3.out.2.1; rwa [show en = mid by omega] at q, Sm.refl _ _ _, Of.refl _ _ _, T2.out⟩
                have E := Lib.hid (sym_done (by omega) (by omega) (by omega) (by omega) (by omega) (by omega) V1.out HT1.out B.out c1 c2 c3)
                have T3 := Lib.hid t3
                clear c1 c2 c3 t3
                go_wp2
                all_goals go_end0
                all_goals exact ⟨rfl, d3, s3, E.out.1, E.out.2.1, E.out.2.2, T3.out⟩
          · by_cases y2 : a < i
            · by_cases y3 : en < b
              · have g1 : ¬ (i : Int) < (m : Int) := by omega
                have g2 : ¬ (m : Int) < (en : Int) := by omega
                have g3 : (a : Int) < (i : Int) := by omega
                have g4 : ¬ (i : Int) < (mid : Int) := by omega
                have g5 : ¬ (mid : Int) < (en : Int) := by omega
                have g6 : (en : Int) < (b : Int) := by omega
                obtain ⟨d1, s1, v1, t1⟩ : ∃ d1 : Array Int, d1.size = d.size ∧ vw d1 = rot (vw d) i m en ∧ SW (eN nn) w0 blk off d1 wr := ⟨d, rfl, (rot_none _ (by omega) (by omega) (by omega)).symm, HS.out⟩
                have V1 := Lib.hid v1
                have T1 := Lib.hid t1
                clear v1 t1
                have HT1 : Hid (Tn wt (vw d1) a mid b i en) := by rw [Hid, V1.out]; exact HT.out
                obtain ⟨d2, s2, b1, b2, b3, t2⟩ : ∃ d2 : Array Int, d2.size = d.size ∧ So wt (vw d2) a mid ∧ Sm (vw d1) (vw d2) a mid ∧ Of (vw d1) (vw d2) a mid ∧ SW (eN nn) w0 blk off d2 wr := ⟨d1, s1, by have q := HT1.out.s1; rwa [show i = mid by omega] at q, Sm.refl _ _ _, Of.refl _ _ _, T1.out⟩
                have B := Lib.hid (show So wt (vw d2) a mid ∧ Sm (vw d1) (vw d2) a mid ∧ Of (vw d1) (vw d2) a mid from ⟨b1, b2, b3⟩)
                have T2 := Lib.hid t2
                clear b1 b2 b3 t2
                have C3 : Hid (So wt (vw d2) mid en ∧ So wt (vw d2) en b ∧ Cr (vw d2) mid en b) := ⟨HT1.out.s3.of fun k q _ => B.out.2.2 k (.inr q), HT1.out.s4.of fun k q _ => B.out.2.2 k (.inr (by omega)), fun x y q1 q2 q3 q4 => by rw [B.out.2.2 x (.inr q1), B.out.2.2 y (.inr (by omega))]; exact HT1.out.c2 x y q1 q2 q3 q4⟩
                obtain ⟨d3, s3, c1, c2, c3, t3⟩ : ∃ d3 : Array Int, d3.size = d.size ∧ So wt (vw d3) mid b ∧ Sm (vw d2) (vw d3) mid b ∧ Of (vw d2) (vw d3) mid b ∧ SW (eN nn) w0 blk off d3 wr := ⟨d2, s2, by have q := C3.out.2.1; rwa [show en = mid by omega] at q, Sm.refl _ _ _, Of.refl _ _ _, T2.out⟩
                have E := Lib.hid (sym_done (by omega) (by omega) (by omega) (by omega) (by omega) (by omega) V1.out HT1.out B.out c1 c2 c3)
                have T3 := Lib.hid t3
                clear c1 c2 c3 t3
                go_wp2
                all_goals go_end0
                all_goals exact ⟨rfl, d3, s3, E.out.1, E.out.2.1, E.out.2.2, T3.out⟩
              · have g1 : ¬ (i : Int) < (m : Int) := by omega
                have g2 : ¬ (m : Int) < (en : Int) := by omega
                have g3 : (a : Int) < (i : Int) := by omega
                have g4 : ¬ (i : Int) < (mid : Int) := by omega
                have g5 : ¬ (mid : Int) < (en : Int) := by omega
                have g6 : ¬ (en : Int) < (b : Int) := by omega
                obtain ⟨d1, s1, v1, t1⟩ : ∃ d1 : Array Int, d1.size = d.size ∧ vw d1 = rot (vw d) i m en ∧ SW (eN nn) w0 blk off d1 wr := ⟨d, rfl, (rot_none _ (by omega) (by omega) (by omega)).symm, HS.out⟩
                have V1 := Lib.hid v1
                have T1 := Lib.hid t1
                clear v1 t1
                have HT1 : Hid (Tn wt (vw d1) a mid b i en) := by rw [Hid, V1.out]; exact HT.out
                obtain ⟨d2, s2, b1, b2, b3, t2⟩ : ∃ d2 : Array Int, d2.size = d.size ∧ So wt (vw d2) a mid ∧ Sm (vw d1) (vw d2) a mid ∧ Of (vw d1) (vw d2) a mid ∧ SW (eN nn) w0 blk off d2 wr := ⟨d1, s1, by have q := HT1.out.s1; rwa [show i = mid by omega] at q, Sm.refl _ _ _, Of.refl _ _ _, T1.out⟩
                have B := Lib.hid (show So wt (vw d2) a mid ∧ Sm (vw d1) (vw d2) a mid ∧ Of (vw d1) (vw d2) a mid from ⟨b1, b2, b3⟩)
                have T2 := Lib.hid t2
                clear b1 b2 b3 t2
                have C3 : Hid (So wt (vw d2) mid en ∧ So wt (vw d2) en b ∧ Cr (vw d2) mid en b) := ⟨HT1.out.s3.of fun k q _ => B.out.2.2 k (.inr q), HT1.out.s4.of fun k q _ => B.out.2.2 k (.inr (by omega)), fun x y q1 q2 q3 q4 => by rw [B.out.2.2 x (.inr q1), B.out.2.2 y (.inr (by omega))]; exact HT1.out.c2 x y q1 q2 q3 q4⟩
                obtain ⟨d3, s3, c1, c2, c3, t3⟩ : ∃ d3 : Array Int, d3.size = d.size ∧ So wt (vw d3) mid b ∧ Sm (vw d2) (vw d3) mid b ∧ Of (vw d2) (vw d3) mid b ∧ SW (eN nn) w0 blk off d3 wr := ⟨d2, s2, by have q := C3.out.2.1; rwa [show en = mid by omega] at q, Sm.refl _ _ _, Of.refl _ _ _, T2.out⟩
                have E := Lib.hid (sym_done (by omega) (by omega) (by omega) (by omega) (by omega) (by omega) V1.out HT1.out B.out c1 c2 c3)
                have T3 := Lib.hid t3
                clear c1 c2 c3 t3
                go_wp2
                all_goals go_end0
                all_goals exact ⟨rfl, d3, s3, E.out.1, E.out.2.1, E.out.2.2, T3.out⟩
            · by_cases y3 : en < b
              · have g1 : ¬ (i : Int) < (m : Int) := by omega
                have g2 : ¬ (m : Int) < (en : Int) := by omega
                have g3 : ¬ (a : Int) < (i : Int) := by omega
                have g4 : ¬ (i : Int) < (mid : Int) := by omega
                have g5 : ¬ (mid : Int) < (en : Int) := by omega
                have g6 : (en : Int) < (b : Int) := by omega
                obtain ⟨d1, s1, v1, t1⟩ : ∃ d1 : Array Int, d1.size = d.size ∧ vw d1 = rot (vw d) i m en ∧ SW (eN nn) w0 blk off d1 wr := ⟨d, rfl, (rot_none _ (by omega) (by omega) (by omega)).symm, HS.out⟩
                have V1 := Lib.hid v1
                have T1 := Lib.hid t1
                clear v1 t1
                have HT1 : Hid (Tn wt (vw d1) a mid b i en) := by rw [Hid, V1.out]; exact HT.out
                obtain ⟨d2, s2, b1, b2, b3, t2⟩ : ∃ d2 : Array Int, d2.size = d.size ∧ So wt (vw d2) a mid ∧ Sm (vw d1) (vw d2) a mid ∧ Of (vw d1) (vw d2) a mid ∧ SW (eN nn) w0 blk off d2 wr := ⟨d1, s1, by have q := HT1.out.s2; rwa [show i = a by omega] at q, Sm.refl _ _ _, Of.refl _ _ _, T1.out⟩
                have B := Lib.hid (show So wt (vw d2) a mid ∧ Sm (vw d1) (vw d2) a mid ∧ Of (vw d1) (vw d2) a mid from ⟨b1, b2, b3⟩)
                have T2 := Lib.hid t2
                clear b1 b2 b3 t2
                have C3 : Hid (So wt (vw d2) mid en ∧ So wt (vw d2) en b ∧ Cr (vw d2) mid en b) := ⟨HT1.out.s3.of fun k q _ => B.out.2.2 k (.inr q), HT1.out.s4.of fun k q _ => B.out.2.2 k (.inr (by omega)), fun x y q1 q2 q3 q4 => by rw [B.out.2.2 x (.inr q1), B.out.2.2 y (.inr (by omega))]; exact HT1.out.c2 x y q1 q2 q3 q4⟩
                obtain ⟨d3, s3, c1, c2, c3, t3⟩ : ∃ d3 : Array Int, d3.size = d.size ∧ So wt (vw d3) mid b ∧ Sm (vw d2) (vw d3) mid b ∧ Of (vw d2) (vw d3) mid b ∧ SW (eN nn) w0 blk off d3 wr := ⟨d2, s2, by have q := C3.out.2.1; rwa [show en = mid by omega] at q, Sm.refl _ _ _, Of.refl _ _ _, T2.out⟩
                have E := Lib.hid (sym_done (by omega) (by omega) (by omega) (by omega) (by omega) (by omega) V1.out HT1.out B.out c1 c2 c3)
                have T3 := Lib.hid t3
                clear c1 c2 c3 t3
                go_wp2
                all_goals go_end0
                all_goals exact ⟨rfl, d3, s3, E.out.1, E.out.2.1, E.out.2.2, T3.out⟩
              · have g1 : ¬ (i : Int) < (m : Int) := by omega
                have g2 : ¬ (m : Int) < (en : Int) := by omega
                have g3 : ¬ (a : Int) < (i : Int) := by omega
                have g4 : ¬ (i : Int) < (mid : Int) := by omega
                have g5 : ¬ (mid : Int) < (en : Int) := by omega
                have g6 : ¬ (en : Int) < (b : Int) := by omega
                obtain ⟨d1, s1, v1, t1⟩ : ∃ d1 : Array Int, d1.size = d.size ∧ vw d1 = rot (vw d) i m en ∧ SW (eN nn) w0 blk off d1 wr := ⟨d, rfl, (rot_none _ (by omega) (by omega) (by omega)).symm, HS.out⟩
                have V1 := Lib.hid v1
                have T1 := Lib.hid t1
                clear v1 t1
                have HT1 : Hid (Tn wt (vw d1) a mid b i en) := by rw [Hid, V1.out]; exact HT.out
                obtain ⟨d2, s2, b1, b2, b3, t2⟩ : ∃ d2 : Array Int, d2.size = d.size ∧ So wt (vw d2) a mid ∧ Sm (vw d1) (vw d2) a mid ∧ Of (vw d1) (vw d2) a mid ∧ SW (eN nn) w0 blk off d2 wr := ⟨d1, s1, by have q := HT1.out.s2; rwa [show i = a by omega] at q, Sm.refl _ _ _, Of.refl _ _ _, T1.out⟩
                have B := Lib.hid (show So wt (vw d2) a mid ∧ Sm (vw d1) (vw d2) a mid ∧ Of (vw d1) (vw d2) a mid from ⟨b1, b2, b3⟩)
                have T2 := Lib.hid t2
                clear b1 b2 b3 t2
                have C3 : Hid (So wt (vw d2) mid en ∧ So wt (vw d2) en b ∧ Cr (vw d2) mid en b) := ⟨HT1.out.s3.of fun k q _ => B.out.2.2 k (.inr q), HT1.out.s4.of fun k q _ => B.out.2.2 k (.inr (by omega)), fun x y q1 q2 q3 q4 => by rw [B.out.2.2 x (.inr q1), B.out.2.2 y (.inr (by omega))]; exact HT1.out.c2 x y q1 q2 q3 q4⟩
                obtain ⟨d3, s3, c1, c2, c3, t3⟩ : ∃ d3 : Array Int, d3.size = d.size ∧ So wt (vw d3) mid b ∧ Sm (vw d2) (vw d3) mid b ∧ Of (vw d2) (vw d3) mid b ∧ SW (eN nn) w0 blk off d3 wr := ⟨d2, s2, by have q := C3.out.2.1; rwa [show en = mid by omega] at q, Sm.refl _ _ _, Of.refl _ _ _, T2.out⟩
                have E := Lib.hid (sym_done (by omega) (by omega) (by omega) (by omega) (by omega) (by omega) V1.out HT1.out B.out c1 c2 c3)
                have T3 := Lib.hid t3
                clear c1 c2 c3 t3
                go_wp2
                all_goals go_end0
                all_goals exact ⟨rfl, d3, s3, E.out.1, E.out.2.1, E.out.2.2, T3.out⟩
end Go.Proofs.YtckcbfnffmohgaaGreat
namespace Go.Proofs.YtckcbfnffmohgaaGreat
open Go Go.Shelf Go.RowKit Go.Lib Go.Sort SS
set_option linter.unusedVariables false
variable {nn : Nat}

theorem sym_all (wt : Int → Int) (w0 : World) (d0 : Array Int) (blk off : Nat) (cb : Array Value) (hC : CmpLays1 Tryz.prog 81 cb (eN nn) (cfW wt) blk off d0.size w0) (R : Row1 (eN nn) w0 blk off d0) (hsz : d0.size < 100000) : ∀ t, SymC nn wt w0 d0 blk off cb t
  | 0 => fun cap a m b d w h1 h2 h3 _ _ _ _ _ _ => by omega
  | t + 1 => fun cap a m b d w h1 h2 h3 h4 h5 S hx hy hc => by
    by_cases c1 : a + 1 = m
    · subst c1
      exact sym_one wt w0 d0 blk off cap a b d w cb hC R h5 S h3 h4 (by omega) hy hc
    · by_cases c2 : m + 1 = b
      · subst c2
        exact sym_last wt w0 d0 blk off cap a m d w cb hC R h5 S (by omega) h4 (by omega) hx hc
      · exact sym_great wt w0 d0 blk off cap a m b t d w cb (sym_all wt w0 d0 blk off cb hC R hsz t) h1 hC R h5 S (by omega) (by omega) h4 (by omega) hx hy hc
end Go.Proofs.YtckcbfnffmohgaaGreat
namespace Go.Proofs.YtckcbfnffmohgaaGreat
open Go Go.Shelf Go.RowKit Go.Lib Go.Sort SS
set_option linter.unusedVariables false
variable {nn : Nat}

def laysIns_ren : Go.Shelf.Ren := ⟨fun | 20 => 133 | _ => 0, fun | 0 => 0 | 3 => 3 | 4 => 4 | 22 => 39 | 24 => 3 | 25 => 145 | _ => 0, fun | _ => 0⟩
theorem laysIns : Go.Proofs.SlLaysF.n20 Tryz.prog laysIns_ren := {
  mixed := by kernel_rfl,
  f20 := ⟨ "slices.insertionSortCmpFunc[int]", by decide, Tryz.func133.trans (congrArg some (by kernel_rfl))⟩,
  t0 := Tryz.underlying0,
  a0 := Tryz.isAgg0,
  z0 := Tryz.sizeOf0,
  v0 := Tryz.zeroValue0,
  t3 := Tryz.underlying3,
  a3 := Tryz.isAgg3,
  z3 := Tryz.sizeOf3,
  v3 := Tryz.zeroValue3,
  t4 := Tryz.underlying4,
  a4 := Tryz.isAgg4,
  z4 := Tryz.sizeOf4,
  v4 := Tryz.zeroValue4,
  t22 := Tryz.underlying39,
  a22 := Tryz.isAgg39,
  z22 := Tryz.sizeOf39,
  v22 := Tryz.zeroValue39,
  a24 := Tryz.isAgg3,
  z24 := Tryz.sizeOf3,
  t25 := Tryz.underlying145,
  a25 := Tryz.isAgg145,
  z25 := Tryz.sizeOf145,
  v25 := Tryz.zeroValue145 }
theorem light_enters : ∀ args w, (callFunc 81 args).run Tryz.prog w = .ok (.enter 81 args) w := enters_of Tryz.func81 (by kernel_rfl) rfl
theorem ltOf_W (wt : Int → Int) (x y : Int) : ltOf (cfW wt) x y = true ↔ wt x < wt y := by
  unfold ltOf cfW
  rw [decide_eq_true_eq]; omega
theorem ins_any (wt : Int → Int) (w0 : World) (d0 : Array Int) (blk off cap a b : Nat) (d : Array Int) (w : World) (cb : Array Value) (hC : CmpLays1 Tryz.prog 81 cb (eN nn) (cfW wt) blk off d0.size w0) (R : Row1 (eN nn) w0 blk off d0) (hs : d0.size = d.size) (S : SW (eN nn) w0 blk off d w) (hab : a ≤ b) (hb : b ≤ d.size) (hsz : d.size < 100000) (hu : Up (vw d) a b) :
    Calls Tryz.prog 133 #[.slice (some ⟨blk, off, none⟩) d.size cap, .int .i64 a, .int .i64 b, .func (.func 81) #[] cb] w fun e w' => e = .returned (.tuple #[]) ∧ ∃ d' : Array Int, d'.size = d.size ∧ So wt (vw d') a b ∧ Sm (vw d) (vw d') a b ∧ Of (vw d) (vw d') a b ∧ SW (eN nn) w0 blk off d' w' := by
  obtain ⟨i1, i2, i3, i4⟩ := ins_sort (w := wt) (lt := ltOf (cfW wt)) (ltOf_W wt) hu hab hb
  refine (Any.insertionSortCmpFunc_s laysIns (eN nn) (cfW wt) 81 cb blk off cap a b d0 d w0 w light_enters hC R hs S hab hb (by omega)).mono ?_
  rintro e w' ⟨he, hS⟩
  exact ⟨he, _, i1, i2, i3, i4, hS⟩
theorem ins_nil (fv : Value) (w : World) : Calls Tryz.prog 133 #[.slice none 0 0, .int .i64 0, .int .i64 0, fv] w fun e w' => e = .returned (.tuple #[]) ∧ w' = w := by
  go_enter Tryz.func133, Tryz.ntmps133
  go_wp2
  refine wp_loop_rounds 1 ?_
  rw [rounds_succ]
  go_wp2
  go_end0
  exact ⟨rfl, rfl⟩
end Go.Proofs.YtckcbfnffmohgaaGreat
namespace Go.Proofs.YtckcbfnffmohgaaGreat
open Go Go.Shelf Go.RowKit Go.Lib Go.Sort SS
set_option linter.unusedVariables false
variable {nn : Nat}

set_option maxHeartbeats 1000000 in
set_option maxRecDepth 100000 in
theorem stable_any (wt : Int → Int) (w0 : World) (d0 : Array Int) (blk off cap n : Nat) (d : Array Int) (w : World) (cb : Array Value) (hC : CmpLays1 Tryz.prog 81 cb (eN nn) (cfW wt) blk off d0.size w0) (R : Row1 (eN nn) w0 blk off d0) (hs : d0.size = d.size) (S : SW (eN nn) w0 blk off d w) (hn : d.size = n) (hsz : n < 50000) (hu : Up (vw d) 0 n) :
    Calls Tryz.prog 116 #[.slice (some ⟨blk, off, none⟩) n cap, .int .i64 n, .func (.func 81) #[] cb] w fun e w' => e = .returned (.tuple #[]) ∧ ∃ d' : Array Int, d'.size = n ∧ So wt (vw d') 0 n ∧ Sm (vw d) (vw d') 0 n ∧ SW (eN nn) w0 blk off d' w' := by
  have S0 : Hid (SW (eN nn) w0 blk off d w) := S
  have HC := Lib.hid hC
  have HI := Lib.hid (Ins20.start wt (vw d) n 20)
  have HINS := Lib.hid (fun (da : Array Int) (W : World) (a b : Nat) (h1 : da.size = n) (hW : SW (eN nn) w0 blk off da W) (hab : a ≤ b) (hb : b ≤ n) (hu : Up (vw da) a b) => by
    have := ins_any wt w0 d0 blk off cap a b da W cb hC R (by omega) hW hab (by omega) (by omega) hu
    rw [h1] at this; exact this)
  have HSYM := Lib.hid (fun (da : Array Int) (W : World) (a m b : Nat) (h1 : da.size = n) (hW : SW (eN nn) w0 blk off da W) (h2 : a < m) (h3 : m < b) (h4 : b ≤ n) (hx : So wt (vw da) a m) (hy : So wt (vw da) m b) (hc : Cr (vw da) a m b) => by
    have := sym_all wt w0 d0 blk off cb hC R (by omega) (b - a) cap a m b da W (Nat.le_refl _) h2 h3 (by omega) (by omega) hW hx hy hc
    rw [h1] at this; exact this)
  clear S hC
  go_enter Tryz.func116, Tryz.ntmps116
  go_wp2
  go_loopw [7, 8] (fun va vb wr => ∃ (a : Nat) (da : Array Int), va = .int .i64 a ∧ vb = .int .i64 ((a : Int) + 20) ∧ a ≤ n ∧ da.size = n ∧ Hid (Ins20 wt (vw d) (vw da) n 20 a) ∧ Hid (SW (eN nn) w0 blk off da wr)) (fun va _ _ => n - (intOf va).toNat)
  case atStart => exact ⟨0, d, rfl, rfl, Nat.zero_le _, hn, HI.out, S0.out⟩
  case round =>
    clear S0 HI
    obtain ⟨a, da, rfl, rfl, han, hsd, HP, HS⟩ := hrel
    by_cases c : a + 20 ≤ n
    · have hlt : (a : Int) + 20 ≤ (n : Int) := by omega
      have hm : min (a + 20) n = a + 20 := by omega
      have HI2 := Lib.hid (HINS.out da · a (a + 20) hsd · (by omega) c (HP.out.up hu c))
      have e20 : ((a + 20 : Nat) : Int) = (a : Int) + 20 := by omega
      have r20 : IntKind.i64.wrap ((a : Int) + 20 + 20) = (a : Int) + 20 + 20 := IntWalk.i64_in _ (by omega)
      rw [e20] at HI2
      clear e20
      go_wp2_with fail
      go_at_call 133
      refine (HI2.out _ HS.out).mono ?_
      rintro e w2 ⟨rfl, d2, q1, q2, q3, q4, q5⟩
      have HP2 : Hid (Ins20 wt (vw d) (vw d2) n 20 (a + 20)) := HP.out.step (by rw [hm]; exact q2) (by rw [hm]; exact q3) (by rw [hm]; exact q4)
      have Q5 := Lib.hid q5
      clear q2 q3 q4 q5 HI2 HS HP
      go_wp2
      go_roundw
      case rel => exact ⟨a + 20, d2, by go_num, by go_num, c, by omega, HP2, Q5⟩
      case measure => simp [intOf]; omega
    · have hlt : ¬ (a : Int) + 20 ≤ (n : Int) := by omega
      have hm : min (a + 20) n = n := by omega
      have HI2 := Lib.hid (HINS.out da · a n hsd · han (Nat.le_refl _) (HP.out.up hu (Nat.le_refl _)))
      go_wp2_with fail
      go_at_call 133
      refine (HI2.out _ HS.out).mono ?_
      rintro e w2 ⟨rfl, d2, q1, q2, q3, q4, q5⟩
      have HP2 : Hid (Pas wt (vw d) (vw d2) n 20 0) := (HP.out.step (by rw [hm]; exact q2) (by rw [hm]; exact q3) (by rw [hm]; exact q4)).pas (by omega)
      have Q5 := Lib.hid q5
      clear q2 q3 q4 q5 HI2 HS HP
      go_wp2
      go_loopw [6] (fun vs ws => ∃ (bs : Nat) (db : Array Int), vs = .int .i64 bs ∧ 20 ≤ bs ∧ bs ≤ 100000 ∧ db.size = n ∧ Hid (Pas wt (vw d) (vw db) n bs 0) ∧ Hid (SW (eN nn) w0 blk off db ws)) (fun vs _ => n - (intOf vs).toNat)
      case atStart => exact ⟨20, d2, rfl, by omega, by omega, by omega, HP2, Q5⟩
      case round =>
        clear Q5 HP2
        obtain ⟨bs, db, rfl, hb1, hb2, hsb, HB, HT⟩ := hrel
        by_cases c2 : bs < n
        · have hz2 : (bs : Int) < (n : Int) := by omega
          have r2 : IntKind.i64.wrap (2 * (bs : Int)) = 2 * (bs : Int) := IntWalk.i64_in _ (by omega)
          have r3 : IntKind.i64.wrap ((bs : Int) * 2) = 2 * (bs : Int) := (IntWalk.i64_in _ (by omega)).trans (by omega)
          go_wp2
          go_loopw [7, 8] (fun va vb wr => ∃ (a : Nat) (da : Array Int), va = .int .i64 a ∧ vb = .int .i64 ((a : Int) + 2 * (bs : Int)) ∧ a ≤ n ∧ da.size = n ∧ Hid (Pas wt (vw d) (vw da) n bs a) ∧ Hid (SW (eN nn) w0 blk off da wr)) (fun va _ _ => n - (intOf va).toNat)
          case atStart => exact ⟨0, db, rfl, by simp, Nat.zero_le _, hsb, HB.out, HT.out⟩
          case round =>
            clear HB HT
            obtain ⟨a, da, rfl, rfl, han, hsd, HP, HS⟩ := hrel
            have ra : IntKind.i64.wrap ((a : Int) + (bs : Int)) = ((a + bs : Nat) : Int) := (IntWalk.i64_in _ (by omega)).trans (by omega)
            by_cases c3 : a + 2 * bs ≤ n
            · have hlt : (a : Int) + 2 * (bs : Int) ≤ (n : Int) := by omega
              have hm : min (a + 2 * bs) n = a + 2 * bs := by omega
              have hm1 : min (a + bs) n = a + bs := by omega
              have hm2 : a + bs + bs = a + 2 * bs := by omega
              have B2 := HP.out.two (by omega)
              rw [hm2] at B2
              have CR := B2.1.cr hu B2.2 (by omega)
              have s1 := B2.1.so; have s2 := B2.2.so
              rw [hm1] at s1
              rw [hm] at s2 CR
              have HI2 := Lib.hid (HSYM.out da · a (a + bs) (a + 2 * bs) hsd · (by omega) (by omega) c3 s1 s2 CR)
              have e20 : ((a + 2 * bs : Nat) : Int) = (a : Int) + 2 * (bs : Int) := by omega
              have r20 : IntKind.i64.wrap ((a : Int) + 2 * (bs : Int) + 2 * (bs : Int)) = (a : Int) + 2 * (bs : Int) + 2 * (bs : Int) := IntWalk.i64_in _ (by omega)
              rw [e20] at HI2
              clear e20 s1 s2 CR B2 hm2
              go_wp2_with fail
              go_at_call 134
              refine (HI2.out _ HS.out).mono ?_
              rintro e w3 ⟨rfl, d3, q1, q2, q3, q4, q5⟩
              have HP3 : Hid (Pas wt (vw d) (vw d3) n bs (a + 2 * bs)) := HP.out.step (by omega) (by rw [hm]; exact q2) (by rw [hm]; exact q3) (by rw [hm]; exact q4)
              have Q5 := Lib.hid q5
              clear q2 q3 q4 q5 HI2 HS HP
              go_wp2
              go_roundw
              case rel => exact ⟨a + 2 * bs, d3, by go_num, by go_num, c3, by omega, HP3, Q5⟩
              case measure => simp [intOf]; omega
            · have hlt : ¬ (a : Int) + 2 * (bs : Int) ≤ (n : Int) := by omega
              by_cases c4 : a + bs < n
              · have hlt4 : ((a + bs : Nat) : Int) < (n : Int) := by omega
                have hm : min (a + 2 * bs) n = n := by omega
                have hm1 : min (a + bs) n = a + bs := by omega
                have hm2 : a + bs + bs = a + 2 * bs := by omega
                have B2 := HP.out.two c4
                rw [hm2] at B2
                have CR := B2.1.cr hu B2.2 (by omega)
                have s1 := B2.1.so; have s2 := B2.2.so
                rw [hm1] at s1
                rw [hm] at s2 CR
                have HI2 := Lib.hid (HSYM.out da · a (a + bs) n hsd · (by omega) c4 (Nat.le_refl _) s1 s2 CR)
                clear s1 s2 CR B2 hm2
                go_wp2_with fail
                go_at_call 134
                refine (HI2.out _ HS.out).mono ?_
                rintro e w3 ⟨rfl, d3, q1, q2, q3, q4, q5⟩
                have HP3 : Hid (Pas wt (vw d) (vw d3) n (2 * bs) 0) := (HP.out.step c4 (by rw [hm]; exact q2) (by rw [hm]; exact q3) (by rw [hm]; exact q4)).over (by omega)
                have Q5 := Lib.hid q5
                clear q2 q3 q4 q5 HI2 HS HP
                go_wp2
                go_roundw
                case rel => exact ⟨2 * bs, d3, by go_num, by omega, by omega, by omega, HP3, Q5⟩
                case measure => simp [intOf]; omega
              · have hlt4 : ¬ ((a + bs : Nat) : Int) < (n : Int) := by omega
                have HP3 : Hid (Pas wt (vw d) (vw da) n (2 * bs) 0) := HP.out.over (by omega)
                clear HP
                go_wp2
                go_roundw
                case rel => exact ⟨2 * bs, da, by go_num, by omega, by omega, by omega, HP3, HS.out⟩
                case measure => simp [intOf]; omega
        · have hz2 : ¬ (bs : Int) < (n : Int) := by omega
          go_wp2
          go_end0
          obtain ⟨z1, z2⟩ := HB.out.all (by omega)
          exact ⟨rfl, db, hsb, z1, z2, HT.out⟩

theorem stable_nil (fv : Value) (w : World) : Calls Tryz.prog 116 #[.slice none 0 0, .int .i64 0, fv] w fun e w' => e = .returned (.tuple #[]) ∧ w' = w := by
  have HI := Lib.hid (ins_nil fv w)
  go_enter Tryz.func116, Tryz.ntmps116
  go_wp2
  refine wp_loop_rounds 1 ?_
  rw [rounds_succ]
  go_wp2_with fail
  go_at_call 133
  refine HI.out.mono ?_
  rintro e w' ⟨rfl, rfl⟩
  go_wp2
  refine wp_loop_rounds 1 ?_
  rw [rounds_succ]
  go_wp2
  go_end0
  exact ⟨rfl, rfl⟩
end Go.Proofs.YtckcbfnffmohgaaGreat
