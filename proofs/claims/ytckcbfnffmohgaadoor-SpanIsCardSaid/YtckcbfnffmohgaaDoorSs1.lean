/-
  Stable sorting in plain (no program in sight): a row is a function of its places; exchange of two stretches, turning a stretch about a place, and the merge of two sorted stretches by turning (symMerge): what must hold for the whole to be sorted. The order: by weight, then by the number itself.
-/
namespace Go.Proofs.YtckcbfnffmohgaaDoor.SS

/-- By weight, then by number. -/
def lx (w : Int → Int) (x y : Int) : Prop := w x < w y ∨ (w x = w y ∧ x < y)
theorem lx_irrefl (w : Int → Int) (x : Int) : ¬ lx w x x := by unfold lx; omega
theorem lx_trans {w : Int → Int} {x y z : Int} (h1 : lx w x y) (h2 : lx w y z) : lx w x z := by unfold lx at *; omega
theorem lx_total (w : Int → Int) (x y : Int) : lx w x y ∨ x = y ∨ lx w y x := by unfold lx; omega
theorem lx_asymm {w : Int → Int} {x y : Int} (h1 : lx w x y) (h2 : lx w y x) : False := lx_irrefl w x (lx_trans h1 h2)

/-- Sorted from place a to place b. -/
def So (w : Int → Int) (f : Nat → Int) (a b : Nat) : Prop := ∀ i j, a ≤ i → i < j → j < b → lx w (f i) (f j)
/-- The same members from a to b. -/
def Sm (f g : Nat → Int) (a b : Nat) : Prop := ∀ x, (∃ k, a ≤ k ∧ k < b ∧ g k = x) ↔ (∃ k, a ≤ k ∧ k < b ∧ f k = x)
/-- All that stands in the one stretch is less, as a number, than all in the other. -/
def Cr (f : Nat → Int) (a m b : Nat) : Prop := ∀ i j, a ≤ i → i < m → m ≤ j → j < b → f i < f j
/-- The same but from a to b. -/
def Of (f g : Nat → Int) (a b : Nat) : Prop := ∀ k, k < a ∨ b ≤ k → g k = f k

theorem Sm.refl (f : Nat → Int) (a b : Nat) : Sm f f a b := fun _ => Iff.rfl
theorem Sm.trans {f g h : Nat → Int} {a b : Nat} (h1 : Sm f g a b) (h2 : Sm g h a b) : Sm f h a b := fun x => (h2 x).trans (h1 x)
theorem Of.refl (f : Nat → Int) (a b : Nat) : Of f f a b := fun _ _ => rfl
theorem Of.trans {f g h : Nat → Int} {a b : Nat} (h1 : Of f g a b) (h2 : Of g h a b) : Of f h a b := fun k hk => (h2 k hk).trans (h1 k hk)
theorem Of.wide {f g : Nat → Int} {a b c d : Nat} (h : Of f g a b) (h1 : c ≤ a) (h2 : b ≤ d) : Of f g c d := fun k hk => h k (by omega)
theorem Sm.mem {f g : Nat → Int} {a b k : Nat} (h : Sm f g a b) (h1 : a ≤ k) (h2 : k < b) : ∃ j, a ≤ j ∧ j < b ∧ f j = g k := (h (g k)).1 ⟨k, h1, h2, rfl⟩
theorem Sm.mem' {f g : Nat → Int} {a b k : Nat} (h : Sm f g a b) (h1 : a ≤ k) (h2 : k < b) : ∃ j, a ≤ j ∧ j < b ∧ g j = f k := (h (f k)).2 ⟨k, h1, h2, rfl⟩
/-- A stretch inside another. -/
theorem Sm.wide {f g : Nat → Int} {a b c d : Nat} (h : Sm f g a b) (ho : Of f g a b) (h1 : c ≤ a) (h2 : b ≤ d) : Sm f g c d := fun x => by
  constructor
  · rintro ⟨k, k1, k2, rfl⟩
    by_cases q : a ≤ k ∧ k < b
    · obtain ⟨j, j1, j2, j3⟩ := h.mem q.1 q.2
      exact ⟨j, by omega, by omega, j3⟩
    · exact ⟨k, k1, k2, (ho k (by omega)).symm⟩
  · rintro ⟨k, k1, k2, rfl⟩
    by_cases q : a ≤ k ∧ k < b
    · obtain ⟨j, j1, j2, j3⟩ := h.mem' q.1 q.2
      exact ⟨j, by omega, by omega, j3⟩
    · exact ⟨k, k1, k2, ho k (by omega)⟩
theorem So.of {w : Int → Int} {f g : Nat → Int} {a b : Nat} (h : So w f a b) (he : ∀ k, a ≤ k → k < b → g k = f k) : So w g a b := fun i j h1 h2 h3 => by
  rw [he i h1 (by omega), he j (by omega) h3]; exact h i j h1 h2 h3
theorem So.in_ {w : Int → Int} {f : Nat → Int} {a b c d : Nat} (h : So w f a b) (h1 : a ≤ c) (h2 : d ≤ b) : So w f c d := fun i j q1 q2 q3 => h i j (by omega) q2 (by omega)
/-- Two sorted stretches, all of the first ahead of all of the second. -/
theorem So.join {w : Int → Int} {f : Nat → Int} {a m b : Nat} (h1 : So w f a m) (h2 : So w f m b) (h : ∀ i j, a ≤ i → i < m → m ≤ j → j < b → lx w (f i) (f j)) : So w f a b := fun i j q1 q2 q3 => by
  by_cases c : j < m
  · exact h1 i j q1 q2 c
  · by_cases d : i < m
    · exact h i j q1 d (by omega) q3
    · exact h2 i j (by omega) q2 q3

/-! ### Two stretches exchanged -/
/-- The first i places of the stretches at a and at b are exchanged. -/
def swr (f : Nat → Int) (a b i : Nat) (k : Nat) : Int := if a ≤ k ∧ k < a + i then f (k - a + b) else if b ≤ k ∧ k < b + i then f (k - b + a) else f k
theorem swr_zero (f : Nat → Int) (a b : Nat) : swr f a b 0 = f := by
  funext k; unfold swr; rw [if_neg (by omega), if_neg (by omega)]
/-- One exchange more. -/
theorem swr_step {f : Nat → Int} {a b i : Nat} (h : a + i < b) (k : Nat) : swr f a b (i + 1) k = if k = a + i then swr f a b i (b + i) else if k = b + i then swr f a b i (a + i) else swr f a b i k := by
  unfold swr
  by_cases h1 : k = a + i
  · subst h1
    rw [if_pos (by omega), if_pos rfl, if_neg (by omega), if_neg (by omega)]
    congr 1; omega
  · rw [if_neg h1]
    by_cases h2 : k = b + i
    · subst h2
      rw [if_pos rfl, if_neg (by omega), if_pos (by omega), if_neg (by omega), if_neg (by omega)]
      congr 1; omega
    · rw [if_neg h2]
      by_cases h3 : a ≤ k ∧ k < a + i
      · rw [if_pos (by omega), if_pos h3]
      · rw [if_neg (by omega), if_neg h3]
        by_cases h4 : b ≤ k ∧ k < b + i
        · rw [if_pos (by omega), if_pos h4]
        · rw [if_neg (by omega), if_neg h4]

/-! ### Turned about a place -/
/-- The stretches from a to m and from m to b change places. -/
def rot (f : Nat → Int) (a m b : Nat) (k : Nat) : Int := if k < a ∨ b ≤ k then f k else if k < a + (b - m) then f (k + m - a) else f (k - (b - m))
theorem rot_left {f : Nat → Int} {m i j : Nat} (hi : i ≤ m) (hij : j < i) : rot (swr f (m - i) m j) (m - (i - j)) m (m + j) = rot f (m - i) m (m + j) := by
  funext k
  unfold rot
  by_cases h1 : k < m - i ∨ m + j ≤ k
  · rw [if_pos (by omega), if_pos h1]
    unfold swr; rw [if_neg (by omega), if_neg (by omega)]
  · rw [if_neg h1]
    by_cases h2 : k < m - (i - j)
    · rw [if_pos (by omega), if_pos (by omega)]
      unfold swr; rw [if_pos (by omega)]
      congr 1; omega
    · rw [if_neg (by omega), if_neg (c := k < m - i + (m + j - m)) (by omega)]
      by_cases h3 : k < m - (i - j) + (m + j - m)
      · rw [if_pos h3]
        unfold swr
        rw [if_neg (by omega), if_pos (by omega)]
        congr 1; omega
      · rw [if_neg h3]
        unfold swr
        rw [if_neg (by omega), if_neg (by omega)]
theorem rot_right {f : Nat → Int} {m i j : Nat} (hi : i ≤ m) (hij : i < j) : rot (swr f (m - i) (m + j - i) i) (m - i) m (m + (j - i)) = rot f (m - i) m (m + j) := by
  funext k
  unfold rot
  by_cases h1 : k < m - i ∨ m + j ≤ k
  · rw [if_pos (by omega), if_pos h1]
    unfold swr; rw [if_neg (by omega), if_neg (by omega)]
  · rw [if_neg h1]
    by_cases h2 : m + (j - i) ≤ k
    · rw [if_pos (by omega), if_neg (by omega)]
      unfold swr
      rw [if_neg (by omega), if_pos (by omega)]
      congr 1; omega
    · rw [if_neg (by omega)]
      by_cases h3 : k < m - i + (m + (j - i) - m)
      · rw [if_pos h3, if_pos (by omega)]
        unfold swr
        rw [if_neg (by omega), if_neg (by omega)]
      · rw [if_neg h3]
        unfold swr
        rw [if_pos (by omega), if_pos (by omega)]
        congr 1; omega
theorem rot_end {f : Nat → Int} {m i : Nat} (hi : i ≤ m) : swr f (m - i) m i = rot f (m - i) m (m + i) := by
  funext k
  unfold rot swr
  by_cases h1 : k < m - i ∨ m + i ≤ k
  · rw [if_pos h1, if_neg (by omega), if_neg (by omega)]
  · rw [if_neg h1]
    by_cases h2 : k < m
    · rw [if_pos (by omega), if_pos (by omega)]
      congr 1; omega
    · rw [if_neg (by omega), if_pos (by omega), if_neg (by omega)]
      congr 1; omega
/-- Nothing to turn. -/
theorem rot_none (f : Nat → Int) {a m b : Nat} (h : a = m ∨ m = b) (ha : a ≤ m) (hb : m ≤ b) : rot f a m b = f := by
  funext k
  unfold rot
  by_cases h1 : k < a ∨ b ≤ k
  · rw [if_pos h1]
  · rw [if_neg h1]
    rcases h with rfl | rfl
    · rw [if_pos (by omega)]; congr 1; omega
    · rw [if_neg (by omega)]; congr 1; omega
theorem rot_of (f : Nat → Int) (a m b : Nat) : Of f (rot f a m b) a b := fun k hk => by unfold rot; rw [if_pos hk]
theorem rot_sm (f : Nat → Int) {a m b : Nat} (ha : a ≤ m) (hb : m ≤ b) : Sm f (rot f a m b) a b := fun x => by
  constructor
  · rintro ⟨k, k1, k2, rfl⟩
    unfold rot
    rw [if_neg (by omega)]
    by_cases h : k < a + (b - m)
    · rw [if_pos h]; exact ⟨k + m - a, by omega, by omega, rfl⟩
    · rw [if_neg h]; exact ⟨k - (b - m), by omega, by omega, rfl⟩
  · rintro ⟨k, k1, k2, rfl⟩
    by_cases h : k < m
    · refine ⟨k + (b - m), by omega, by omega, ?_⟩
      unfold rot; rw [if_neg (by omega), if_neg (by omega)]; congr 1; omega
    · refine ⟨k - m + a, by omega, by omega, ?_⟩
      unfold rot; rw [if_neg (by omega), if_pos (by omega)]; congr 1; omega
theorem rot_lo (f : Nat → Int) {a m b k : Nat} (h1 : a ≤ k) (h2 : k < a + (b - m)) (hb : m ≤ b) (ha : a ≤ m) : rot f a m b k = f (k + m - a) := by unfold rot; rw [if_neg (by omega), if_pos h2]
theorem rot_hi (f : Nat → Int) {a m b k : Nat} (h1 : a + (b - m) ≤ k) (h2 : k < b) : rot f a m b k = f (k - (b - m)) := by unfold rot; rw [if_neg (by omega), if_neg (by omega)]

/-! ### The merge -/
/-- What the search for the place of the turn has found. -/
structure Cut (w : Int → Int) (f : Nat → Int) (a m b mid st en : Nat) : Prop where
  sum : st + en = mid + m
  sa : a ≤ st
  sm : st ≤ m
  me : m ≤ en
  eb : en ≤ b
  am : a ≤ mid
  mb : mid ≤ b
  one : st < m → m < en → lx w (f (en - 1)) (f st)
  two : a < st → en < b → lx w (f (st - 1)) (f en)

/-- Behind the turn: both halves are two sorted stretches each. -/
structure Tn (w : Int → Int) (f1 : Nat → Int) (a mid b st en : Nat) : Prop where
  s1 : So w f1 a st
  s2 : So w f1 st mid
  s3 : So w f1 mid en
  s4 : So w f1 en b
  c1 : Cr f1 a st mid
  c2 : Cr f1 mid en b
  sep : ∀ i j, a ≤ i → i < mid → mid ≤ j → j < b → lx w (f1 i) (f1 j)

theorem Cut.turn {w : Int → Int} {f : Nat → Int} {a m b mid st en : Nat} (h : Cut w f a m b mid st en) (hx : So w f a m) (hy : So w f m b) (hc : Cr f a m b) : Tn w (rot f st m en) a mid b st en := by
  obtain ⟨q1, q2, q3, q4, q5, q6, q7, one, two⟩ := h
  have e1 : ∀ k, k < st → rot f st m en k = f k := fun k hk => rot_of f st m en k (.inl hk)
  have e4 : ∀ k, en ≤ k → rot f st m en k = f k := fun k hk => rot_of f st m en k (.inr hk)
  have e2 : ∀ k, st ≤ k → k < mid → rot f st m en k = f (k + m - st) := fun k h1 h2 => rot_lo f h1 (by omega) q4 q3
  have e3 : ∀ k, mid ≤ k → k < en → rot f st m en k = f (k - (en - m)) := fun k h1 h2 => rot_hi f (by omega) h2
  -- the four parts beside each other
  have x12 : ∀ i j, a ≤ i → i < st → en ≤ j → j < b → lx w (f i) (f j) := fun i j h1 h2 h3 h4 => by
    have t := two (by omega) (by omega)
    have t1 : f i = f (st - 1) ∨ lx w (f i) (f (st - 1)) := by
      by_cases e : i = st - 1
      · exact .inl (by rw [e])
      · exact .inr (hx i (st - 1) h1 (by omega) (by omega))
    have t2 : f j = f en ∨ lx w (f en) (f j) := by
      by_cases e : j = en
      · exact .inl (by rw [e])
      · exact .inr (hy en j q4 (by omega) h4)
    rcases t1 with t1 | t1 <;> rcases t2 with t2 | t2
    · rw [t1, t2]; exact t
    · rw [t1]; exact lx_trans t t2
    · rw [t2]; exact lx_trans t1 t
    · exact lx_trans t1 (lx_trans t t2)
  have y12 : ∀ i j, m ≤ i → i < en → st ≤ j → j < m → lx w (f i) (f j) := fun i j h1 h2 h3 h4 => by
    have t := one (by omega) (by omega)
    have t1 : f i = f (en - 1) ∨ lx w (f i) (f (en - 1)) := by
      by_cases e : i = en - 1
      · exact .inl (by rw [e])
      · exact .inr (hy i (en - 1) h1 (by omega) (by omega))
    have t2 : f j = f st ∨ lx w (f st) (f j) := by
      by_cases e : j = st
      · exact .inl (by rw [e])
      · exact .inr (hx st j q2 (by omega) h4)
    rcases t1 with t1 | t1 <;> rcases t2 with t2 | t2
    · rw [t1, t2]; exact t
    · rw [t1]; exact lx_trans t t2
    · rw [t2]; exact lx_trans t1 t
    · exact lx_trans t1 (lx_trans t t2)
  refine ⟨?_, ?_, ?_, ?_, ?_, ?_, ?_⟩
  · intro i j h1 h2 h3
    rw [e1 i (by omega), e1 j h3]; exact hx i j h1 h2 (by omega)
  · intro i j h1 h2 h3
    rw [e2 i h1 (by omega), e2 j (by omega) h3]; exact hy _ _ (by omega) (by omega) (by omega)
  · intro i j h1 h2 h3
    rw [e3 i h1 (by omega), e3 j (by omega) h3]; exact hx _ _ (by omega) (by omega) (by omega)
  · intro i j h1 h2 h3
    rw [e4 i h1, e4 j (by omega)]; exact hy i j (by omega) h2 h3
  · intro i j h1 h2 h3 h4
    rw [e1 i h2, e2 j h3 h4]; exact hc i _ h1 (by omega) (by omega) (by omega)
  · intro i j h1 h2 h3 h4
    rw [e3 i h1 h2, e4 j h3]; exact hc _ j (by omega) (by omega) (by omega) h4
  · intro i j h1 h2 h3 h4
    by_cases c : i < st
    · rw [e1 i c]
      by_cases d : j < en
      · rw [e3 j h3 d]; exact hx i _ h1 (by omega) (by omega)
      · rw [e4 j (by omega)]; exact x12 i j h1 c (by omega) h4
    · rw [e2 i (by omega) h2]
      by_cases d : j < en
      · rw [e3 j h3 d]; exact y12 _ _ (by omega) (by omega) (by omega) (by omega)
      · rw [e4 j (by omega)]; exact hy _ j (by omega) (by omega) h4

/-- Behind the two merges all is sorted. -/
theorem Tn.done {w : Int → Int} {f1 f2 f3 : Nat → Int} {a mid b st en : Nat} (h : Tn w f1 a mid b st en) (am : a ≤ mid) (mb : mid ≤ b) (o2 : Of f1 f2 a mid) (m2 : Sm f1 f2 a mid) (s2 : So w f2 a mid) (o3 : Of f2 f3 mid b) (m3 : Sm f2 f3 mid b) (s3 : So w f3 mid b) :
    So w f3 a b ∧ Of f1 f3 a b ∧ Sm f1 f3 a b := by
  have e3 : ∀ k, k < mid → f3 k = f2 k := fun k hk => o3 k (.inl hk)
  have e2 : ∀ k, mid ≤ k → f2 k = f1 k := fun k hk => o2 k (.inr hk)
  refine ⟨So.join (s2.of fun k _ h2 => e3 k h2) s3 ?_, (o2.wide (Nat.le_refl _) mb).trans (o3.wide am (Nat.le_refl _)), (m2.wide o2 (Nat.le_refl _) mb).trans (m3.wide o3 am (Nat.le_refl _))⟩
  intro i j h1 h2 h3 h4
  rw [e3 i h2]
  obtain ⟨i', a1, a2, a3⟩ := m2.mem h1 h2
  obtain ⟨j', b1, b2, b3⟩ := m3.mem h3 h4
  rw [← a3, ← b3, e2 j' b1]
  exact h.sep i' j' a1 a2 b1 b2

/-! ### One into many -/
/-- The first is taken behind the next ones: it stands at place e - 1. -/
theorem one_into {w : Int → Int} {f : Nat → Int} {a b e : Nat} (hy : So w f (a + 1) b) (h1 : a + 1 ≤ e) (h2 : e ≤ b) (lo : ∀ k, a + 1 ≤ k → k < e → lx w (f k) (f a)) (hi : ∀ k, e ≤ k → k < b → lx w (f a) (f k)) :
    So w (rot f a (a + 1) e) a b := by
  have e1 : ∀ k, a ≤ k → k + 1 < e → rot f a (a + 1) e k = f (k + 1) := fun k q1 q2 => by
    rw [rot_lo f q1 (by omega) h1 (by omega)]; congr 1; omega
  have e2 : rot f a (a + 1) e (e - 1) = f a := by
    rw [rot_hi f (by omega) (by omega)]; congr 1; omega
  have e3 : ∀ k, e ≤ k → rot f a (a + 1) e k = f k := fun k q => rot_of f a (a + 1) e k (.inr q)
  intro i j q1 q2 q3
  by_cases c : j + 1 < e
  · rw [e1 i q1 (by omega), e1 j (by omega) c]; exact hy _ _ (by omega) (by omega) (by omega)
  · by_cases d : j + 1 = e
    · obtain rfl : j = e - 1 := by omega
      rw [e2, e1 i q1 (by omega)]; exact lo _ (by omega) (by omega)
    · rw [e3 j (by omega)]
      by_cases c1 : i + 1 < e
      · rw [e1 i q1 c1]; exact hy _ _ (by omega) (by omega) q3
      · by_cases d1 : i + 1 = e
        · obtain rfl : i = e - 1 := by omega
          rw [e2]; exact hi j (by omega) q3
        · rw [e3 i (by omega)]; exact hy _ _ (by omega) q2 q3
/-- The last is taken ahead of those behind place e: it stands at place e. -/
theorem last_into {w : Int → Int} {f : Nat → Int} {a m e : Nat} (hx : So w f a m) (h1 : a ≤ e) (h2 : e ≤ m) (lo : ∀ k, a ≤ k → k < e → lx w (f k) (f m)) (hi : ∀ k, e ≤ k → k < m → lx w (f m) (f k)) :
    So w (rot f e m (m + 1)) a (m + 1) := by
  have e1 : ∀ k, k < e → rot f e m (m + 1) k = f k := fun k q => rot_of f e m (m + 1) k (.inl q)
  have e2 : rot f e m (m + 1) e = f m := by
    rw [rot_lo f (Nat.le_refl _) (by omega) (by omega) h2]; congr 1; omega
  have e3 : ∀ k, e < k → k < m + 1 → rot f e m (m + 1) k = f (k - 1) := fun k q1 q2 => by
    rw [rot_hi f (by omega) q2]; congr 1; omega
  intro i j q1 q2 q3
  by_cases c : j < e
  · rw [e1 i (by omega), e1 j c]; exact hx _ _ q1 q2 (by omega)
  · by_cases d : j = e
    · subst d
      rw [e2, e1 i q2]; exact lo i q1 q2
    · rw [e3 j (by omega) q3]
      by_cases c1 : i < e
      · rw [e1 i c1]; exact hx _ _ q1 (by omega) (by omega)
      · by_cases d1 : i = e
        · subst d1
          rw [e2]; exact hi _ (by omega) (by omega)
        · rw [e3 i (by omega) (by omega)]; exact hx _ _ (by omega) (by omega) (by omega)
/-- The one that moves right, place by place. -/
theorem rot_right_one {f : Nat → Int} {a k : Nat} (h : a ≤ k) (x : Nat) : rot f a (a + 1) (k + 2) x = if x = k then rot f a (a + 1) (k + 1) (k + 1) else if x = k + 1 then rot f a (a + 1) (k + 1) k else rot f a (a + 1) (k + 1) x := by
  unfold rot
  by_cases h1 : x = k
  · subst h1
    rw [if_neg (by omega), if_pos (by omega), if_pos rfl, if_pos (by omega)]
    congr 1; omega
  · rw [if_neg h1]
    by_cases h2 : x = k + 1
    · subst h2
      rw [if_neg (by omega), if_neg (by omega), if_pos rfl, if_neg (by omega), if_neg (by omega)]
      congr 1; omega
    · rw [if_neg h2]
      by_cases h3 : x < a ∨ k + 1 ≤ x
      · rw [if_pos (by omega), if_pos h3]
      · rw [if_neg (by omega), if_neg h3, if_pos (by omega), if_pos (by omega)]
/-- The one that moves left, place by place. -/
theorem rot_left_one {f : Nat → Int} {m k : Nat} (h : k < m) (x : Nat) : rot f k m (m + 1) x = if x = k + 1 then rot f (k + 1) m (m + 1) k else if x = k then rot f (k + 1) m (m + 1) (k + 1) else rot f (k + 1) m (m + 1) x := by
  unfold rot
  by_cases h1 : x = k + 1
  · subst h1
    rw [if_neg (by omega), if_neg (by omega), if_pos rfl, if_pos (by omega)]
    congr 1; omega
  · rw [if_neg h1]
    by_cases h2 : x = k
    · subst h2
      rw [if_neg (by omega), if_pos (by omega), if_pos rfl, if_neg (by omega), if_pos (by omega)]
      congr 1; omega
    · rw [if_neg h2]
      by_cases h3 : x < k + 1 ∨ m + 1 ≤ x
      · rw [if_pos (by omega), if_pos h3]
      · rw [if_neg (by omega), if_neg h3, if_neg (by omega), if_neg (by omega)]
end Go.Proofs.YtckcbfnffmohgaaDoor.SS
