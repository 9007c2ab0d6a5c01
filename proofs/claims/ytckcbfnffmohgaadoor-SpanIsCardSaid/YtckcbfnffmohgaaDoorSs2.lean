/-
  Stable sorting in plain, second part: insertion (the kit's own function on arrays) at numbers that rise; stretches of a length that are sorted; a round of merges. No program in sight.
-/
import Derived.Test.YtckcbfnffmohgaaDoorSs1
import Derived.Sort.WalkA
import Derived.Sort.LotA
namespace Go.Proofs.YtckcbfnffmohgaaDoor.SS
open Go.Sort

/-- An array's row as a function of its places. -/
def vw (d : Array Int) (k : Nat) : Int := d[k]!
theorem vw_swp (d : Array Int) {i j : Nat} (hi : i < d.size) (hj : j < d.size) (k : Nat) : vw (swp d i j) k = if k = i then vw d j else if k = j then vw d i else vw d k := by
  unfold vw
  by_cases h1 : k = i
  · subst h1
    rw [if_pos rfl]
    by_cases h2 : k = j
    · subst h2; exact swp_right d k k hj
    · exact swp_left d k j hi h2
  · rw [if_neg h1]
    by_cases h2 : k = j
    · subst h2; rw [if_pos rfl]; exact swp_right d i k hj
    · rw [if_neg h2]; exact swp_other d i j k h1 h2

variable {w : Int → Int} {lt : Int → Int → Bool}

theorem ins_inner (hl : ∀ x y, lt x y = true ↔ w x < w y) {f : Nat → Int} {a i : Nat} : ∀ (j : Nat) (d : Array Int), a ≤ j → j ≤ i → i < d.size → (∀ k, vw d k = rot f j i (i + 1) k) → (∀ k, j ≤ k → k < i → w (f i) < w (f k)) →
    ∃ e, a ≤ e ∧ e ≤ i ∧ (insInner lt a j d).size = d.size ∧ (∀ k, vw (insInner lt a j d) k = rot f e i (i + 1) k) ∧ (∀ k, e ≤ k → k < i → w (f i) < w (f k)) ∧ (e = a ∨ ¬ w (f i) < w (f (e - 1)))
  | 0, d, haj, hji, hi, hv, hk => by
    rw [insInner]
    exact ⟨0, haj, hji, rfl, hv, hk, .inl (by omega)⟩
  | j + 1, d, haj, hji, hi, hv, hk => by
    have v1 : d[j + 1]! = f i := by
      have := hv (j + 1)
      rw [rot_lo f (Nat.le_refl _) (by omega) (by omega) hji] at this
      rw [show d[j + 1]! = vw d (j + 1) from rfl, this]; congr 1; omega
    have v0 : d[j]! = f j := by
      have := hv j
      rw [rot_of f (j + 1) i (i + 1) j (.inl (by omega))] at this
      exact this
    by_cases c : a < j + 1 ∧ w (f i) < w (f j)
    · have hg := insInner_go lt a (j + 1) d c.1 (by simp only [Nat.add_sub_cancel]; rw [v1, v0]; exact (hl _ _).2 c.2)
      simp only [Nat.add_sub_cancel] at hg
      rw [hg]
      obtain ⟨e, e1, e2, e3, e4, e5, e6⟩ := ins_inner hl (f := f) (a := a) (i := i) j (swp d (j + 1) j) (by omega) (by omega) (by rw [size_swp]; exact hi) (fun k => by
        rw [vw_swp d (i := j + 1) (j := j) (by omega) (by omega) k, rot_left_one (f := f) (m := i) (k := j) (by omega) k, hv, hv, hv]) (fun k q1 q2 => by
        by_cases e : k = j
        · subst e; exact c.2
        · exact hk k (by omega) q2)
      exact ⟨e, e1, e2, by rw [e3, size_swp], e4, e5, e6⟩
    · have hs : insInner lt a (j + 1) d = d := insInner_stop lt a (j + 1) d (by
        by_cases q : a < j + 1
        · right
          simp only [Nat.add_sub_cancel]
          rw [v1, v0]
          cases h : lt (f i) (f j) with
          | false => rfl
          | true => exact absurd ⟨q, (hl _ _).1 h⟩ c
        · left; omega)
      rw [hs]
      refine ⟨j + 1, haj, hji, rfl, hv, hk, ?_⟩
      by_cases q : a < j + 1
      · right; intro h; exact c ⟨q, h⟩
      · left; omega

/-- The numbers rise from a to b. -/
def Up (f : Nat → Int) (a b : Nat) : Prop := ∀ i j, a ≤ i → i < j → j < b → f i < f j

theorem ins_outer (hl : ∀ x y, lt x y = true ↔ w x < w y) {f0 : Nat → Int} {a b : Nat} (hu : Up f0 a b) : ∀ (t i : Nat) (d : Array Int), b - i = t → a < i → i ≤ b → b ≤ d.size → So w (vw d) a i → Sm f0 (vw d) a i → Of f0 (vw d) a i →
    (insOuter lt a b i d).size = d.size ∧ So w (vw (insOuter lt a b i d)) a b ∧ Sm f0 (vw (insOuter lt a b i d)) a b ∧ Of f0 (vw (insOuter lt a b i d)) a b
  | 0, i, d, ht, hai, hib, hb, hs, hm, ho => by
    obtain rfl : i = b := by omega
    rw [insOuter_stop lt a i i d (by omega)]
    exact ⟨rfl, hs, hm, ho⟩
  | t + 1, i, d, ht, hai, hib, hb, hs, hm, ho => by
    have hlt : i < b := by omega
    rw [insOuter_go lt a b i d hlt]
    have hx : vw d i = f0 i := ho i (.inr (Nat.le_refl _))
    have hnum : ∀ k, a ≤ k → k < i → vw d k < vw d i := fun k q1 q2 => by
      obtain ⟨j, j1, j2, j3⟩ := hm.mem q1 q2
      rw [← j3, hx]; exact hu j i j1 j2 hlt
    obtain ⟨e, e1, e2, e3, e4, e5, e6⟩ := ins_inner hl (f := vw d) (a := a) (i := i) i d (by omega) (Nat.le_refl _) (by omega) (fun k => by rw [rot_none (vw d) (.inl rfl) (Nat.le_refl _) (by omega)]) (fun k q1 q2 => by omega)
    have e4' : vw (insInner lt a i d) = rot (vw d) e i (i + 1) := funext e4
    have hs' : So w (vw (insInner lt a i d)) a (i + 1) := by
      rw [e4']
      refine last_into hs e1 e2 ?_ ?_
      · intro k q1 q2
        have h1 : lx w (vw d (e - 1)) (vw d i) := by
          rcases e6 with h | h
          · omega
          · have := hnum (e - 1) (by omega) (by omega)
            unfold lx; omega
        by_cases c : k = e - 1
        · rw [c]; exact h1
        · exact lx_trans (hs k (e - 1) q1 (by omega) (by omega)) h1
      · intro k q1 q2
        exact .inl (e5 k q1 q2)
    have r1 : Sm (vw d) (vw (insInner lt a i d)) a (i + 1) := by
      rw [e4']; exact (rot_sm (vw d) e2 (by omega)).wide (rot_of _ _ _ _) e1 (Nat.le_refl _)
    have r2 : Of (vw d) (vw (insInner lt a i d)) a (i + 1) := by
      rw [e4']; exact (rot_of (vw d) e i (i + 1)).wide e1 (Nat.le_refl _)
    obtain ⟨z1, z2, z3, z4⟩ := ins_outer hl hu t (i + 1) (insInner lt a i d) (by omega) (by omega) (by omega) (by rw [e3]; exact hb) hs'
      ((hm.wide ho (Nat.le_refl _) (Nat.le_succ _)).trans r1) ((ho.wide (Nat.le_refl _) (Nat.le_succ _)).trans r2)
    exact ⟨by rw [z1, e3], z2, z3, z4⟩
/-- Insertion at numbers that rise is stable. -/
theorem ins_sort (hl : ∀ x y, lt x y = true ↔ w x < w y) {d : Array Int} {a b : Nat} (hu : Up (vw d) a b) (hab : a ≤ b) (hb : b ≤ d.size) :
    (insertionSort lt d a b).size = d.size ∧ So w (vw (insertionSort lt d a b)) a b ∧ Sm (vw d) (vw (insertionSort lt d a b)) a b ∧ Of (vw d) (vw (insertionSort lt d a b)) a b := by
  unfold insertionSort
  by_cases h : a < b
  · exact ins_outer hl hu _ (a + 1) d rfl (by omega) (by omega) hb (fun i j q1 q2 q3 => by omega) (Sm.refl _ _ _) (Of.refl _ _ _)
  · rw [insOuter_stop lt a b (a + 1) d (by omega)]
    exact ⟨rfl, fun i j q1 q2 q3 => by omega, Sm.refl _ _ _, Of.refl _ _ _⟩

/-! ### Stretches of a length -/
/-- From x to y (no further than n) it is sorted, and holds what it held. -/
structure Bk (w : Int → Int) (f0 f : Nat → Int) (n x y : Nat) : Prop where
  so : So w f x (min y n)
  sm : Sm f0 f x (min y n)
theorem Bk.of {f0 f g : Nat → Int} {n x y a b : Nat} (h : Bk w f0 f n x y) (ho : Of f g a b) (hd : min y n ≤ a ∨ b ≤ x) : Bk w f0 g n x y := by
  have he : ∀ k, x ≤ k → k < min y n → g k = f k := fun k q1 q2 => ho k (by omega)
  refine ⟨h.so.of he, fun z => ?_⟩
  refine Iff.trans ?_ (h.sm z)
  constructor
  · rintro ⟨k, k1, k2, k3⟩; exact ⟨k, k1, k2, by rw [← he k k1 k2]; exact k3⟩
  · rintro ⟨k, k1, k2, k3⟩; exact ⟨k, k1, k2, by rw [he k k1 k2]; exact k3⟩
/-- Two stretches beside each other are each other's lesser and greater as numbers. -/
theorem Bk.cr {f0 f : Nat → Int} {n a m b : Nat} (hu : Up f0 0 n) (h1 : Bk w f0 f n a m) (h2 : Bk w f0 f n m b) (hm : m ≤ n) : Cr f a m (min b n) := fun i j q1 q2 q3 q4 => by
  obtain ⟨i', a1, a2, a3⟩ := h1.sm.mem q1 (show i < min m n by omega)
  obtain ⟨j', b1, b2, b3⟩ := h2.sm.mem q3 q4
  rw [← a3, ← b3]
  exact hu i' j' (Nat.zero_le _) (by omega) (by omega)
/-- Two beside each other, merged. -/
theorem Bk.merged {f0 f g : Nat → Int} {n a m b : Nat} (h1 : Bk w f0 f n a m) (h2 : Bk w f0 f n m b) (ham : a ≤ m) (hm : m ≤ n) (hmb : m ≤ b) (s : So w g a (min b n)) (sm : Sm f g a (min b n)) : Bk w f0 g n a b := by
  refine ⟨s, Sm.trans (fun z => ?_) sm⟩
  have e1 : min m n = m := by omega
  have t1 := h1.sm z
  rw [e1] at t1
  have t2 := h2.sm z
  constructor
  · rintro ⟨k, k1, k2, k3⟩
    by_cases c : k < m
    · obtain ⟨j, j1, j2, j3⟩ := t1.1 ⟨k, k1, c, k3⟩
      exact ⟨j, j1, by omega, j3⟩
    · obtain ⟨j, j1, j2, j3⟩ := t2.1 ⟨k, by omega, k2, k3⟩
      exact ⟨j, by omega, j2, j3⟩
  · rintro ⟨k, k1, k2, k3⟩
    by_cases c : k < m
    · obtain ⟨j, j1, j2, j3⟩ := t1.2 ⟨k, k1, c, k3⟩
      exact ⟨j, j1, by omega, j3⟩
    · obtain ⟨j, j1, j2, j3⟩ := t2.2 ⟨k, by omega, k2, k3⟩
      exact ⟨j, by omega, j2, j3⟩
/-- Within a round of merges, at place a: up to a the stretches are twice as long. -/
structure Pas (w : Int → Int) (f0 f : Nat → Int) (n bs a : Nat) : Prop where
  da : 2 * bs ∣ a
  lo : ∀ x, 2 * bs ∣ x → x < a → x < n → Bk w f0 f n x (x + 2 * bs)
  hi : ∀ x, bs ∣ x → a ≤ x → x < n → Bk w f0 f n x (x + bs)
theorem Pas.two {f0 f : Nat → Int} {n bs a : Nat} (h : Pas w f0 f n bs a) (hm : a + bs < n) : Bk w f0 f n a (a + bs) ∧ Bk w f0 f n (a + bs) (a + bs + bs) := by
  have d1 : bs ∣ a := Nat.dvd_trans (Nat.dvd_mul_left bs 2) h.da
  exact ⟨h.hi a d1 (Nat.le_refl _) (by omega), h.hi (a + bs) (Nat.dvd_add d1 (Nat.dvd_refl _)) (by omega) hm⟩
theorem dvd_far {c x a : Nat} (hx : c ∣ x) (ha : c ∣ a) (h1 : a < x) : a + c ≤ x := by
  obtain ⟨p, rfl⟩ := ha
  obtain ⟨q, rfl⟩ := hx
  have : p < q := Nat.lt_of_mul_lt_mul_left h1
  calc c * p + c = c * (p + 1) := by rw [Nat.mul_add, Nat.mul_one]
    _ ≤ c * q := Nat.mul_le_mul_left c this
/-- One merge more. -/
theorem Pas.step {f0 f g : Nat → Int} {n bs a : Nat} (h : Pas w f0 f n bs a) (hm : a + bs < n) (s : So w g a (min (a + 2 * bs) n)) (sm : Sm f g a (min (a + 2 * bs) n)) (ho : Of f g a (min (a + 2 * bs) n)) : Pas w f0 g n bs (a + 2 * bs) := by
  obtain ⟨b1, b2⟩ := h.two hm
  have e : a + bs + bs = a + 2 * bs := by omega
  rw [e] at b2
  have hb : Bk w f0 g n a (a + 2 * bs) := b1.merged b2 (by omega) (by omega) (by omega) s sm
  refine ⟨Nat.dvd_add h.da (Nat.dvd_refl _), fun x hx h1 h2 => ?_, fun x hx h1 h2 => ?_⟩
  · by_cases c : x < a
    · have := dvd_far h.da hx c
      exact (h.lo x hx c h2).of ho (.inl (by omega))
    · by_cases d : x = a
      · subst d; exact hb
      · have := dvd_far hx h.da (by omega)
        omega
  · exact (h.hi x hx (by omega) h2).of ho (.inr (by omega))
/-- A round is over: what is left is one stretch or none. -/
theorem Pas.over {f0 f : Nat → Int} {n bs a : Nat} (h : Pas w f0 f n bs a) (hm : n ≤ a + bs) : Pas w f0 f n (2 * bs) 0 := by
  refine ⟨Nat.dvd_zero _, fun x _ h1 => by omega, fun x hx _ h2 => ?_⟩
  by_cases c : x < a
  · exact h.lo x hx c h2
  · have d1 : bs ∣ x := Nat.dvd_trans (Nat.dvd_mul_left bs 2) hx
    have := h.hi x d1 (by omega) h2
    by_cases d : x = a
    · subst d
      have e : min (x + bs) n = min (x + 2 * bs) n := by omega
      exact ⟨by rw [← e]; exact this.so, by rw [← e]; exact this.sm⟩
    · have := dvd_far hx h.da (by omega)
      omega
/-- All is one stretch. -/
theorem Pas.all {f0 f : Nat → Int} {n bs : Nat} (h : Pas w f0 f n bs 0) (hm : n ≤ bs) : So w f 0 n ∧ Sm f0 f 0 n := by
  by_cases c : n = 0
  · subst c; exact ⟨fun i j _ _ q => by omega, fun x => by constructor <;> (rintro ⟨k, _, q, _⟩; omega)⟩
  · have := h.hi 0 (Nat.dvd_zero _) (Nat.le_refl _) (by omega)
    have e : min (0 + bs) n = n := by omega
    have s1 := this.so; have s2 := this.sm
    rw [e] at s1 s2
    exact ⟨s1, s2⟩
/-- Behind the insertions up to place a. -/
structure Ins20 (w : Int → Int) (f0 f : Nat → Int) (n bs a : Nat) : Prop where
  da : bs ∣ a
  lo : ∀ x, bs ∣ x → x < a → x < n → Bk w f0 f n x (x + bs)
  hi : ∀ k, a ≤ k → f k = f0 k
theorem Ins20.start (w : Int → Int) (f0 : Nat → Int) (n bs : Nat) : Ins20 w f0 f0 n bs 0 := ⟨Nat.dvd_zero _, fun x _ h => by omega, fun _ _ => rfl⟩
theorem Ins20.up {f0 f : Nat → Int} {n bs a : Nat} (h : Ins20 w f0 f n bs a) (hu : Up f0 0 n) {b : Nat} (hb : b ≤ n) : Up f a b := fun i j q1 q2 q3 => by
  rw [h.hi i q1, h.hi j (by omega)]; exact hu i j (Nat.zero_le _) q2 (by omega)
theorem Ins20.step {f0 f g : Nat → Int} {n bs a : Nat} (h : Ins20 w f0 f n bs a) (s : So w g a (min (a + bs) n)) (sm : Sm f g a (min (a + bs) n)) (ho : Of f g a (min (a + bs) n)) : Ins20 w f0 g n bs (a + bs) := by
  have hb : Bk w f0 g n a (a + bs) := ⟨s, Sm.trans (fun z => by
    constructor
    · rintro ⟨k, k1, k2, k3⟩; exact ⟨k, k1, k2, by rw [← h.hi k k1]; exact k3⟩
    · rintro ⟨k, k1, k2, k3⟩; exact ⟨k, k1, k2, by rw [h.hi k k1]; exact k3⟩) sm⟩
  refine ⟨Nat.dvd_add h.da (Nat.dvd_refl _), fun x hx h1 h2 => ?_, fun k hk => ?_⟩
  · by_cases c : x < a
    · have := dvd_far h.da hx c
      exact (h.lo x hx c h2).of ho (.inl (by omega))
    · by_cases d : x = a
      · subst d; exact hb
      · have := dvd_far hx h.da (by omega)
        omega
  · rw [ho k (.inr (by omega))]; exact h.hi k (by omega)
/-- Behind all insertions the first round of merges begins. -/
theorem Ins20.pas {f0 f : Nat → Int} {n bs a : Nat} (h : Ins20 w f0 f n bs a) (hn : n ≤ a) : Pas w f0 f n bs 0 :=
  ⟨Nat.dvd_zero _, fun x _ h1 => by omega, fun x hx _ h2 => h.lo x hx (by omega) h2⟩
end Go.Proofs.YtckcbfnffmohgaaDoor.SS
