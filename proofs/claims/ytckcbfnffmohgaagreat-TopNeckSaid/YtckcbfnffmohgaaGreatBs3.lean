/-
  Plain mathematics of a union of nodes that is kept as a list of hangs (a, b): the root b was hung under the root a, the last hang first. No program in sight. No conditions.
  What is asked, in plain Lean: events, what is wrong of them, lives of edges, answers by unions. No program in sight.
-/
namespace UF

/-- How many below n have a property. -/
def cnt : Nat → (Nat → Bool) → Nat
  | 0, _ => 0
  | n + 1, p => cnt n p + (if p n then 1 else 0)

theorem cnt_congr {n : Nat} {p q : Nat → Bool} (h : ∀ x, x < n → p x = q x) : cnt n p = cnt n q := by
  induction n with
  | zero => rfl
  | succ n ih => simp only [cnt]; rw [ih (fun x hx => h x (by omega)), h n (by omega)]

theorem cnt_le (n : Nat) (p : Nat → Bool) : cnt n p ≤ n := by
  induction n with
  | zero => simp [cnt]
  | succ n ih => simp only [cnt]; split <;> omega

theorem cnt_true (n : Nat) : cnt n (fun _ => true) = n := by
  induction n with
  | zero => rfl
  | succ n ih => simp [cnt, ih]

theorem cnt_false (n : Nat) {p : Nat → Bool} (h : ∀ x, x < n → p x = false) : cnt n p = 0 := by
  induction n with
  | zero => rfl
  | succ n ih => simp only [cnt]; rw [ih (fun x hx => h x (by omega)), h n (by omega)]; simp

theorem cnt_pos {n : Nat} {p : Nat → Bool} {k : Nat} (hk : k < n) (h : p k = true) : 0 < cnt n p := by
  induction n with
  | zero => omega
  | succ n ih =>
    simp only [cnt]
    by_cases e : k = n
    · subst e; simp [h]
    · have := ih (by omega); omega

/-- One drops out. -/
theorem cnt_drop {n : Nat} {p q : Nat → Bool} {k : Nat} (hk : k < n) (hp : p k = true) (hq : q k = false) (h : ∀ x, x < n → x ≠ k → q x = p x) : cnt n q + 1 = cnt n p := by
  induction n with
  | zero => omega
  | succ n ih =>
    simp only [cnt]
    by_cases e : k = n
    · subst e
      rw [cnt_congr (q := p) (fun x hx => h x (by omega) (by omega)), hp, hq]; simp
    · have := ih (by omega) (fun x hx hne => h x (by omega) hne)
      rw [h n (by omega) (fun e' => e e'.symm)]; omega

/-- Two that never hold together. -/
theorem cnt_or {n : Nat} {p q : Nat → Bool} (h : ∀ x, x < n → ¬ (p x = true ∧ q x = true)) : cnt n (fun x => p x || q x) = cnt n p + cnt n q := by
  induction n with
  | zero => rfl
  | succ n ih =>
    simp only [cnt]
    rw [ih (fun x hx => h x (by omega))]
    have := h n (by omega)
    by_cases hp : p n = true <;> by_cases hq : q n = true
    · exact absurd ⟨hp, hq⟩ this
    · simp [hp, hq]; omega
    · simp [hp, hq]; omega
    · simp [hp, hq]

abbrev Hs := List (Nat × Nat)

def up : Hs → Nat → Nat
  | [], x => x
  | (a, b) :: hs, x => if x = b then a else up hs x
def sz : Hs → Nat → Nat
  | [], _ => 1
  | (a, b) :: hs, x => if x = a then sz hs a + sz hs b else sz hs x
def rt : Hs → Nat → Nat
  | [], x => x
  | (a, b) :: hs, x => if rt hs x = b then a else rt hs x
def dist : Hs → Nat → Nat
  | [], _ => 0
  | (_, b) :: hs, x => if rt hs x = b then dist hs x + 1 else dist hs x
def Ok (n : Nat) : Hs → Prop
  | [] => True
  | (a, b) :: hs => Ok n hs ∧ a < n ∧ b < n ∧ rt hs a = a ∧ rt hs b = b ∧ a ≠ b

theorem rt_lt {n : Nat} : ∀ {hs : Hs} {x : Nat}, Ok n hs → x < n → rt hs x < n
  | [], _, _, h => h
  | (a, b) :: hs, x, h, hx => by
    have := rt_lt (x := x) h.1 hx
    simp only [rt]; split
    · exact h.2.1
    · exact this
theorem up_lt {n : Nat} : ∀ {hs : Hs} {x : Nat}, Ok n hs → x < n → up hs x < n
  | [], _, _, h => h
  | (a, b) :: hs, x, h, hx => by
    have := up_lt (x := x) h.1 hx
    simp only [up]; split
    · exact h.2.1
    · exact this
theorem rt_rt {n : Nat} : ∀ {hs : Hs} {x : Nat}, Ok n hs → rt hs (rt hs x) = rt hs x
  | [], _, _ => rfl
  | (a, b) :: hs, x, h => by
    have h1 := rt_rt (x := x) h.1
    obtain ⟨_, _, _, ha, hb, hne⟩ := h
    simp only [rt]
    by_cases e : rt hs x = b
    · simp [e, ha, hne]
    · simp [e, h1]
theorem rt_up {n : Nat} : ∀ {hs : Hs} {x : Nat}, Ok n hs → rt hs (up hs x) = rt hs x
  | [], _, _ => rfl
  | (a, b) :: hs, x, h => by
    have h1 := rt_up (x := x) h.1
    obtain ⟨_, _, _, ha, hb, hne⟩ := h
    simp only [rt, up]
    by_cases e : x = b
    · subst e; simp [ha, hb, hne]
    · simp [e, h1]
theorem up_self {n : Nat} : ∀ {hs : Hs} {x : Nat}, Ok n hs → (up hs x = x ↔ rt hs x = x)
  | [], _, _ => Iff.rfl
  | (a, b) :: hs, x, h => by
    have h1 := up_self (x := x) h.1
    have h2 := rt_rt (x := x) h.1
    obtain ⟨_, _, _, ha, hb, hne⟩ := h
    simp only [rt, up]
    by_cases e : x = b
    · subst e; simp [hb]
    · by_cases e2 : rt hs x = b
      · simp only [e, e2, if_true, if_false]
        rw [h1]
        constructor
        · intro h3; omega
        · intro h3; subst h3; rw [ha] at e2; exact absurd e2 hne
      · simp [e, e2, h1]
theorem dist_up {n : Nat} : ∀ {hs : Hs} {x : Nat}, Ok n hs → up hs x ≠ x → dist hs (up hs x) < dist hs x
  | [], x, _, h => absurd rfl h
  | (a, b) :: hs, x, h, hu => by
    have h1 := dist_up (x := x) h.1
    have h2 := rt_up (x := x) h.1
    have h0 : ∀ {n : Nat} {hs : Hs} {x : Nat}, Ok n hs → rt hs x = x → dist hs x = 0 := by
      intro n hs
      induction hs with
      | nil => intros; rfl
      | cons p hs ih =>
        obtain ⟨a, b⟩ := p
        intro x h hx
        obtain ⟨h, _, _, ha, hb, hne⟩ := h
        simp only [rt] at hx
        simp only [dist]
        by_cases e : rt hs x = b
        · simp only [e, if_true] at hx; subst hx; rw [ha] at e; exact absurd e hne
        · simp only [e, if_false] at hx ⊢; exact ih h hx
    obtain ⟨ho, _, _, ha, hb, hne⟩ := h
    simp only [dist, up] at hu ⊢
    by_cases e : x = b
    · subst e
      simp only [if_true] at hu ⊢
      rw [ha, hb, h0 ho ha, h0 ho hb]
      simp [hne]
    · simp only [e, if_false] at hu ⊢
      have := h1 hu
      rw [h2]
      split <;> omega
theorem dist_le : ∀ (hs : Hs) (x : Nat), dist hs x ≤ hs.length
  | [], _ => Nat.le_refl _
  | (a, b) :: hs, x => by
    have := dist_le hs x
    simp only [dist, List.length_cons]; split <;> omega
theorem sz_pos : ∀ (hs : Hs) (x : Nat), 1 ≤ sz hs x
  | [], _ => Nat.le_refl _
  | (a, b) :: hs, x => by
    have h1 := sz_pos hs x
    have h2 := sz_pos hs a
    simp only [sz]; split <;> omega
/-- The size of a root is how many have it. -/
theorem sz_root {n : Nat} : ∀ {hs : Hs} {x : Nat}, Ok n hs → x < n → rt hs x = x → sz hs x = cnt n (fun y => rt hs y == x)
  | [], x, _, hx, _ => by
    simp only [sz, rt]
    have := cnt_drop (n := n) (k := x) (p := fun y => y == x) (q := fun _ => false) hx (by simp) rfl (by intro y _ hne; simp [hne])
    rw [cnt_false n (by simp)] at this; omega
  | (a, b) :: hs, x, h, hx, hr => by
    obtain ⟨ho, la, lb, ha, hb, hne⟩ := h
    simp only [sz]
    by_cases e : x = a
    · subst e
      simp only [if_true]
      rw [sz_root ho la ha, sz_root ho lb hb, ← cnt_or (by intro y _; simp; intro h1 h2; omega)]
      apply cnt_congr
      intro y _
      simp only [rt]
      by_cases e2 : rt hs y = b
      · simp [e2]
      · simp [e2]
    · simp only [e, if_false]
      simp only [rt] at hr
      by_cases e2 : rt hs x = b
      · simp only [e2, if_true] at hr; omega
      · simp only [e2, if_false] at hr
        rw [sz_root ho hx hr]
        apply cnt_congr
        intro y _
        simp only [rt]
        by_cases e3 : rt hs y = b
        · have : b ≠ x := by intro h; subst h; exact e2 hb
          have h2 : a ≠ x := fun h => e h.symm
          simp only [e3, if_true]; rw [beq_false_of_ne this, beq_false_of_ne h2]
        · simp [e3]
theorem sz_le {n : Nat} : ∀ {hs : Hs} {x : Nat}, Ok n hs → x < n → sz hs x ≤ n
  | [], _, _, hx => by simp only [sz]; omega
  | (a, b) :: hs, x, h, hx => by
    have h' := h
    obtain ⟨ho, la, lb, ha, hb, hne⟩ := h
    by_cases e : x = a
    · have hr : rt ((a, b) :: hs) x = x := by simp only [rt]; subst e; rw [ha]; simp [hne]
      rw [sz_root h' hx hr]; exact cnt_le _ _
    · simp only [sz, e, if_false]; exact sz_le ho hx
/-- Roots and hangs are as many as nodes. -/
theorem roots {n : Nat} : ∀ {hs : Hs}, Ok n hs → cnt n (fun x => rt hs x == x) + hs.length = n
  | [], _ => by simp [rt, cnt_true]
  | (a, b) :: hs, h => by
    obtain ⟨ho, la, lb, ha, hb, hne⟩ := h
    have := roots ho
    have h2 := cnt_drop (n := n) (k := b) (p := fun x => rt hs x == x) (q := fun x => rt ((a, b) :: hs) x == x) lb (by simp [hb]) (by simp [rt, hb, hne])
      (by
        intro x _ hx
        simp only [rt]
        by_cases e : rt hs x = b
        · have : a ≠ x := by rintro rfl; rw [ha] at e; exact hne e
          simp only [e, if_true]; rw [beq_false_of_ne this, beq_false_of_ne (fun h => hx h.symm)]
        · simp [e])
    simp only [List.length_cons]; omega
theorem len_lt {n : Nat} {hs : Hs} (h : Ok n hs) (hn : 0 < n) : hs.length < n := by
  have h1 := roots h
  have h2 : 0 < cnt n (fun x => rt hs x == x) := cnt_pos (k := rt hs 0) (rt_lt h hn) (by simp [rt_rt h])
  omega

/-- Two are put together. -/
def join (hs : Hs) (x y : Nat) : Hs :=
  if rt hs x = rt hs y then hs else if sz hs (rt hs x) < sz hs (rt hs y) then (rt hs y, rt hs x) :: hs else (rt hs x, rt hs y) :: hs
theorem join_ok {n : Nat} {hs : Hs} {x y : Nat} (h : Ok n hs) (hx : x < n) (hy : y < n) : Ok n (join hs x y) := by
  unfold join
  have := rt_lt h hx; have := rt_lt h hy; have := rt_rt (x := x) h; have := rt_rt (x := y) h
  split
  · exact h
  · split
    · exact ⟨h, by assumption, by assumption, by assumption, by assumption, by omega⟩
    · exact ⟨h, by assumption, by assumption, by assumption, by assumption, by omega⟩
theorem join_rel {hs : Hs} {x y p q : Nat} :
    rt (join hs x y) p = rt (join hs x y) q ↔ rt hs p = rt hs q ∨ (rt hs p = rt hs x ∧ rt hs q = rt hs y) ∨ (rt hs p = rt hs y ∧ rt hs q = rt hs x) := by
  unfold join
  by_cases e : rt hs x = rt hs y
  · simp [e]; omega
  · simp only [e, if_false]
    split <;> simp only [rt] <;> split <;> split <;> omega
theorem join_len {hs : Hs} {x y : Nat} : (join hs x y).length = if rt hs x = rt hs y then hs.length else hs.length + 1 := by
  unfold join
  split
  · rfl
  · split <;> rfl

/-- Who has the same value as none ahead of him. -/
def lead (f : Nat → Nat) (x : Nat) : Bool := (List.range x).all fun y => f y != f x
theorem lead_iff {f : Nat → Nat} {x : Nat} : lead f x = true ↔ ∀ y, y < x → f y ≠ f x := by simp [lead]
/-- The least one with the value of x. -/
def least (f : Nat → Nat) : Nat → Nat → Nat
  | 0, v => v
  | n + 1, v => if least f n v < n then least f n v else if f n = v then n else n + 1
theorem least_spec (f : Nat → Nat) (v : Nat) : ∀ n, (least f n v < n ∧ f (least f n v) = v ∧ ∀ y, y < least f n v → f y ≠ v) ∨ (n ≤ least f n v ∧ ∀ y, y < n → f y ≠ v)
  | 0 => .inr ⟨Nat.zero_le _, fun y hy => by omega⟩
  | n + 1 => by
    rcases least_spec f v n with ⟨h1, h2, h3⟩ | ⟨h1, h2⟩
    · simp only [least, h1, if_true]; exact .inl ⟨by omega, h2, h3⟩
    · have : ¬ least f n v < n := by omega
      simp only [least, this, if_false]
      by_cases e : f n = v
      · simp only [e, if_true]; exact .inl ⟨by omega, trivial, h2⟩
      · simp only [e, if_false]
        refine .inr ⟨by omega, fun y hy => ?_⟩
        by_cases e2 : y = n
        · subst e2; exact e
        · exact h2 y (by omega)
theorem ex_least (f : Nat → Nat) (x : Nat) : ∃ m, m ≤ x ∧ f m = f x ∧ ∀ y, y < m → f y ≠ f x := by
  rcases least_spec f (f x) (x + 1) with ⟨h1, h2, h3⟩ | ⟨_, h2⟩
  · exact ⟨_, by omega, h2, h3⟩
  · exact absurd rfl (h2 x (by omega))

/-- As many lead as there are roots. -/
theorem leads {n : Nat} : ∀ {hs : Hs}, Ok n hs → cnt n (lead (rt hs)) + hs.length = n
  | [], _ => by
    have : cnt n (lead (rt [])) = n := by
      rw [cnt_congr (q := fun _ => true), cnt_true]
      intro x _; rw [lead_iff]; intro y hy; simp only [rt]; omega
    simp [this]
  | (a, b) :: hs, h => by
    obtain ⟨ho, la, lb, ha, hb, hne⟩ := h
    have ih := leads ho
    obtain ⟨ma, ma1, ma2, ma3⟩ := ex_least (rt hs) a
    obtain ⟨mb, mb1, mb2, mb3⟩ := ex_least (rt hs) b
    rw [ha] at ma2; rw [hb] at mb2
    rw [ha] at ma3; rw [hb] at mb3
    have hm : ma ≠ mb := by intro e; rw [e] at ma2; omega
    have h2 := cnt_drop (n := n) (k := max ma mb) (p := lead (rt hs)) (q := lead (rt ((a, b) :: hs))) (by omega)
      (by
        rw [lead_iff]; intro y hy hr
        by_cases hc : ma < mb
        · rw [Nat.max_eq_right (by omega)] at hy hr; rw [mb2] at hr; exact mb3 y hy hr
        · rw [Nat.max_eq_left (by omega)] at hy hr; rw [ma2] at hr; exact ma3 y hy hr)
      (by
        rw [Bool.eq_false_iff]; intro hl; rw [lead_iff] at hl
        by_cases hc : ma < mb
        · rw [Nat.max_eq_right (by omega)] at hl
          apply hl ma hc; simp [rt, ma2, mb2]
        · rw [Nat.max_eq_left (by omega)] at hl
          apply hl mb (by omega); simp [rt, ma2, mb2, hne])
      (by
        intro x _ hx
        rw [Bool.eq_iff_iff, lead_iff, lead_iff]
        constructor
        · intro h y hy e
          apply h y hy; simp only [rt]; rw [e]
        · intro h y hy e
          simp only [rt] at e
          by_cases e1 : rt hs y = b <;> by_cases e2 : rt hs x = b
          · exact h y hy (by omega)
          · rw [if_pos e1, if_neg e2] at e
            have hxa : x = ma := by
              rcases Nat.lt_trichotomy x ma with h3 | h3 | h3
              · exact absurd e.symm (ma3 x h3)
              · exact h3
              · exact absurd (ma2.trans e) (h ma h3)
            have : mb ≤ y := by
              rcases Nat.lt_or_ge y mb with h3 | h3
              · exact absurd e1 (mb3 y h3)
              · exact h3
            omega
          · rw [if_neg e1, if_pos e2] at e
            have hxb : x = mb := by
              rcases Nat.lt_trichotomy x mb with h3 | h3 | h3
              · exact absurd e2 (mb3 x h3)
              · exact h3
              · exact absurd (mb2.trans e2.symm) (h mb h3)
            have : ma ≤ y := by
              rcases Nat.lt_or_ge y ma with h3 | h3
              · exact absurd e (ma3 y h3)
              · exact h3
            omega
          · rw [if_neg e1, if_neg e2] at e; exact h y hy e)
    simp only [List.length_cons]; omega

/-- The same nodes together: as many hangs, the same sizes. -/
theorem same_len {n : Nat} {hs ks : Hs} (h : Ok n hs) (k : Ok n ks) (he : ∀ x y, x < n → y < n → (rt hs x = rt hs y ↔ rt ks x = rt ks y)) : hs.length = ks.length := by
  have h1 := leads h; have h2 := leads k
  have : cnt n (lead (rt hs)) = cnt n (lead (rt ks)) := cnt_congr fun x hx => by
    rw [Bool.eq_iff_iff, lead_iff, lead_iff]
    exact ⟨fun h y hy e => h y hy ((he y x (by omega) hx).2 e), fun h y hy e => h y hy ((he y x (by omega) hx).1 e)⟩
  omega
theorem same_sz {n : Nat} {hs ks : Hs} (h : Ok n hs) (k : Ok n ks) (he : ∀ x y, x < n → y < n → (rt hs x = rt hs y ↔ rt ks x = rt ks y)) {x : Nat} (hx : x < n) : sz hs (rt hs x) = sz ks (rt ks x) := by
  rw [sz_root h (rt_lt h hx) (rt_rt h), sz_root k (rt_lt k hx) (rt_rt k)]
  exact cnt_congr fun y hy => by rw [Bool.eq_iff_iff]; simp [he y x hy hx]

/-- Joined by edges. -/
inductive Con (es : List (Nat × Nat)) : Nat → Nat → Prop
  | refl (x : Nat) : Con es x x
  | edge {x y : Nat} (h : (x, y) ∈ es) : Con es x y
  | symm {x y : Nat} (h : Con es x y) : Con es y x
  | trans {x y z : Nat} (h : Con es x y) (k : Con es y z) : Con es x z
theorem Con.mono {es fs : List (Nat × Nat)} (h : ∀ x y, (x, y) ∈ es → Con fs x y) {p q : Nat} (c : Con es p q) : Con fs p q := by
  induction c with
  | refl x => exact .refl x
  | edge hm => exact h _ _ hm
  | symm _ ih => exact .symm ih
  | trans _ _ i1 i2 => exact .trans i1 i2
/-- What is told of all edges is told of all that they join. -/
theorem Con.ind {es : List (Nat × Nat)} {f : Nat → Nat} (h : ∀ x y, (x, y) ∈ es → f x = f y) {p q : Nat} (c : Con es p q) : f p = f q := by
  induction c with
  | refl x => rfl
  | edge hm => exact h _ _ hm
  | symm _ ih => exact ih.symm
  | trans _ _ i1 i2 => exact i1.trans i2
theorem Con.snoc {es : List (Nat × Nat)} {x y p q : Nat} :
    Con (es ++ [(x, y)]) p q ↔ Con es p q ∨ (Con es p x ∧ Con es q y) ∨ (Con es p y ∧ Con es q x) := by
  constructor
  · intro c
    induction c with
    | refl x => exact .inl (.refl x)
    | edge hm =>
      rw [List.mem_append] at hm
      rcases hm with hm | hm
      · exact .inl (.edge hm)
      · simp at hm; obtain ⟨rfl, rfl⟩ := hm; exact .inr (.inl ⟨.refl _, .refl _⟩)
    | symm _ ih =>
      rcases ih with h | ⟨h, k⟩ | ⟨h, k⟩
      · exact .inl h.symm
      · exact .inr (.inr ⟨k, h⟩)
      · exact .inr (.inl ⟨k, h⟩)
    | trans _ _ i1 i2 =>
      rcases i1 with h | ⟨h, k⟩ | ⟨h, k⟩ <;> rcases i2 with h' | ⟨h', k'⟩ | ⟨h', k'⟩
      · exact .inl (h.trans h')
      · exact .inr (.inl ⟨h.trans h', k'⟩)
      · exact .inr (.inr ⟨h.trans h', k'⟩)
      · exact .inr (.inl ⟨h, h'.symm.trans k⟩)
      · exact .inr (.inl ⟨h, k'⟩)
      · exact .inl (h.trans (k'.symm))
      · exact .inr (.inr ⟨h, h'.symm.trans k⟩)
      · exact .inl (h.trans (k'.symm))
      · exact .inr (.inr ⟨h, k'⟩)
  · have hm : ∀ {a b}, Con es a b → Con (es ++ [(x, y)]) a b := fun c => c.mono fun a b h => .edge (List.mem_append_left _ h)
    have hxy : Con (es ++ [(x, y)]) x y := .edge (by simp)
    rintro (h | ⟨h, k⟩ | ⟨h, k⟩)
    · exact hm h
    · exact ((hm h).trans hxy).trans (hm k).symm
    · exact ((hm h).trans hxy.symm).trans (hm k).symm
/-- The roots tell just what edges join. -/
def Tells (hs : Hs) (es : List (Nat × Nat)) : Prop := ∀ p q, rt hs p = rt hs q ↔ Con es p q
theorem tells_nil : Tells [] [] := fun p q => by
  constructor
  · intro h; simp only [rt] at h; subst h; exact .refl _
  · intro c; exact c.ind (f := rt []) (by simp)
theorem tells_join {hs : Hs} {es : List (Nat × Nat)} (h : Tells hs es) (x y : Nat) : Tells (join hs x y) (es ++ [(x, y)]) := fun p q => by
  rw [join_rel, Con.snoc, h, h, h, h, h]
end UF
namespace Go.Proofs.YtckcbfnffmohgaaGreat
set_option linter.unusedVariables false
namespace AK
structure Ev where
  w : Int
  a : Int
  b : Int
instance : Inhabited Ev := ⟨⟨0, 0, 0⟩⟩
abbrev Ed := Int × Int
def ek (a b : Int) : Ed := (min a b, max a b)
def Ev.ed (e : Ev) : Ed := ek e.a e.b
def flip (t : Ed → Bool) (x : Ed) : Ed → Bool := fun y => if y = x then !t x else t y
def bad (n : Int) (t : Ed → Bool) (e : Ev) : Option Int :=
  if e.w < 1 ∨ 3 < e.w ∨ e.a < 0 ∨ n ≤ e.a ∨ e.b < 0 ∨ n ≤ e.b then some 1
  else if e.w = 3 then none
  else if e.a = e.b then some 2
  else if e.w = 1 ∧ t e.ed = true then some 6
  else if e.w = 2 ∧ t e.ed = false then some 4
  else none
def nxt (t : Ed → Bool) (e : Ev) : Ed → Bool := if e.w = 3 then t else flip t e.ed
def there (l : List Ev) : Ed → Bool := l.foldl nxt (fun _ => false)
theorem there_snoc (l : List Ev) (e : Ev) : there (l ++ [e]) = nxt (there l) e := by simp [there, List.foldl_append]
theorem bad_range {n : Int} {t : Ed → Bool} {w a b : Int} (h : w < 1 ∨ 3 < w ∨ a < 0 ∨ n ≤ a ∨ b < 0 ∨ n ≤ b) : bad n t ⟨w, a, b⟩ = some 1 := by
  unfold bad; rw [if_pos h]
section
variable {n : Int} {t : Ed → Bool} {w a b : Int}
theorem bad_ask (h1 : 1 ≤ w) (h2 : w ≤ 3) (h3 : 0 ≤ a) (h4 : a < n) (h5 : 0 ≤ b) (h6 : b < n) (hw : w = 3) : bad n t ⟨w, a, b⟩ = none := by
  have : ¬ (w < 1 ∨ 3 < w ∨ a < 0 ∨ n ≤ a ∨ b < 0 ∨ n ≤ b) := by omega
  unfold bad; rw [if_neg this, if_pos hw]
theorem bad_shape (h1 : 1 ≤ w) (h2 : w ≤ 3) (h3 : 0 ≤ a) (h4 : a < n) (h5 : 0 ≤ b) (h6 : b < n) (hw : w ≠ 3) (hab : a = b) : bad n t ⟨w, a, b⟩ = some 2 := by
  have : ¬ (w < 1 ∨ 3 < w ∨ a < 0 ∨ n ≤ a ∨ b < 0 ∨ n ≤ b) := by omega
  unfold bad; rw [if_neg this, if_neg hw, if_pos hab]
theorem bad_clash (h1 : 1 ≤ w) (h2 : w ≤ 3) (h3 : 0 ≤ a) (h4 : a < n) (h5 : 0 ≤ b) (h6 : b < n) (hw : w = 1) (hab : a ≠ b) (ht : t (ek a b) = true) : bad n t ⟨w, a, b⟩ = some 6 := by
  have : ¬ (w < 1 ∨ 3 < w ∨ a < 0 ∨ n ≤ a ∨ b < 0 ∨ n ≤ b) := by omega
  have h7 : w ≠ 3 := by omega
  unfold bad; rw [if_neg this, if_neg h7, if_neg hab, if_pos ⟨hw, ht⟩]
theorem bad_none (h1 : 1 ≤ w) (h2 : w ≤ 3) (h3 : 0 ≤ a) (h4 : a < n) (h5 : 0 ≤ b) (h6 : b < n) (hw : w = 2) (hab : a ≠ b) (ht : t (ek a b) = false) : bad n t ⟨w, a, b⟩ = some 4 := by
  have : ¬ (w < 1 ∨ 3 < w ∨ a < 0 ∨ n ≤ a ∨ b < 0 ∨ n ≤ b) := by omega
  have h7 : w ≠ 3 := by omega
  have h8 : ¬ (w = 1 ∧ t (Ev.ed ⟨w, a, b⟩) = true) := by rintro ⟨h, _⟩; omega
  unfold bad; rw [if_neg this, if_neg h7, if_neg hab, if_neg h8, if_pos ⟨hw, ht⟩]
theorem bad_add (h1 : 1 ≤ w) (h2 : w ≤ 3) (h3 : 0 ≤ a) (h4 : a < n) (h5 : 0 ≤ b) (h6 : b < n) (hw : w = 1) (hab : a ≠ b) (ht : t (ek a b) = false) : bad n t ⟨w, a, b⟩ = none := by
  have : ¬ (w < 1 ∨ 3 < w ∨ a < 0 ∨ n ≤ a ∨ b < 0 ∨ n ≤ b) := by omega
  have h7 : w ≠ 3 := by omega
  have h8 : ¬ (w = 1 ∧ t (Ev.ed ⟨w, a, b⟩) = true) := by rintro ⟨_, h⟩; rw [Ev.ed, ht] at h; cases h
  have h9 : ¬ (w = 2 ∧ t (Ev.ed ⟨w, a, b⟩) = false) := by rintro ⟨h, _⟩; omega
  unfold bad; rw [if_neg this, if_neg h7, if_neg hab, if_neg h8, if_neg h9]
theorem bad_drop (h1 : 1 ≤ w) (h2 : w ≤ 3) (h3 : 0 ≤ a) (h4 : a < n) (h5 : 0 ≤ b) (h6 : b < n) (hw : w = 2) (hab : a ≠ b) (ht : t (ek a b) = true) : bad n t ⟨w, a, b⟩ = none := by
  have : ¬ (w < 1 ∨ 3 < w ∨ a < 0 ∨ n ≤ a ∨ b < 0 ∨ n ≤ b) := by omega
  have h7 : w ≠ 3 := by omega
  have h8 : ¬ (w = 1 ∧ t (Ev.ed ⟨w, a, b⟩) = true) := by rintro ⟨h, _⟩; omega
  have h9 : ¬ (w = 2 ∧ t (Ev.ed ⟨w, a, b⟩) = false) := by rintro ⟨_, h⟩; rw [Ev.ed, ht] at h; cases h
  unfold bad; rw [if_neg this, if_neg h7, if_neg hab, if_neg h8, if_neg h9]
end
/-- The first that is wrong, from a place on. -/
def chkFrom (n : Int) : (Ed → Bool) → Nat → List Ev → Int × Option Int
  | _, _, [] => (0, none)
  | t, i, e :: r => match bad n t e with
    | some x => ((i : Int), some x)
    | none => chkFrom n (nxt t e) (i + 1) r
def chk (n : Int) (l : List Ev) : Int × Option Int :=
  if n < 1 ∨ 60 < n then (0, some 1) else if 120 < l.length then (0, some 3) else chkFrom n (fun _ => false) 0 l
theorem take_next {α : Type} {l : List α} {k : Nat} {e : α} (h : l[k]? = some e) : l.take (k + 1) = l.take k ++ [e] := by
  obtain ⟨hk, rfl⟩ := List.getElem?_eq_some_iff.1 h
  rw [List.take_succ_eq_append_getElem hk]
theorem there_flip {l : List Ev} {k : Nat} {e : Ev} (h : l[k]? = some e) (hw : e.w ≠ 3) : there (l.take (k + 1)) = flip (there (l.take k)) e.ed := by
  rw [take_next h, there_snoc, nxt, if_neg hw]
theorem drop_next {α : Type} {l : List α} {k : Nat} {e : α} (h : l[k]? = some e) : l.drop k = e :: l.drop (k + 1) := by
  obtain ⟨hk, rfl⟩ := List.getElem?_eq_some_iff.1 h
  rw [List.drop_eq_getElem_cons hk]
/-- What is told so far, while nothing is wrong. -/
def At (n : Int) (l : List Ev) (k : Nat) : Prop := chk n l = chkFrom n (there (l.take k)) k (l.drop k)
theorem At.start {n : Int} {l : List Ev} (h1 : 1 ≤ n) (h2 : n ≤ 60) (h3 : l.length ≤ 120) : At n l 0 := by
  unfold At chk; rw [if_neg (by omega), if_neg (by omega)]; rfl
theorem At.stop {n : Int} {l : List Ev} {k : Nat} {e : Ev} {x : Int} (h : At n l k) (he : l[k]? = some e) (hb : bad n (there (l.take k)) e = some x) : chk n l = ((k : Int), some x) := by
  rw [h, drop_next he, chkFrom, hb]
theorem At.next {n : Int} {l : List Ev} {k : Nat} {e : Ev} (h : At n l k) (he : l[k]? = some e) (hb : bad n (there (l.take k)) e = none) : At n l (k + 1) := by
  unfold At at *; rw [h, drop_next he, chkFrom, hb, take_next he, there_snoc]
theorem At.end_ {n : Int} {l : List Ev} {k : Nat} (h : At n l k) (hk : l.length ≤ k) : chk n l = (0, none) := by
  unfold At at h; rw [h, List.drop_eq_nil_of_le hk]; rfl
theorem chkFrom_none {n : Int} : ∀ {l : List Ev} {t : Ed → Bool} {i : Nat}, (chkFrom n t i l).2 = none ↔ ∀ k e, l[k]? = some e → bad n ((l.take k).foldl nxt t) e = none
  | [], t, i => by simp [chkFrom]
  | e :: r, t, i => by
    rw [chkFrom]
    cases hb : bad n t e with
    | some x =>
      simp only [reduceCtorEq, false_iff]
      intro h
      have := h 0 e rfl
      rw [List.take_zero, List.foldl_nil, hb] at this
      cases this
    | none =>
      simp only
      rw [chkFrom_none]
      constructor
      · intro h k f hf
        cases k with
        | zero => simp at hf; subst hf; simpa using hb
        | succ k => simpa using h k f (by simpa using hf)
      · intro h k f hf
        simpa using h (k + 1) f (by simpa using hf)
/-- Nothing is wrong. -/
def Good (n : Int) (l : List Ev) : Prop := 1 ≤ n ∧ n ≤ 60 ∧ l.length ≤ 120 ∧ ∀ k e, l[k]? = some e → bad n (there (l.take k)) e = none
theorem good_iff {n : Int} {l : List Ev} : (chk n l).2 = none ↔ Good n l := by
  unfold chk Good
  by_cases h1 : n < 1 ∨ 60 < n
  · rw [if_pos h1]; simp; omega
  by_cases h2 : 120 < l.length
  · rw [if_neg h1, if_pos h2]; simp; omega
  · rw [if_neg h1, if_neg h2, chkFrom_none]
    exact ⟨fun h => ⟨by omega, by omega, by omega, h⟩, fun h => h.2.2.2⟩
theorem Good.fst {n : Int} {l : List Ev} (h : Good n l) : chk n l = (0, none) := by
  have h2 := good_iff.2 h
  have : ∀ (l : List Ev) (t : Ed → Bool) (i : Nat), (chkFrom n t i l).2 = none → (chkFrom n t i l).1 = 0 := by
    intro l
    induction l with
    | nil => intros; rfl
    | cons e r ih =>
      intro t i h
      rw [chkFrom] at h ⊢
      cases hb : bad n t e with
      | some x => rw [hb] at h; cases h
      | none => rw [hb] at h; exact ih _ _ h
  refine Prod.ext ?_ h2
  unfold chk at h2 ⊢
  split at h2
  · cases h2
  split at h2
  · cases h2
  · rw [if_neg (by assumption), if_neg (by assumption)]; exact this _ _ _ h2
theorem Good.take {n : Int} {l : List Ev} (h : Good n l) (k : Nat) : Good n (l.take k) := by
  refine ⟨h.1, h.2.1, by have := h.2.2.1; simp; omega, fun j e he => ?_⟩
  rw [List.getElem?_take] at he
  split at he
  · have := h.2.2.2 j e he
    rwa [List.take_take, Nat.min_eq_left (by omega)]
  · cases he

/-! ### Lives -/
structure Lf where
  ed : Ed
  fr : Nat
  til : Nat
instance : Inhabited Lf := ⟨⟨(0, 0), 0, 0⟩⟩
def upd (o : Ed → Nat) (x : Ed) (v : Nat) : Ed → Nat := fun y => if y = x then v else o y
structure LS where
  o : Ed → Nat
  out : List Lf
def lstep (L i : Nat) (s : LS) (e : Ev) : LS :=
  if e.w = 1 then ⟨upd s.o e.ed s.out.length, s.out ++ [⟨e.ed, i, L⟩]⟩
  else if e.w = 2 then ⟨s.o, s.out.modify (s.o e.ed) fun x => { x with til := i }⟩
  else s
def livesTo (l : List Ev) : Nat → LS
  | 0 => ⟨fun _ => 0, []⟩
  | k + 1 => lstep l.length k (livesTo l k) (l.getD k default)
def lives (l : List Ev) : List Lf := (livesTo l l.length).out
/-- What holds of the lives found so far. -/
structure LOk (l : List Ev) (k : Nat) (s : LS) : Prop where
  cnt : s.out.length ≤ k
  each : ∀ (j : Nat) (x : Lf), s.out[j]? = some x → x.fr < k ∧ x.fr < x.til ∧ (x.til = l.length ∨ x.til < k) ∧ ∃ e : Ev, l[x.fr]? = some e ∧ e.w = 1 ∧ x.ed = e.ed
  opn : ∀ x : Ed, there (l.take k) x = true → ∃ y : Lf, s.out[s.o x]? = some y ∧ y.ed = x ∧ y.til = l.length
  only : ∀ (j : Nat) (y : Lf), s.out[j]? = some y → y.til = l.length → there (l.take k) y.ed = true ∧ s.o y.ed = j
  was : ∀ (t : Nat) (x : Ed), t ≤ k → (there (l.take t) x = true ↔ ∃ y ∈ s.out, y.ed = x ∧ y.fr < t ∧ t ≤ y.til)
theorem LOk.zero (l : List Ev) : LOk l 0 (livesTo l 0) :=
  ⟨by simp [livesTo], by simp [livesTo], by simp [there], by simp [livesTo], by intro t x ht; obtain rfl : t = 0 := Nat.le_zero.1 ht; simp [there, livesTo]⟩
theorem LOk.ask {l : List Ev} {k : Nat} {s : LS} {e : Ev} (h : LOk l k s) (he : l[k]? = some e) (hw : e.w = 3) : LOk l (k + 1) (lstep l.length k s e) := by
  have hs : lstep l.length k s e = s := by unfold lstep; rw [if_neg (by omega), if_neg (by omega)]
  have ht : there (l.take (k + 1)) = there (l.take k) := by rw [take_next he, there_snoc, nxt, if_pos hw]
  have hk : k < l.length := (List.getElem?_eq_some_iff.1 he).1
  rw [hs]
  refine ⟨by have := h.cnt; omega, fun j x hx => ?_, by rw [ht]; exact h.opn, by rw [ht]; exact h.only, fun t x hle => ?_⟩
  · obtain ⟨h1, h2, h3, h4⟩ := h.each j x hx
    exact ⟨by omega, h2, by omega, h4⟩
  · by_cases c : t = k + 1
    · subst c
      rw [ht, h.was k x (Nat.le_refl _)]
      constructor
      · rintro ⟨y, hy, h1, h2, h3⟩
        refine ⟨y, hy, h1, by omega, ?_⟩
        obtain ⟨j, hj⟩ := List.mem_iff_getElem?.1 hy
        obtain ⟨_, _, h5, _⟩ := h.each j y hj
        omega
      · rintro ⟨y, hy, h1, h2, h3⟩
        obtain ⟨j, hj⟩ := List.mem_iff_getElem?.1 hy
        obtain ⟨h5, _, _, _⟩ := h.each j y hj
        exact ⟨y, hy, h1, h5, by omega⟩
    · exact h.was t x (by omega)
theorem LOk.add {l : List Ev} {k : Nat} {s : LS} {e : Ev} (h : LOk l k s) (he : l[k]? = some e) (hw : e.w = 1) (hn : there (l.take k) e.ed = false) : LOk l (k + 1) (lstep l.length k s e) := by
  have hk : k < l.length := (List.getElem?_eq_some_iff.1 he).1
  have hs : lstep l.length k s e = ⟨upd s.o e.ed s.out.length, s.out ++ [⟨e.ed, k, l.length⟩]⟩ := by unfold lstep; rw [if_pos hw]
  have ht : ∀ y, there (l.take (k + 1)) y = if y = e.ed then true else there (l.take k) y := by
    intro y; rw [take_next he, there_snoc, nxt, if_neg (by omega), flip, hn]; rfl
  have hget : ∀ j x, (s.out ++ [(⟨e.ed, k, l.length⟩ : Lf)])[j]? = some x → s.out[j]? = some x ∨ (j = s.out.length ∧ x = ⟨e.ed, k, l.length⟩) := by
    intro j x hx
    rw [List.getElem?_append] at hx
    split at hx
    · exact .inl hx
    · right
      have := (List.getElem?_eq_some_iff.1 hx).1
      simp at this
      have hj : j = s.out.length := by omega
      subst hj
      simp at hx
      exact ⟨rfl, hx.symm⟩
  rw [hs]
  refine ⟨by have := h.cnt; simp; omega, fun j x hx => ?_, fun x hx => ?_, fun j y hy hyt => ?_, fun t x hle => ?_⟩
  · rcases hget j x hx with hx | ⟨rfl, rfl⟩
    · obtain ⟨h1, h2, h3, h4⟩ := h.each j x hx
      exact ⟨by omega, h2, by omega, h4⟩
    · exact ⟨by simp, hk, .inl rfl, e, he, hw, rfl⟩
  · rw [ht] at hx
    by_cases c : x = e.ed
    · subst c; refine ⟨⟨e.ed, k, l.length⟩, ?_, rfl, rfl⟩
      simp [upd]
    · rw [if_neg c] at hx
      obtain ⟨y, h1, h2, h3⟩ := h.opn x hx
      refine ⟨y, ?_, h2, h3⟩
      simp only [upd, if_neg c]
      have := (List.getElem?_eq_some_iff.1 h1).1
      rw [List.getElem?_append_left this]; exact h1
  · rcases hget j y hy with hy | ⟨rfl, rfl⟩
    · obtain ⟨h1, h2⟩ := h.only j y hy hyt
      have c : y.ed ≠ e.ed := by intro c; rw [c, hn] at h1; cases h1
      rw [ht, if_neg c]
      exact ⟨h1, by simp only [upd, if_neg c]; exact h2⟩
    · rw [ht]; simp [upd]
  · by_cases c : t = k + 1
    · subst c
      rw [ht]
      constructor
      · intro hx
        by_cases c : x = e.ed
        · subst c; exact ⟨⟨e.ed, k, l.length⟩, by simp, rfl, by simp, hk⟩
        · rw [if_neg c] at hx
          obtain ⟨y, hy, h1, h2⟩ := h.opn x hx
          obtain ⟨h5, _⟩ := h.each _ y hy
          exact ⟨y, List.mem_append_left _ (List.mem_of_getElem? hy), h1, by omega, by omega⟩
      · rintro ⟨y, hy, h1, h2, h3⟩
        obtain ⟨j, hj⟩ := List.mem_iff_getElem?.1 hy
        rcases hget j y hj with hj | ⟨rfl, rfl⟩
        · obtain ⟨h5, h6, h7, _⟩ := h.each j y hj
          have hto : y.til = l.length := by omega
          obtain ⟨h8, _⟩ := h.only j y hj hto
          rw [h1] at h8
          split <;> first | rfl | exact h8
        · rw [if_pos h1.symm]
    · rw [h.was t x (by omega)]
      constructor
      · rintro ⟨y, hy, r⟩
        exact ⟨y, List.mem_append_left _ hy, r⟩
      · rintro ⟨y, hy, h1, h2, h3⟩
        rw [List.mem_append] at hy
        rcases hy with hy | hy
        · exact ⟨y, hy, h1, h2, h3⟩
        · simp at hy; subst hy; simp at h2; omega
theorem LOk.drop {l : List Ev} {k : Nat} {s : LS} {e : Ev} (h : LOk l k s) (he : l[k]? = some e) (hw : e.w = 2) (hn : there (l.take k) e.ed = true) : LOk l (k + 1) (lstep l.length k s e) := by
  have hk : k < l.length := (List.getElem?_eq_some_iff.1 he).1
  have hs : lstep l.length k s e = ⟨s.o, s.out.modify (s.o e.ed) fun x => { x with til := k }⟩ := by unfold lstep; rw [if_neg (by omega), if_pos hw]
  have ht : ∀ y, there (l.take (k + 1)) y = if y = e.ed then false else there (l.take k) y := by
    intro y; rw [take_next he, there_snoc, nxt, if_neg (by omega), flip, hn]; rfl
  obtain ⟨z, hz, hz1, hz2⟩ := h.opn _ hn
  have hget : ∀ j x, (s.out.modify (s.o e.ed) fun x => { x with til := k })[j]? = some x → (j ≠ s.o e.ed ∧ s.out[j]? = some x) ∨ (j = s.o e.ed ∧ x = { z with til := k }) := by
    intro j x hx
    rw [List.getElem?_modify] at hx
    by_cases c : s.o e.ed = j
    · subst c; rw [hz] at hx; simp at hx; exact .inr ⟨rfl, hx.symm⟩
    · simp only [c, if_false] at hx; refine .inl ⟨fun e => c e.symm, ?_⟩; simpa using hx
  have hput : ∀ j x, s.out[j]? = some x → (s.out.modify (s.o e.ed) fun x => { x with til := k })[j]? = some (if j = s.o e.ed then { z with til := k } else x) := by
    intro j x hx
    rw [List.getElem?_modify]
    by_cases c : s.o e.ed = j
    · subst c; rw [if_pos rfl, hz]; simp
    · rw [if_neg (fun e => c e.symm), hx]; simp [c]
  rw [hs]
  obtain ⟨z1, z2, z3, z4⟩ := h.each _ z hz
  refine ⟨by have := h.cnt; simp; omega, fun j x hx => ?_, fun x hx => ?_, fun j y hy hyt => ?_, fun t x hle => ?_⟩
  · rcases hget j x hx with ⟨_, hx⟩ | ⟨rfl, rfl⟩
    · obtain ⟨h1, h2, h3, h4⟩ := h.each j x hx
      exact ⟨by omega, h2, by omega, h4⟩
    · exact ⟨by simp; omega, by simp; omega, .inr (by simp), z4⟩
  · rw [ht] at hx
    by_cases c : x = e.ed
    · rw [if_pos c] at hx; cases hx
    · rw [if_neg c] at hx
      obtain ⟨y, h1, h2, h3⟩ := h.opn x hx
      have hne : s.o x ≠ s.o e.ed := by
        intro q
        rw [q, hz] at h1
        injection h1 with h1; subst h1; exact c (h2.symm.trans hz1)
      refine ⟨y, ?_, h2, h3⟩
      have := hput _ _ h1
      rw [if_neg hne] at this; exact this
  · rcases hget j y hy with ⟨hne, hy⟩ | ⟨rfl, rfl⟩
    · obtain ⟨h1, h2⟩ := h.only j y hy hyt
      have c : y.ed ≠ e.ed := by
        intro c; rw [c] at h2; exact hne h2.symm
      rw [ht, if_neg c]
      exact ⟨h1, h2⟩
    · simp at hyt; omega
  · by_cases c : t = k + 1
    · subst c
      rw [ht]
      constructor
      · intro hx
        by_cases c : x = e.ed
        · rw [if_pos c] at hx; cases hx
        · rw [if_neg c] at hx
          obtain ⟨y, hy, h1, h2⟩ := h.opn x hx
          obtain ⟨h5, _⟩ := h.each _ y hy
          have hne : s.o x ≠ s.o e.ed := by
            intro q
            rw [q, hz] at hy
            injection hy with hy; subst hy; exact c (h1.symm.trans hz1)
          have := hput _ _ hy
          rw [if_neg hne] at this
          exact ⟨y, List.mem_of_getElem? this, h1, by omega, by omega⟩
      · rintro ⟨y, hy, h1, h2, h3⟩
        obtain ⟨j, hj⟩ := List.mem_iff_getElem?.1 hy
        rcases hget j y hj with ⟨hne, hj⟩ | ⟨rfl, rfl⟩
        · obtain ⟨h5, h6, h7, _⟩ := h.each j y hj
          have hto : y.til = l.length := by omega
          obtain ⟨h8, h9⟩ := h.only j y hj hto
          rw [h1] at h8 h9
          by_cases c : x = e.ed
          · subst c; exact absurd h9.symm hne
          · rw [if_neg c]; exact h8
        · simp at h3; omega
    · rw [h.was t x (by omega)]
      constructor
      · rintro ⟨y, hy, h1, h2, h3⟩
        obtain ⟨j, hj⟩ := List.mem_iff_getElem?.1 hy
        have := hput _ _ hj
        refine ⟨_, List.mem_of_getElem? this, ?_⟩
        by_cases c : j = s.o e.ed
        · rw [if_pos c]
          rw [c, hz] at hj
          injection hj with hj; subst hj
          exact ⟨h1, h2, by show t ≤ k; omega⟩
        · rw [if_neg c]; exact ⟨h1, h2, h3⟩
      · rintro ⟨y, hy, h1, h2, h3⟩
        obtain ⟨j, hj⟩ := List.mem_iff_getElem?.1 hy
        rcases hget j y hj with ⟨_, hj⟩ | ⟨rfl, rfl⟩
        · exact ⟨y, List.mem_of_getElem? hj, h1, h2, h3⟩
        · exact ⟨z, List.mem_of_getElem? hz, h1, h2, by show t ≤ z.til; omega⟩
theorem lives_to {n : Int} {l : List Ev} (h : Good n l) : ∀ k, k ≤ l.length → LOk l k (livesTo l k)
  | 0, _ => LOk.zero l
  | k + 1, hk => by
    have ih := lives_to h k (by omega)
    have he : l[k]? = some (l.getD k default) := by rw [List.getD_eq_getElem?_getD, List.getElem?_eq_getElem (by omega)]; rfl
    have hb := h.2.2.2 k _ he
    rw [livesTo]
    generalize l.getD k default = e at he hb ⊢
    unfold bad at hb
    split at hb
    · cases hb
    split at hb
    · exact ih.ask he (by assumption)
    split at hb
    · cases hb
    split at hb
    · cases hb
    split at hb
    · cases hb
    · rename_i h1 h2 _ h4 h5
      have : e.w = 1 ∨ e.w = 2 := by omega
      rcases this with hw | hw
      · exact ih.add he hw (by cases hq : there (l.take k) e.ed with | false => rfl | true => exact absurd ⟨hw, hq⟩ h4)
      · exact ih.drop he hw (by cases hq : there (l.take k) e.ed with | true => rfl | false => exact absurd ⟨hw, hq⟩ h5)
theorem lives_ok {n : Int} {l : List Ev} (h : Good n l) : LOk l l.length (livesTo l l.length) := lives_to h _ (Nat.le_refl _)
end AK
end Go.Proofs.YtckcbfnffmohgaaGreat
