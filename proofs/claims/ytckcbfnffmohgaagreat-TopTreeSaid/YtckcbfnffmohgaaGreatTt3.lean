/-
  Plain mathematics of a union of nodes that is kept as a list of hangs (a, b): the root b was hung under the root a, the last hang first. No program in sight. No conditions.
  What is asked, in plain Lean: events, what is wrong of them, lives of edges, answers by unions. No program in sight.
-/
namespace UF

/-- How many below n have a property. -/
def cnt : Nat → (Nat → Bool) → Nat
  | 0, _ => 0
  | n + 1, p => cnt n p + (if p n then 1 else 0)

theorem cnt_congr {n : Nat} {p q : Nat → Bool} (h : ∀ x, x < n → p x = q x) : cnt n p = cnt n q := by
  induction n with
  | zero => rfl
  | succ n ih => simp only [cnt]; rw [ih (fun x hx => h x (by omega)), h n (by omega)]

theorem cnt_le (n : Nat) (p : Nat → Bool) : cnt n p ≤ n := by
  induction n with
  | zero => simp [cnt]
  | succ n ih => simp only [cnt]; split <;> omega

theorem cnt_true (n : Nat) : cnt n (fun _ => true) = n := by
  induction n with
  | zero => rfl
  | succ n ih => simp [cnt, ih]

theorem cnt_false (n : Nat) {p : Nat → Bool} (h : ∀ x, x < n → p x = false) : cnt n p = 0 := by
  induction n with
  | zero => rfl
  | succ n ih => simp only [cnt]; rw [ih (fun x hx => h x (by omega)), h n (by omega)]; simp

theorem cnt_pos {n : Nat} {p : Nat → Bool} {k : Nat} (hk : k < n) (h : p k = true) : 0 < cnt n p := by
  induction n with
  | zero => omega
  | succ n ih =>
    simp only [cnt]
    by_cases e : k = n
    · subst e; simp [h]
    · have := ih (by omega); omega

/-- One drops out. -/
theorem cnt_drop {n : Nat} {p q : Nat → Bool} {k : Nat} (hk : k < n) (hp : p k = true) (hq : q k = false) (h : ∀ x, x < n → x ≠ k → q x = p x) : cnt n q + 1 = cnt n p := by
  induction n with
  | zero => omega
  | succ n ih =>
    simp only [cnt]
    by_cases e : k = n
    · subst e
      rw [cnt_congr (q := p) (fun x hx => h x (by omega) (by omega)), hp, hq]; simp
    · have := ih (by omega) (fun x hx hne => h x (by omega) hne)
      rw [h n (by omega) (fun e' => e e'.symm)]; omega

/-- Two that never hold together. -/
theorem cnt_or {n : Nat} {p q : Nat → Bool} (h : ∀ x, x < n → ¬ (p x = true ∧ q x = true)) : cnt n (fun x => p x || q x) = cnt n p + cnt n q := by
  induction n with
  | zero => rfl
  | succ n ih =>
    simp only [cnt]
    rw [ih (fun x hx => h x (by omega))]
    have := h n (by omega)
    by_cases hp : p n = true <;> by_cases hq : q n = true
    · exact absurd ⟨hp, hq⟩ this
    · simp [hp, hq]; omega
    · simp [hp, hq]; omega
    · simp [hp, hq]

abbrev Hs := List (Nat × Nat)

def up : Hs → Nat → Nat
  | [], x => x
  | (a, b) :: hs, x => if x = b then a else up hs x
def sz : Hs → Nat → Nat
  | [], _ => 1
  | (a, b) :: hs, x => if x = a then sz hs a + sz hs b else sz hs x
def rt : Hs → Nat → Nat
  | [], x => x
  | (a, b) :: hs, x => if rt hs x = b then a else rt hs x
def dist : Hs → Nat → Nat
  | [], _ => 0
  | (_, b) :: hs, x => if rt hs x = b then dist hs x + 1 else dist hs x
def Ok (n : Nat) : Hs → Prop
  | [] => True
  | (a, b) :: hs => Ok n hs ∧ a < n ∧ b < n ∧ rt hs a = a ∧ rt hs b = b ∧ a ≠ b

theorem rt_lt {n : Nat} : ∀ {hs : Hs} {x : Nat}, Ok n hs → x < n → rt hs x < n
  | [], _, _, h => h
  | (a, b) :: hs, x, h, hx => by
    have := rt_lt (x := x) h.1 hx
    simp only [rt]; split
    · exact h.2.1
    · exact this
theorem up_lt {n : Nat} : ∀ {hs : Hs} {x : Nat}, Ok n hs → x < n → up hs x < n
  | [], _, _, h => h
  | (a, b) :: hs, x, h, hx => by
    have := up_lt (x := x) h.1 hx
    simp only [up]; split
    · exact h.2.1
    · exact this
theorem rt_rt {n : Nat} : ∀ {hs : Hs} {x : Nat}, Ok n hs → rt hs (rt hs x) = rt hs x
  | [], _, _ => rfl
  | (a, b) :: hs, x, h => by
    have h1 := rt_rt (x := x) h.1
    obtain ⟨_, _, _, ha, hb, hne⟩ := h
    simp only [rt]
    by_cases e : rt hs x = b
    · simp [e, ha, hne]
    · simp [e, h1]
theorem rt_up {n : Nat} : ∀ {hs : Hs} {x : Nat}, Ok n hs → rt hs (up hs x) = rt hs x
  | [], _, _ => rfl
  | (a, b) :: hs, x, h => by
    have h1 := rt_up (x := x) h.1
    obtain ⟨_, _, _, ha, hb, hne⟩ := h
    simp only [rt, up]
    by_cases e : x = b
    · subst e; simp [ha, hb, hne]
    · simp [e, h1]
theorem up_self {n : Nat} : ∀ {hs : Hs} {x : Nat}, Ok n hs → (up hs x = x ↔ rt hs x = x)
  | [], _, _ => Iff.rfl
  | (a, b) :: hs, x, h => by
    have h1 := up_self (x := x) h.1
    have h2 := rt_rt (x := x) h.1
    obtain ⟨_, _, _, ha, hb, hne⟩ := h
    simp only [rt, up]
    by_cases e : x = b
    · subst e; simp [hb]
    · by_cases e2 : rt hs x = b
      · simp only [e, e2, if_true, if_false]
        rw [h1]
        constructor
        · intro h3; omega
        · intro h3; subst h3; rw [ha] at e2; exact absurd e2 hne
      · simp [e, e2, h1]
theorem dist_up {n : Nat} : ∀ {hs : Hs} {x : Nat}, Ok n hs → up hs x ≠ x → dist hs (up hs x) < dist hs x
  | [], x, _, h => absurd rfl h
  | (a, b) :: hs, x, h, hu => by
    have h1 := dist_up (x := x) h.1
    have h2 := rt_up (x := x) h.1
    have h0 : ∀ {n : Nat} {hs : Hs} {x : Nat}, Ok n hs → rt hs x = x → dist hs x = 0 := by
      intro n hs
      induction hs with
      | nil => intros; rfl
      | cons p hs ih =>
        obtain ⟨a, b⟩ := p
        intro x h hx
        obtain ⟨h, _, _, ha, hb, hne⟩ := h
        simp only [rt] at hx
        simp only [dist]
        by_cases e : rt hs x = b
        · simp only [e, if_true] at hx; subst hx; rw [ha] at e; exact absurd e hne
        · simp only [e, if_false] at hx ⊢; exact ih h hx
    obtain ⟨ho, _, _, ha, hb, hne⟩ := h
    simp only [dist, up] at hu ⊢
    by_cases e : x = b
    · subst e
      simp only [if_true] at hu ⊢
      rw [ha, hb, h0 ho ha, h0 ho hb]
      simp [hne]
    · simp only [e, if_false] at hu ⊢
      have := h1 hu
      rw [h2]
      split <;> omega
theorem dist_le : ∀ (hs : Hs) (x : Nat), dist hs x ≤ hs.length
  | [], _ => Nat.le_refl _
  | (a, b) :: hs, x => by
    have := dist_le hs x
    simp only [dist, List.length_cons]; split <;> omega
/-- The size of a root is how many have it. -/
theorem sz_root {n : Nat} : ∀ {hs : Hs} {x : Nat}, Ok n hs → x < n → rt hs x = x → sz hs x = cnt n (fun y => rt hs y == x)
  | [], x, _, hx, _ => by
    simp only [sz, rt]
    have := cnt_drop (n := n) (k := x) (p := fun y => y == x) (q := fun _ => false) hx (by simp) rfl (by intro y _ hne; simp [hne])
    rw [cnt_false n (by simp)] at this; omega
  | (a, b) :: hs, x, h, hx, hr => by
    obtain ⟨ho, la, lb, ha, hb, hne⟩ := h
    simp only [sz]
    by_cases e : x = a
    · subst e
      simp only [if_true]
      rw [sz_root ho la ha, sz_root ho lb hb, ← cnt_or (by intro y _; simp; intro h1 h2; omega)]
      apply cnt_congr
      intro y _
      simp only [rt]
      by_cases e2 : rt hs y = b
      · simp [e2]
      · simp [e2]
    · simp only [e, if_false]
      simp only [rt] at hr
      by_cases e2 : rt hs x = b
      · simp only [e2, if_true] at hr; omega
      · simp only [e2, if_false] at hr
        rw [sz_root ho hx hr]
        apply cnt_congr
        intro y _
        simp only [rt]
        by_cases e3 : rt hs y = b
        · have : b ≠ x := by intro h; subst h; exact e2 hb
          have h2 : a ≠ x := fun h => e h.symm
          simp only [e3, if_true]; rw [beq_false_of_ne this, beq_false_of_ne h2]
        · simp [e3]
theorem sz_le {n : Nat} : ∀ {hs : Hs} {x : Nat}, Ok n hs → x < n → sz hs x ≤ n
  | [], _, _, hx => by simp only [sz]; omega
  | (a, b) :: hs, x, h, hx => by
    have h' := h
    obtain ⟨ho, la, lb, ha, hb, hne⟩ := h
    by_cases e : x = a
    · have hr : rt ((a, b) :: hs) x = x := by simp only [rt]; subst e; rw [ha]; simp [hne]
      rw [sz_root h' hx hr]; exact cnt_le _ _
    · simp only [sz, e, if_false]; exact sz_le ho hx
/-- Roots and hangs are as many as nodes. -/
theorem roots {n : Nat} : ∀ {hs : Hs}, Ok n hs → cnt n (fun x => rt hs x == x) + hs.length = n
  | [], _ => by simp [rt, cnt_true]
  | (a, b) :: hs, h => by
    obtain ⟨ho, la, lb, ha, hb, hne⟩ := h
    have := roots ho
    have h2 := cnt_drop (n := n) (k := b) (p := fun x => rt hs x == x) (q := fun x => rt ((a, b) :: hs) x == x) lb (by simp [hb]) (by simp [rt, hb, hne])
      (by
        intro x _ hx
        simp only [rt]
        by_cases e : rt hs x = b
        · have : a ≠ x := by rintro rfl; rw [ha] at e; exact hne e
          simp only [e, if_true]; rw [beq_false_of_ne this, beq_false_of_ne (fun h => hx h.symm)]
        · simp [e])
    simp only [List.length_cons]; omega
theorem len_lt {n : Nat} {hs : Hs} (h : Ok n hs) (hn : 0 < n) : hs.length < n := by
  have h1 := roots h
  have h2 : 0 < cnt n (fun x => rt hs x == x) := cnt_pos (k := rt hs 0) (rt_lt h hn) (by simp [rt_rt h])
  omega

/-- Two are put together. -/
def join (hs : Hs) (x y : Nat) : Hs :=
  if rt hs x = rt hs y then hs else if sz hs (rt hs x) < sz hs (rt hs y) then (rt hs y, rt hs x) :: hs else (rt hs x, rt hs y) :: hs
theorem join_ok {n : Nat} {hs : Hs} {x y : Nat} (h : Ok n hs) (hx : x < n) (hy : y < n) : Ok n (join hs x y) := by
  unfold join
  have := rt_lt h hx; have := rt_lt h hy; have := rt_rt (x := x) h; have := rt_rt (x := y) h
  split
  · exact h
  · split
    · exact ⟨h, by assumption, by assumption, by assumption, by assumption, by omega⟩
    · exact ⟨h, by assumption, by assumption, by assumption, by assumption, by omega⟩
theorem join_rel {hs : Hs} {x y p q : Nat} :
    rt (join hs x y) p = rt (join hs x y) q ↔ rt hs p = rt hs q ∨ (rt hs p = rt hs x ∧ rt hs q = rt hs y) ∨ (rt hs p = rt hs y ∧ rt hs q = rt hs x) := by
  unfold join
  by_cases e : rt hs x = rt hs y
  · simp [e]; omega
  · simp only [e, if_false]
    split <;> simp only [rt] <;> split <;> split <;> omega
theorem join_len {hs : Hs} {x y : Nat} : (join hs x y).length = if rt hs x = rt hs y then hs.length else hs.length + 1 := by
  unfold join
  split
  · rfl
  · split <;> rfl

/-- Who has the same value as none ahead of him. -/
def lead (f : Nat → Nat) (x : Nat) : Bool := (List.range x).all fun y => f y != f x
theorem lead_iff {f : Nat → Nat} {x : Nat} : lead f x = true ↔ ∀ y, y < x → f y ≠ f x := by simp [lead]
/-- The least one with the value of x. -/
def least (f : Nat → Nat) : Nat → Nat → Nat
  | 0, v => v
  | n + 1, v => if least f n v < n then least f n v else if f n = v then n else n + 1
theorem least_spec (f : Nat → Nat) (v : Nat) : ∀ n, (least f n v < n ∧ f (least f n v) = v ∧ ∀ y, y < least f n v → f y ≠ v) ∨ (n ≤ least f n v ∧ ∀ y, y < n → f y ≠ v)
  | 0 => .inr ⟨Nat.zero_le _, fun y hy => by omega⟩
  | n + 1 => by
    rcases least_spec f v n with ⟨h1, h2, h3⟩ | ⟨h1, h2⟩
    · simp only [least, h1, if_true]; exact .inl ⟨by omega, h2, h3⟩
    · have : ¬ least f n v < n := by omega
      simp only [least, this, if_false]
      by_cases e : f n = v
      · simp only [e, if_true]; exact .inl ⟨by omega, trivial, h2⟩
      · simp only [e, if_false]
        refine .inr ⟨by omega, fun y hy => ?_⟩
        by_cases e2 : y = n
        · subst e2; exact e
        · exact h2 y (by omega)
theorem ex_least (f : Nat → Nat) (x : Nat) : ∃ m, m ≤ x ∧ f m = f x ∧ ∀ y, y < m → f y ≠ f x := by
  rcases least_spec f (f x) (x + 1) with ⟨h1, h2, h3⟩ | ⟨_, h2⟩
  · exact ⟨_, by omega, h2, h3⟩
  · exact absurd rfl (h2 x (by omega))

/-- As many lead as there are roots. -/
theorem leads {n : Nat} : ∀ {hs : Hs}, Ok n hs → cnt n (lead (rt hs)) + hs.length = n
  | [], _ => by
    have : cnt n (lead (rt [])) = n := by
      rw [cnt_congr (q := fun _ => true), cnt_true]
      intro x _; rw [lead_iff]; intro y hy; simp only [rt]; omega
    simp [this]
  | (a, b) :: hs, h => by
    obtain ⟨ho, la, lb, ha, hb, hne⟩ := h
    have ih := leads ho
    obtain ⟨ma, ma1, ma2, ma3⟩ := ex_least (rt hs) a
    obtain ⟨mb, mb1, mb2, mb3⟩ := ex_least (rt hs) b
    rw [ha] at ma2; rw [hb] at mb2
    rw [ha] at ma3; rw [hb] at mb3
    have hm : ma ≠ mb := by intro e; rw [e] at ma2; omega
    have h2 := cnt_drop (n := n) (k := max ma mb) (p := lead (rt hs)) (q := lead (rt ((a, b) :: hs))) (by omega)
      (by
        rw [lead_iff]; intro y hy hr
        by_cases hc : ma < mb
        · rw [Nat.max_eq_right (by omega)] at hy hr; rw [mb2] at hr; exact mb3 y hy hr
        · rw [Nat.max_eq_left (by omega)] at hy hr; rw [ma2] at hr; exact ma3 y hy hr)
      (by
        rw [Bool.eq_false_iff]; intro hl; rw [lead_iff] at hl
        by_cases hc : ma < mb
        · rw [Nat.max_eq_right (by omega)] at hl
          apply hl ma hc; simp [rt, ma2, mb2]
        · rw [Nat.max_eq_left (by omega)] at hl
          apply hl mb (by omega); simp [rt, ma2, mb2, hne])
      (by
        intro x _ hx
        rw [Bool.eq_iff_iff, lead_iff, lead_iff]
        constructor
        · intro h y hy e
          apply h y hy; simp only [rt]; rw [e]
        · intro h y hy e
          simp only [rt] at e
          by_cases e1 : rt hs y = b <;> by_cases e2 : rt hs x = b
          · exact h y hy (by omega)
          · rw [if_pos e1, if_neg e2] at e
            have hxa : x = ma := by
              rcases Nat.lt_trichotomy x ma with h3 | h3 | h3
              · exact absurd e.symm (ma3 x h3)
              · exact h3
              · exact absurd (ma2.trans e) (h ma h3)
            have : mb ≤ y := by
              rcases Nat.lt_or_ge y mb with h3 | h3
              · exact absurd e1 (mb3 y h3)
              · exact h3
            omega
          · rw [if_neg e1, if_pos e2] at e
            have hxb : x = mb := by
              rcases Nat.lt_trichotomy x mb with h3 | h3 | h3
              · exact absurd e2 (mb3 x h3)
              · exact h3
              · exact absurd (mb2.trans e2.symm) (h mb h3)
            have : ma ≤ y := by
              rcases Nat.lt_or_ge y ma with h3 | h3
              · exact absurd e (ma3 y h3)
              · exact h3
            omega
          · rw [if_neg e1, if_neg e2] at e; exact h y hy e)
    simp only [List.length_cons]; omega

/-- The same nodes together: as many hangs, the same sizes. -/
theorem same_len {n : Nat} {hs ks : Hs} (h : Ok n hs) (k : Ok n ks) (he : ∀ x y, x < n → y < n → (rt hs x = rt hs y ↔ rt ks x = rt ks y)) : hs.length = ks.length := by
  have h1 := leads h; have h2 := leads k
  have : cnt n (lead (rt hs)) = cnt n (lead (rt ks)) := cnt_congr fun x hx => by
    rw [Bool.eq_iff_iff, lead_iff, lead_iff]
    exact ⟨fun h y hy e => h y hy ((he y x (by omega) hx).2 e), fun h y hy e => h y hy ((he y x (by omega) hx).1 e)⟩
  omega
/-- Joined by edges. -/
inductive Con (es : List (Nat × Nat)) : Nat → Nat → Prop
  | refl (x : Nat) : Con es x x
  | edge {x y : Nat} (h : (x, y) ∈ es) : Con es x y
  | symm {x y : Nat} (h : Con es x y) : Con es y x
  | trans {x y z : Nat} (h : Con es x y) (k : Con es y z) : Con es x z
theorem Con.mono {es fs : List (Nat × Nat)} (h : ∀ x y, (x, y) ∈ es → Con fs x y) {p q : Nat} (c : Con es p q) : Con fs p q := by
  induction c with
  | refl x => exact .refl x
  | edge hm => exact h _ _ hm
  | symm _ ih => exact .symm ih
  | trans _ _ i1 i2 => exact .trans i1 i2
/-- What is told of all edges is told of all that they join. -/
theorem Con.ind {es : List (Nat × Nat)} {f : Nat → Nat} (h : ∀ x y, (x, y) ∈ es → f x = f y) {p q : Nat} (c : Con es p q) : f p = f q := by
  induction c with
  | refl x => rfl
  | edge hm => exact h _ _ hm
  | symm _ ih => exact ih.symm
  | trans _ _ i1 i2 => exact i1.trans i2
theorem Con.snoc {es : List (Nat × Nat)} {x y p q : Nat} :
    Con (es ++ [(x, y)]) p q ↔ Con es p q ∨ (Con es p x ∧ Con es q y) ∨ (Con es p y ∧ Con es q x) := by
  constructor
  · intro c
    induction c with
    | refl x => exact .inl (.refl x)
    | edge hm =>
      rw [List.mem_append] at hm
      rcases hm with hm | hm
      · exact .inl (.edge hm)
      · simp at hm; obtain ⟨rfl, rfl⟩ := hm; exact .inr (.inl ⟨.refl _, .refl _⟩)
    | symm _ ih =>
      rcases ih with h | ⟨h, k⟩ | ⟨h, k⟩
      · exact .inl h.symm
      · exact .inr (.inr ⟨k, h⟩)
      · exact .inr (.inl ⟨k, h⟩)
    | trans _ _ i1 i2 =>
      rcases i1 with h | ⟨h, k⟩ | ⟨h, k⟩ <;> rcases i2 with h' | ⟨h', k'⟩ | ⟨h', k'⟩
      · exact .inl (h.trans h')
      · exact .inr (.inl ⟨h.trans h', k'⟩)
      · exact .inr (.inr ⟨h.trans h', k'⟩)
      · exact .inr (.inl ⟨h, h'.symm.trans k⟩)
      · exact .inr (.inl ⟨h, k'⟩)
      · exact .inl (h.trans (k'.symm))
      · exact .inr (.inr ⟨h, h'.symm.trans k⟩)
      · exact .inl (h.trans (k'.symm))
      · exact .inr (.inr ⟨h, k'⟩)
  · have hm : ∀ {a b}, Con es a b → Con (es ++ [(x, y)]) a b := fun c => c.mono fun a b h => .edge (List.mem_append_left _ h)
    have hxy : Con (es ++ [(x, y)]) x y := .edge (by simp)
    rintro (h | ⟨h, k⟩ | ⟨h, k⟩)
    · exact hm h
    · exact ((hm h).trans hxy).trans (hm k).symm
    · exact ((hm h).trans hxy.symm).trans (hm k).symm
/-- The roots tell just what edges join. -/
def Tells (hs : Hs) (es : List (Nat × Nat)) : Prop := ∀ p q, rt hs p = rt hs q ↔ Con es p q
theorem tells_nil : Tells [] [] := fun p q => by
  constructor
  · intro h; simp only [rt] at h; subst h; exact .refl _
  · intro c; exact c.ind (f := rt []) (by simp)
theorem tells_join {hs : Hs} {es : List (Nat × Nat)} (h : Tells hs es) (x y : Nat) : Tells (join hs x y) (es ++ [(x, y)]) := fun p q => by
  rw [join_rel, Con.snoc, h, h, h, h, h]
end UF
namespace Go.Proofs.YtckcbfnffmohgaaGreat
set_option linter.unusedVariables false
namespace AK
structure Ev where
  w : Int
  a : Int
  b : Int
instance : Inhabited Ev := ⟨⟨0, 0, 0⟩⟩
abbrev Ed := Int × Int
def ek (a b : Int) : Ed := (min a b, max a b)
def Ev.ed (e : Ev) : Ed := ek e.a e.b
def flip (t : Ed → Bool) (x : Ed) : Ed → Bool := fun y => if y = x then !t x else t y
def bad (n : Int) (t : Ed → Bool) (e : Ev) : Option Int :=
  if e.w < 1 ∨ 3 < e.w ∨ e.a < 0 ∨ n ≤ e.a ∨ e.b < 0 ∨ n ≤ e.b then some 1
  else if e.w = 3 then none
  else if e.a = e.b then some 2
  else if e.w = 1 ∧ t e.ed = true then some 6
  else if e.w = 2 ∧ t e.ed = false then some 4
  else none
def nxt (t : Ed → Bool) (e : Ev) : Ed → Bool := if e.w = 3 then t else flip t e.ed
def there (l : List Ev) : Ed → Bool := l.foldl nxt (fun _ => false)
section
variable {n : Int} {t : Ed → Bool} {w a b : Int}
end
/-- The first that is wrong, from a place on. -/
def chkFrom (n : Int) : (Ed → Bool) → Nat → List Ev → Int × Option Int
  | _, _, [] => (0, none)
  | t, i, e :: r => match bad n t e with
    | some x => ((i : Int), some x)
    | none => chkFrom n (nxt t e) (i + 1) r
def chk (n : Int) (l : List Ev) : Int × Option Int :=
  if n < 1 ∨ 60 < n then (0, some 1) else if 120 < l.length then (0, some 3) else chkFrom n (fun _ => false) 0 l
/-- What is told so far, while nothing is wrong. -/
def At (n : Int) (l : List Ev) (k : Nat) : Prop := chk n l = chkFrom n (there (l.take k)) k (l.drop k)
/-- Nothing is wrong. -/
def Good (n : Int) (l : List Ev) : Prop := 1 ≤ n ∧ n ≤ 60 ∧ l.length ≤ 120 ∧ ∀ k e, l[k]? = some e → bad n (there (l.take k)) e = none
/-! ### Lives -/
structure Lf where
  ed : Ed
  fr : Nat
  til : Nat
instance : Inhabited Lf := ⟨⟨(0, 0), 0, 0⟩⟩
def upd (o : Ed → Nat) (x : Ed) (v : Nat) : Ed → Nat := fun y => if y = x then v else o y
structure LS where
  o : Ed → Nat
  out : List Lf
def lstep (L i : Nat) (s : LS) (e : Ev) : LS :=
  if e.w = 1 then ⟨upd s.o e.ed s.out.length, s.out ++ [⟨e.ed, i, L⟩]⟩
  else if e.w = 2 then ⟨s.o, s.out.modify (s.o e.ed) fun x => { x with til := i }⟩
  else s
def livesTo (l : List Ev) : Nat → LS
  | 0 => ⟨fun _ => 0, []⟩
  | k + 1 => lstep l.length k (livesTo l k) (l.getD k default)
def lives (l : List Ev) : List Lf := (livesTo l l.length).out
end AK
end Go.Proofs.YtckcbfnffmohgaaGreat
