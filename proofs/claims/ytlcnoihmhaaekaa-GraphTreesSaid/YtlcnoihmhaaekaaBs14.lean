/-
  Parts of a graph counted; bridges and joints by counting, in plain Lean. No program in sight.
  Plain: forests as relations without a ring; ways around a tree as lists of marks and steps: rotated, linked, cut. No program here; no conditions.
-/
import Derived.Test.YtlcnoihmhaaekaaBs12
import Derived.Test.YtlcnoihmhaaekaaBs13
namespace Go.Proofs.Ytlcnoihmhaaekaa
open Go
set_option linter.unusedVariables false
namespace PT
open UF
open PD (cnt_le cnt_mono cnt_lt)

def fx (p : List Nat) (i : Nat) : Bool := decide (p[i]? = some i)
/-- How many parts there are. -/
def cntP (n : Nat) (p : List Nat) : Nat := PD.cnt (fx p) n
theorem IsParts.get {n : Nat} {es : List (Nat × Nat)} {p : List Nat} (h : IsParts n es p) {x : Nat} (hx : x < n) : ∃ v, p[x]? = some v ∧ v ≤ x ∧ Con es x v := by
  obtain ⟨v, hv⟩ : ∃ v, p[x]? = some v := ⟨_, List.getElem?_eq_getElem (by rw [h.len]; exact hx)⟩
  exact ⟨v, hv, h.con x v hv⟩
/-- The least one is its own. -/
theorem IsParts.own {n : Nat} {es : List (Nat × Nat)} {p : List Nat} (h : IsParts n es p) {x v : Nat} (hx : x < n) (hv : p[x]? = some v) : p[v]? = some v := by
  have h1 := h.con x v hv
  obtain ⟨u, hu, h2, h3⟩ := h.get (x := v) (by omega)
  have := (h.rel hv hu).2 h1.2
  rw [hu, this]
theorem exists_parts (n : Nat) (es : List (Nat × Nat)) (hin : ∀ x y, (x, y) ∈ es → x < n ∧ y < n) : ∃ p, IsParts n es p := by
  classical
  have hex : ∀ x, ∃ v, Con es x v ∧ ∀ y, Con es x y → v ≤ y := fun x => by
    have hx : ∃ v, Con es x v := ⟨x, .refl x⟩
    have key : ∀ k, (∃ v, v ≤ k ∧ Con es x v) → ∃ v, Con es x v ∧ ∀ y, Con es x y → v ≤ y := by
      intro k
      induction k with
      | zero =>
        rintro ⟨v, h1, h2⟩
        exact ⟨v, h2, fun y _ => by omega⟩
      | succ k ih =>
        rintro ⟨v, h1, h2⟩
        by_cases h3 : ∃ v, v ≤ k ∧ Con es x v
        · exact ih h3
        · refine ⟨v, h2, fun y hy => ?_⟩
          apply Classical.byContradiction
          intro w
          exact h3 ⟨y, by omega, hy⟩
    exact key x ⟨x, Nat.le_refl _, .refl x⟩
  refine ⟨(List.range n).map fun x => Classical.choose (hex x), ?_⟩
  have hget : ∀ x v, ((List.range n).map fun x => Classical.choose (hex x))[x]? = some v → x < n ∧ v = Classical.choose (hex x) := fun x v h => by
    rw [List.getElem?_map] at h
    by_cases hx : x < n
    · rw [List.getElem?_range hx] at h
      simp at h
      exact ⟨hx, h.symm⟩
    · rw [List.getElem?_eq_none (by simp; omega)] at h
      simp at h
  refine { len := by simp, con := fun x v h => ?_, ed := fun x y h => ?_ }
  · obtain ⟨_, rfl⟩ := hget x v h
    have := Classical.choose_spec (hex x)
    exact ⟨this.2 x (.refl x), this.1⟩
  · obtain ⟨h1, h2⟩ := hin x y h
    rw [List.getElem?_map, List.getElem?_map, List.getElem?_range h1, List.getElem?_range h2]
    have a := Classical.choose_spec (hex x)
    have b := Classical.choose_spec (hex y)
    have e1 := a.2 _ (.trans (.edge h) b.1)
    have e2 := b.2 _ (.trans (.symm (.edge h)) a.1)
    simp only [Option.map_some]
    congr 1
    omega
theorem cnt_one {p q : Nat → Bool} {m : Nat} : ∀ {n : Nat}, (∀ i, i < n → (q i = true ↔ p i = true ∨ i = m)) → m < n → p m = false → PD.cnt q n = PD.cnt p n + 1
  | 0, _, h, _ => by omega
  | n + 1, h, hm, hp => by
    simp only [PD.cnt]
    by_cases e : m = n
    · subst e
      have h1 : PD.cnt q m = PD.cnt p m := by
        refine Nat.le_antisymm (cnt_mono fun i hi => ?_) (cnt_mono fun i hi => ?_)
        · intro w; exact ((h i (by omega)).1 w).resolve_right (by omega)
        · intro w; exact (h i (by omega)).2 (.inl w)
      have h2 : q m = true := (h m (by omega)).2 (.inr rfl)
      rw [h1, h2, hp]; simp
    · have ih := cnt_one (n := n) (fun i hi => h i (by omega)) (by omega) hp
      have h2 : q n = true ↔ p n = true := (h n (by omega)).trans ⟨fun w => w.resolve_right (fun z => e z.symm), .inl⟩
      rw [ih]
      by_cases w : p n = true
      · rw [if_pos w, if_pos (h2.2 w)]
      · rw [if_neg w, if_neg (fun z => w (h2.1 z))]
theorem cnt_congr {p q : Nat → Bool} {n : Nat} (h : ∀ i, i < n → (q i = true ↔ p i = true)) : PD.cnt q n = PD.cnt p n :=
  Nat.le_antisymm (cnt_mono fun i hi w => (h i hi).1 w) (cnt_mono fun i hi w => (h i hi).2 w)
theorem fx_true {p : List Nat} {i : Nat} : fx p i = true ↔ p[i]? = some i := by simp [fx]
/-- A finer relation has more parts, and as many just if it is the same. -/
theorem count_finer {n : Nat} {es fs : List (Nat × Nat)} {p q : List Nat} (hp : IsParts n es p) (hq : IsParts n fs q) (sub : ∀ x y, Con fs x y → Con es x y) :
    cntP n p ≤ cntP n q ∧ (cntP n p < cntP n q ↔ ∃ x y, x < n ∧ y < n ∧ Con es x y ∧ ¬ Con fs x y) := by
  have inc : ∀ i, i < n → fx p i = true → fx q i = true := fun i hi w => by
    rw [fx_true] at w ⊢
    obtain ⟨v, hv, h1, h2⟩ := hq.get hi
    have := hp.least w (y := v) (by omega) (sub _ _ h2)
    have : v = i := by omega
    rw [hv, this]
  refine ⟨cnt_mono inc, ?_⟩
  constructor
  · intro hlt
    apply Classical.byContradiction
    intro no
    have : cntP n q ≤ cntP n p := cnt_mono fun i hi w => by
      rw [fx_true] at w ⊢
      obtain ⟨v, hv, h1, h2⟩ := hp.get hi
      have hc : Con fs i v := Classical.byContradiction fun z => no ⟨i, v, hi, by omega, h2, z⟩
      have := hq.least w (y := v) (by omega) hc
      have : v = i := by omega
      rw [hv, this]
    omega
  · rintro ⟨x, y, hx, hy, h1, h2⟩
    obtain ⟨u, hu, u1, u2⟩ := hq.get hx
    obtain ⟨v, hv, v1, v2⟩ := hq.get hy
    have fu := hq.own hx hu
    have fv := hq.own hy hv
    have nuv : ¬ (u = v) := fun e => h2 (.trans u2 (.symm (e ▸ v2)))
    have cuv : Con es u v := .trans (.symm (sub _ _ u2)) (.trans h1 (sub _ _ v2))
    by_cases w : p[u]? = some u
    · have nv : ¬ p[v]? = some v := fun z => nuv ((hp.rel w z).2 cuv)
      exact cnt_lt (u := v) inc (by omega) (fx_true.2 fv) (by simpa [fx] using nv)
    · exact cnt_lt (u := u) inc (by omega) (fx_true.2 fu) (by simpa [fx] using w)
/-- An edge more: a part less, if it joins what was not joined. -/
theorem count_add {n : Nat} {es : List (Nat × Nat)} {p q : List Nat} {x y : Nat} (hp : IsParts n (es ++ [(x, y)]) p) (hq : IsParts n es q) (hx : x < n) (hy : y < n) :
    (Con es x y → cntP n q = cntP n p) ∧ (¬ Con es x y → cntP n q = cntP n p + 1) := by
  have sub : ∀ a b, Con es a b → Con (es ++ [(x, y)]) a b := fun a b c => Con.snoc.2 (.inl c)
  have fin := count_finer hp hq sub
  constructor
  · intro c
    have : ¬ cntP n p < cntP n q := fun w => by
      obtain ⟨a, b, _, _, h1, h2⟩ := fin.2.1 w
      rcases Con.snoc.1 h1 with z | ⟨z1, z2⟩ | ⟨z1, z2⟩
      · exact h2 z
      · exact h2 (.trans z1 (.trans c (.symm z2)))
      · exact h2 (.trans z1 (.trans (.symm c) (.symm z2)))
    have := fin.1
    omega
  · intro nc
    obtain ⟨u, hu, u1, u2⟩ := hq.get hx
    obtain ⟨v, hv, v1, v2⟩ := hq.get hy
    have fu := hq.own hx hu
    have fv := hq.own hy hv
    have nuv : u ≠ v := fun e => nc (.trans u2 (.symm (e ▸ v2)))
    have cuv : Con (es ++ [(x, y)]) u v := .trans (.symm (sub _ _ u2)) (.trans (.edge (by simp)) (sub _ _ v2))
    obtain ⟨m, k, hm, hk, hmk, cmk, hor⟩ : ∃ m k, m < n ∧ q[m]? = some m ∧ k < m ∧ Con (es ++ [(x, y)]) m k ∧ ((m = u ∧ k = v) ∨ (m = v ∧ k = u)) := by
      rcases Nat.lt_or_ge u v with h | h
      · exact ⟨v, u, by omega, fv, h, .symm cuv, .inr ⟨rfl, rfl⟩⟩
      · exact ⟨u, v, by omega, fu, by omega, cuv, .inl ⟨rfl, rfl⟩⟩
    refine cnt_one (m := m) (fun i hi => ?_) hm ?_
    · rw [fx_true, fx_true]
      constructor
      · intro w
        by_cases e : i = m
        · exact .inr e
        · left
          obtain ⟨j, hj, h1, h2⟩ := hp.get hi
          by_cases e2 : j = i
          · rw [hj, e2]
          exfalso
          rcases Con.snoc.1 h2 with z | ⟨z1, z2⟩ | ⟨z1, z2⟩
          · have := hq.least w (y := j) (by omega) z
            omega
          · have e3 : i = u := (hq.rel w fu).2 (.trans z1 u2)
            have := hq.least fv (y := j) (by omega) (.trans (.symm v2) (.symm z2))
            omega
          · have e3 : i = v := (hq.rel w fv).2 (.trans z1 v2)
            have := hq.least fu (y := j) (by omega) (.trans (.symm u2) (.symm z2))
            omega
      · rintro (w | w)
        · obtain ⟨j, hj, h1, h2⟩ := hq.get hi
          have := hp.least w (y := j) (by omega) (sub _ _ h2)
          have : j = i := by omega
          rw [hj, this]
        · subst w; exact hk
    · rw [← Bool.not_eq_true, fx_true]
      intro w
      have := hp.least w (y := k) (by omega) cmk
      omega
end PT
namespace DF
open UF PT
open PD (g adj Ed adj_symm)
/-- The same joined nodes, said of pairs and said of edges. -/
theorem con_iff {l : List Ed} {es : List (Nat × Nat)} (h : ∀ x y, adj l x y ↔ (x, y) ∈ es ∨ (y, x) ∈ es) (x y : Nat) : Con es x y ↔ Cn (adj l) x y := by
  constructor
  · intro c
    induction c with
    | refl x => exact .refl x
    | edge hm => exact .edge ((h _ _).2 (.inl hm))
    | symm _ ih => exact .symm ih
    | trans _ _ i1 i2 => exact .trans i1 i2
  · intro c
    induction c with
    | refl x => exact .refl x
    | edge e =>
      rcases (h _ _).1 e with w | w
      · exact .edge w
      · exact .symm (.edge w)
    | symm _ ih => exact .symm ih
    | trans _ _ i1 i2 => exact .trans i1 i2
theorem Cn.into {E R : Nat → Nat → Prop} (hr : ∀ x, R x x) (he : ∀ u v, E u v → R u v) (hs : ∀ u v, R u v → R v u) (ht : ∀ u v w, R u v → R v w → R u w) {x y : Nat} (c : Cn E x y) : R x y := by
  induction c with
  | refl x => exact hr x
  | edge e => exact he _ _ e
  | symm _ ih => exact hs _ _ ih
  | trans _ _ i1 i2 => exact ht _ _ _ i1 i2
theorem cn_iff {E F : Nat → Nat → Prop} (h : ∀ u v, E u v ↔ F u v) (x y : Nat) : Cn E x y ↔ Cn F x y := ⟨fun c => c.mono fun u v e => (h u v).1 e, fun c => c.mono fun u v e => (h u v).2 e⟩
/-- As many parts as there are without an edge: more, just if it is a bridge. -/
theorem bridge_count {n c d : Nat} {l m : List Ed} {es fs : List (Nat × Nat)} {p q : List Nat} (he : ∀ x y, adj l x y ↔ (x, y) ∈ es ∨ (y, x) ∈ es) (hf : ∀ x y, adj m x y ↔ (x, y) ∈ fs ∨ (y, x) ∈ fs) (hp : IsParts n es p) (hq : IsParts n fs q) (hm : ∀ x y, adj m x y ↔ Mn (adj l) c d x y) (hcd : adj l c d) (hc : c < n) (hd : d < n) :
    cntP n p < cntP n q ↔ ¬ Go2 l c d := by
  have sub : ∀ x y, Con fs x y → Con es x y := fun x y w => (con_iff he x y).2 (((con_iff hf x y).1 w).mono fun u v e => ((hm u v).1 e).1)
  have cf : ∀ x y, Con fs x y ↔ Cn (Mn (adj l) c d) x y := fun x y => (con_iff hf x y).trans (cn_iff hm x y)
  rw [(count_finer hp hq sub).2]
  constructor
  · rintro ⟨x, y, _, _, h1, h2⟩ go
    apply h2
    rw [cf]
    refine Cn.into (R := Cn (Mn (adj l) c d)) (fun x => .refl x) (fun u v e => ?_) (fun _ _ => .symm) (fun _ _ _ => .trans) ((con_iff he x y).1 h1)
    by_cases w : (u = c ∧ v = d)
    · obtain ⟨rfl, rfl⟩ := w; exact go
    · by_cases z : (u = d ∧ v = c)
      · obtain ⟨rfl, rfl⟩ := z; exact .symm go
      · exact .edge ⟨e, w, z⟩
  · intro no
    exact ⟨c, d, hc, hd, (con_iff he c d).2 (.edge hcd), fun w => no ((cf c d).1 w)⟩
/-- Without a node and its edges there are more parts, itself not counted, just if it is a joint. -/
theorem joint_count {n a : Nat} {l m : List Ed} {es fs : List (Nat × Nat)} {p q : List Nat} (he : ∀ x y, adj l x y ↔ (x, y) ∈ es ∨ (y, x) ∈ es) (hf : ∀ x y, adj m x y ↔ (x, y) ∈ fs ∨ (y, x) ∈ fs) (hp : IsParts n es p) (hq : IsParts n fs q) (hm : ∀ x y, adj m x y ↔ No l a x y) (ha : a < n) (hl : ∀ u, ¬ adj l u u) (hin : ∀ u v, adj l u v → v < n) :
    cntP n p + 1 < cntP n q ↔ Jt l a := by
  have cf : ∀ x y, Con fs x y ↔ Cn (No l a) x y := fun x y => (con_iff hf x y).trans (cn_iff hm x y)
  have fin : ∀ x y, (x, y) ∈ fs → x < n ∧ y < n := fun x y w => by
    have h1 := ((hm x y).1 ((hf x y).2 (.inl w))).1
    exact ⟨hin _ _ (adj_symm h1), hin _ _ h1⟩
  by_cases hu : ∃ u, adj l a u
  · obtain ⟨u, hu⟩ := hu
    have hun := hin _ _ hu
    have hua : u ≠ a := fun e => hl a (e ▸ hu)
    obtain ⟨r, hr⟩ := exists_parts n (fs ++ [(a, u)]) (fun x y w => by
      rcases List.mem_append.1 w with w | w
      · exact fin x y w
      · simp at w; rw [w.1, w.2]; exact ⟨ha, hun⟩)
    have iso : ¬ Con fs a u := fun w => by
      have := ((cf a u).1 w).keeps (S := fun z => z = a) (fun x y e => ⟨fun z => absurd z e.2.1, fun z => absurd z e.2.2⟩)
      exact hua (this.1 rfl)
    have h1 := (count_add hr hq ha hun).2 iso
    have sub : ∀ x y, Con (fs ++ [(a, u)]) x y → Con es x y := fun x y w => by
      refine Con.mono (fun x y w => ?_) w
      rcases List.mem_append.1 w with w | w
      · exact (con_iff he x y).2 (.edge ((hm x y).1 ((hf x y).2 (.inl w))).1)
      · simp at w; rw [w.1, w.2]; exact (con_iff he a u).2 (.edge hu)
    have h2 := (count_finer hp hr sub).2
    have e : cntP n p + 1 < cntP n q ↔ cntP n p < cntP n r := by omega
    rw [e, h2]
    constructor
    · rintro ⟨x, y, hx, hy, c1, c2⟩
      apply Classical.byContradiction
      intro nj
      have all : ∀ v, adj l a v → Cn (No l a) u v := fun v hv => Classical.byContradiction fun z => nj ⟨u, v, hu, hv, z⟩
      apply c2
      refine Cn.into (R := Con (fs ++ [(a, u)])) (fun x => .refl x) (fun s t e => ?_) (fun _ _ => .symm) (fun _ _ _ => .trans) ((con_iff he x y).1 c1)
      by_cases hs : s = a
      · subst hs
        exact Con.snoc.2 (.inr (.inl ⟨.refl _, (cf _ _).2 (.symm (all t e))⟩))
      · by_cases ht : t = a
        · subst ht
          exact Con.snoc.2 (.inr (.inr ⟨(cf _ _).2 (.symm (all s (adj_symm e))), .refl _⟩))
        · exact Con.snoc.2 (.inl ((cf _ _).2 (.edge ⟨e, hs, ht⟩)))
    · rintro ⟨v, w, hv, hw, nc⟩
      by_cases c : Cn (No l a) u v
      · refine ⟨a, w, ha, hin _ _ hw, (con_iff he a w).2 (.edge hw), fun z => ?_⟩
        rcases Con.snoc.1 z with z | ⟨z1, z2⟩ | ⟨z1, z2⟩
        · have := ((cf a w).1 z).keeps (S := fun z => z = a) (fun x y e => ⟨fun z => absurd z e.2.1, fun z => absurd z e.2.2⟩)
          exact hl a (this.1 rfl ▸ hw)
        · exact nc (.trans (.symm c) (.symm ((cf w u).1 z2)))
        · exact iso z1
      · refine ⟨a, v, ha, hin _ _ hv, (con_iff he a v).2 (.edge hv), fun z => ?_⟩
        rcases Con.snoc.1 z with z | ⟨z1, z2⟩ | ⟨z1, z2⟩
        · have := ((cf a v).1 z).keeps (S := fun z => z = a) (fun x y e => ⟨fun z => absurd z e.2.1, fun z => absurd z e.2.2⟩)
          exact hl a (this.1 rfl ▸ hv)
        · exact c (.symm ((cf v u).1 z2))
        · exact iso z1
  · have hno : ∀ v, ¬ adj l a v := fun v w => hu ⟨v, w⟩
    have eqv : ∀ x y, Con fs x y ↔ Con es x y := fun x y => by
      rw [cf, con_iff he]
      refine cn_iff (fun s t => ⟨fun e => e.1, fun e => ⟨e, fun z => hno t (z ▸ e), fun z => hno s (z ▸ adj_symm e)⟩⟩) x y
    have h1 := (count_finer hp hq fun x y => (eqv x y).1).2
    have h2 : ¬ cntP n p < cntP n q := fun w => by
      obtain ⟨x, y, _, _, c1, c2⟩ := h1.1 w
      exact c2 ((eqv x y).2 c1)
    constructor
    · intro w; omega
    · rintro ⟨v, _, hv, _⟩; exact absurd hv (hno v)
end DF
end Go.Proofs.Ytlcnoihmhaaekaa
namespace Go.Proofs.Ytlcnoihmhaaekaa
set_option linter.unusedVariables false

namespace TR
open DF

/-- No ring: without an edge there is no way between its nodes. -/
def Fs (E : Nat → Nat → Prop) : Prop := ∀ u v, E u v → ¬ Cn (Mn E u v) u v
/-- One edge more. -/
def Ad (E : Nat → Nat → Prop) (a b u v : Nat) : Prop := E u v ∨ (u = a ∧ v = b) ∨ (u = b ∧ v = a)
theorem cn_cut' {E F : Nat → Nat → Prop} {a b : Nat} (hE : ∀ p q, E p q → F p q ∨ (p = a ∧ q = b) ∨ (p = b ∧ q = a)) {p q : Nat} (c : Cn E p q) : Cn F p q ∨ (Cn F p a ∧ Cn F q b) ∨ (Cn F p b ∧ Cn F q a) := by
  induction c with
  | refl x => exact .inl (.refl _)
  | edge h =>
    rcases hE _ _ h with h | ⟨rfl, rfl⟩ | ⟨rfl, rfl⟩
    · exact .inl (.edge h)
    · exact .inr (.inl ⟨.refl _, .refl _⟩)
    · exact .inr (.inr ⟨.refl _, .refl _⟩)
  | symm _ ih =>
    rcases ih with h | ⟨h, k⟩ | ⟨h, k⟩
    · exact .inl h.symm
    · exact .inr (.inr ⟨k, h⟩)
    · exact .inr (.inl ⟨k, h⟩)
  | trans _ _ ih1 ih2 =>
    rcases ih1 with h | ⟨h, k⟩ | ⟨h, k⟩ <;> rcases ih2 with h' | ⟨h', k'⟩ | ⟨h', k'⟩
    · exact .inl (h.trans h')
    · exact .inr (.inl ⟨h.trans h', k'⟩)
    · exact .inr (.inr ⟨h.trans h', k'⟩)
    · exact .inr (.inl ⟨h, h'.symm.trans k⟩)
    · exact .inr (.inl ⟨h, k'⟩)
    · exact .inl (h.trans k'.symm)
    · exact .inr (.inr ⟨h, h'.symm.trans k⟩)
    · exact .inl (h.trans k'.symm)
    · exact .inr (.inr ⟨h, k'⟩)
theorem Fs.ad {E : Nat → Nat → Prop} (h : Fs E) {a b : Nat} (hn : ¬ Cn E a b) : Fs (Ad E a b) := by
  intro u v huv c
  have hab : a ≠ b := fun e => hn (e ▸ .refl _)
  rcases huv with huv | ⟨rfl, rfl⟩ | ⟨rfl, rfl⟩
  · have hE : ∀ p q, Mn (Ad E a b) u v p q → Mn E u v p q ∨ (p = a ∧ q = b) ∨ (p = b ∧ q = a) := by
      rintro p q ⟨h1 | h1, h2⟩
      · exact .inl ⟨h1, h2⟩
      · exact .inr h1
    have up : ∀ {x y}, Cn (Mn E u v) x y → Cn E x y := fun c => c.mono fun _ _ e => e.1
    rcases cn_cut' hE c with c | ⟨c, d⟩ | ⟨c, d⟩
    · exact h u v huv c
    · exact hn ((up c).symm.trans ((Cn.edge huv).trans (up d)))
    · exact hn ((up d).symm.trans ((Cn.edge huv).symm.trans (up c)))
  · refine hn (c.mono ?_)
    rintro p q ⟨h1 | h1 | h1, h2, h3⟩
    · exact h1
    · exact absurd h1 h2
    · exact absurd h1 h3
  · refine hn (Cn.symm (c.mono ?_))
    rintro p q ⟨h1 | h1 | h1, h2, h3⟩
    · exact h1
    · exact absurd h1 h3
    · exact absurd h1 h2
theorem Fs.sub {E F : Nat → Nat → Prop} (h : Fs E) (hs : ∀ u v, F u v → E u v) : Fs F := fun u v huv c =>
  h u v (hs _ _ huv) (c.mono fun p q e => ⟨hs _ _ e.1, e.2⟩)

/-- A step's number. -/
def st (a b : Nat) : Int := ((a : Int) + 1) * 60 + b
theorem st_inj {a b c d : Nat} (hb : b < 60) (hd : d < 60) (h : st a b = st c d) : a = c ∧ b = d := by unfold st at h; omega
theorem st_ge (a b : Nat) : 60 ≤ st a b := by unfold st; omega

/-- A walk by marks and steps from a node to a node. -/
inductive Go (E : Nat → Nat → Prop) : Nat → List Int → Nat → Prop
  | nil (v) : Go E v [] v
  | mark {v u l} : v < 60 → Go E v l u → Go E v ((v : Int) :: l) u
  | step {v c u l} : E v c → c < 60 → Go E c l u → Go E v (st v c :: l) u
section
variable {E F : Nat → Nat → Prop}
theorem Go.mono {v u : Nat} {l : List Int} (h : Go E v l u) (hs : ∀ x y, st x y ∈ l → E x y → F x y) : Go F v l u := by
  induction h with
  | nil v => exact .nil v
  | mark h1 _ ih => exact .mark h1 (ih fun x y hm => hs x y (List.mem_cons_of_mem _ hm))
  | step h1 h2 _ ih => exact .step (hs _ _ (List.mem_cons_self ..) h1) h2 (ih fun x y hm => hs x y (List.mem_cons_of_mem _ hm))
theorem Go.app {v u w : Nat} {l m : List Int} (h : Go E v l u) (k : Go E u m w) : Go E v (l ++ m) w := by
  induction h with
  | nil v => exact k
  | mark h1 _ ih => exact .mark h1 (ih k)
  | step h1 h2 _ ih => exact .step h1 h2 (ih k)
theorem Go.split {v w : Nat} {m : List Int} : ∀ {l : List Int}, Go E v (l ++ m) w → ∃ u, Go E v l u ∧ Go E u m w := by
  intro l
  induction l generalizing v with
  | nil => intro h; exact ⟨v, .nil v, h⟩
  | cons x l ih =>
    intro h
    cases h with
    | mark h1 h2 => obtain ⟨u, p, q⟩ := ih h2; exact ⟨u, .mark h1 p, q⟩
    | step h1 h2 h3 => obtain ⟨u, p, q⟩ := ih h3; exact ⟨u, .step h1 h2 p, q⟩
theorem Go.end_ {v u : Nat} {l : List Int} (h : Go E v l u) : Cn E v u := by
  induction h with
  | nil v => exact .refl v
  | mark _ _ ih => exact ih
  | step h1 _ _ ih => exact (Cn.edge h1).trans ih
theorem Go.marks {v u x : Nat} {l : List Int} (h : Go E v l u) (hx : (x : Int) ∈ l) (h60 : x < 60) : Cn E v x := by
  induction h with
  | nil v => simp at hx
  | mark _ _ ih =>
    rcases List.mem_cons.1 hx with e | hx
    · have : x = _ := Int.ofNat.inj e; subst this; exact .refl _
    · exact ih hx
  | @step v c u l h1 _ _ ih =>
    rcases List.mem_cons.1 hx with e | hx
    · have := st_ge v c; omega
    · exact (Cn.edge h1).trans (ih hx)
theorem Go.steps {v u x y : Nat} {l : List Int} (h : Go E v l u) (hx : st x y ∈ l) (h60 : y < 60) : E x y ∧ Cn E v x := by
  induction h with
  | nil v => simp at hx
  | mark h1 _ ih =>
    rcases List.mem_cons.1 hx with e | hx
    · have := st_ge x y; omega
    · exact ih hx
  | step h1 h2 _ ih =>
    rcases List.mem_cons.1 hx with e | hx
    · obtain ⟨rfl, rfl⟩ := st_inj h60 h2 e; exact ⟨h1, .refl _⟩
    · obtain ⟨p, q⟩ := ih hx; exact ⟨p, (Cn.edge h1).trans q⟩
theorem Go.items {v u : Nat} {l : List Int} (h : Go E v l u) {z : Int} (hz : z ∈ l) : (∃ x : Nat, x < 60 ∧ z = x) ∨ ∃ x y : Nat, y < 60 ∧ E x y ∧ z = st x y := by
  induction h with
  | nil v => simp at hz
  | mark h1 _ ih =>
    rcases List.mem_cons.1 hz with e | hz
    · exact .inl ⟨_, h1, e⟩
    · exact ih hz
  | step h1 h2 _ ih =>
    rcases List.mem_cons.1 hz with e | hz
    · exact .inr ⟨_, _, h2, h1, e⟩
    · exact ih hz
theorem Go.at_mark {v u x : Nat} {l : List Int} (h60 : x < 60) (h : Go E v ((x : Int) :: l) u) : v = x := by
  generalize hz : (x : Int) :: l = z at h
  cases h with
  | nil => cases hz
  | mark _ _ => have := (List.cons.inj hz).1; omega
  | @step _ c _ _ _ _ _ => have := (List.cons.inj hz).1; have := st_ge v c; omega
theorem Go.at_step {v u x y : Nat} {l : List Int} (h60 : y < 60) (h : Go E v (st x y :: l) u) : v = x ∧ Go E y l u := by
  generalize hz : st x y :: l = z at h
  cases h with
  | nil => cases hz
  | mark _ _ => have := (List.cons.inj hz).1; have := st_ge x y; omega
  | step h1 h2 h3 => obtain ⟨e1, e2⟩ := List.cons.inj hz; obtain ⟨rfl, rfl⟩ := st_inj h60 h2 e1; subst e2; exact ⟨rfl, h3⟩

/-- A way around the tree in which a node is. -/
structure Way (E : Nat → Nat → Prop) (r : Nat) (l : List Int) : Prop where
  go : ∃ v, Go E v l v
  mrk : ∀ x : Nat, x < 60 → ((x : Int) ∈ l ↔ Cn E r x)
  st : ∀ x y : Nat, E x y → Cn E r x → st x y ∈ l
  nd : l.Nodup

theorem Way.re {r s : Nat} {l : List Int} (h : Way E r l) (c : Cn E r s) : Way E s l :=
  ⟨h.go, fun x hx => (h.mrk x hx).trans ⟨fun d => c.symm.trans d, fun d => c.trans d⟩, fun x y e d => h.st x y e (c.trans d), h.nd⟩
/-- The walk's own nodes are the tree's. -/
theorem Way.at {r v : Nat} {l : List Int} (h : Way E r l) (hr : r < 60) (k : Go E v l v) : Cn E r v :=
  (k.marks ((h.mrk r hr).2 (.refl _)) hr).symm
theorem Way.one {r : Nat} (hr : r < 60) (hE : ∀ x, ¬ E r x) (hs : ∀ x y, E x y → E y x) : Way E r [(r : Int)] := by
  have alone : ∀ x, Cn E r x → x = r := fun x c => by
    have := c.keeps (S := fun z => z = r) fun u v e => ⟨fun h => absurd e (h ▸ hE v), fun h => absurd (hs _ _ e) (h ▸ hE u)⟩
    exact this.1 rfl
  refine ⟨⟨r, .mark hr (.nil r)⟩, fun x hx => ⟨fun h => ?_, fun c => ?_⟩, fun x y e c => ?_, by simp⟩
  · have h' : (x : Int) = (r : Int) := by simpa using h
    have : x = r := by omega
    subst this; exact .refl _
  · rw [alone x c]; simp
  · rw [alone x c] at e; exact absurd e (hE y)
theorem Way.rot {r x : Nat} {l p q : List Int} (h : Way E r l) (hl : l = p ++ (x : Int) :: q) (hx : x < 60) : Go E x ((x : Int) :: q ++ p) x ∧ Way E r ((x : Int) :: q ++ p) := by
  obtain ⟨v, k⟩ := h.go
  subst hl
  obtain ⟨u, k1, k2⟩ := k.split
  obtain rfl := k2.at_mark hx
  have hp : ((u : Int) :: q ++ p).Perm (p ++ (u : Int) :: q) := List.perm_append_comm
  refine ⟨k2.app k1, ⟨⟨_, k2.app k1⟩, fun y hy => ?_, fun a b e c => ?_, ?_⟩⟩
  · rw [hp.mem_iff]; exact h.mrk y hy
  · rw [hp.mem_iff]; exact h.st a b e c
  · exact hp.nodup_iff.2 h.nd
/-- Other trees are as they were. -/
theorem Way.other {r : Nat} {l : List Int} (h : Way E r l) (hr : r < 60) (hEF : ∀ x y, Cn E r x → (E x y ↔ F x y)) (hc : ∀ x, Cn E r x ↔ Cn F r x) : Way F r l := by
  obtain ⟨v, k⟩ := h.go
  have cv := h.at hr k
  refine ⟨⟨v, ?_⟩, fun x hx => (h.mrk x hx).trans (hc x), fun x y e c => h.st x y ((hEF x y ((hc x).2 c)).2 e) ((hc x).2 c), h.nd⟩
  · have : ∀ {a b : Nat} {l : List Int}, Go E a l b → Cn E r a → Go F a l b := by
      intro a b l k
      induction k with
      | nil v => intro _; exact .nil v
      | mark h1 _ ih => intro c; exact .mark h1 (ih c)
      | step h1 h2 _ ih => intro c; exact .step ((hEF _ _ c).1 h1) h2 (ih (c.trans (.edge h1)))
    exact this k cv

/-- Two trees linked. -/
theorem Way.link {a b : Nat} {x y : List Int} (hs : ∀ u v, E u v → E v u) (hin : ∀ u v, E u v → v < 60) (ha : a < 60) (hb : b < 60) (hn : ¬ Cn E a b) (hx : Way E a x) (hy : Way E b y) (kx : Go E a x a) (ky : Go E b y b) :
    Way (Ad E a b) a (x ++ (TR.st a b :: y) ++ [TR.st b a]) := by
  have up : ∀ {p q}, Cn E p q → Cn (Ad E a b) p q := fun c => c.mono fun _ _ e => .inl e
  have hab : Cn (Ad E a b) a b := .edge (.inr (.inl ⟨rfl, rfl⟩))
  have con : ∀ z, Cn (Ad E a b) a z ↔ Cn E a z ∨ Cn E b z := fun z => by
    constructor
    · intro c
      rcases cn_cut' (F := E) (fun p q h => h) c with c | ⟨c, d⟩ | ⟨c, d⟩
      · exact .inl c
      · exact .inr d.symm
      · exact absurd c hn
    · rintro (c | c)
      · exact up c
      · exact hab.trans (up c)
  have hsx : ∀ u v : Nat, v < 60 → TR.st u v ∈ x → E u v ∧ Cn E a u := fun u v hv h => kx.steps h hv
  have hsy : ∀ u v : Nat, v < 60 → TR.st u v ∈ y → E u v ∧ Cn E b u := fun u v hv h => ky.steps h hv
  have nab : ¬ E a b := fun e => hn (.edge e)
  have nba : ¬ E b a := fun e => hn (Cn.edge e).symm
  refine ⟨⟨a, ?_⟩, fun z hz => ?_, fun u v e c => ?_, ?_⟩
  · have k1 : Go (Ad E a b) a x a := kx.mono fun _ _ _ e => .inl e
    have k2 : Go (Ad E a b) b y b := ky.mono fun _ _ _ e => .inl e
    exact (k1.app (.step (.inr (.inl ⟨rfl, rfl⟩)) hb k2)).app (.step (.inr (.inr ⟨rfl, rfl⟩)) ha (.nil a))
  · rw [con z, ← hx.mrk z hz, ← hy.mrk z hz]
    have h1 := st_ge a b
    have h2 := st_ge b a
    simp only [List.mem_append, List.mem_cons, List.not_mem_nil, or_false]
    constructor
    · rintro ((h | h | h) | h)
      · exact .inl h
      · omega
      · exact .inr h
      · omega
    · rintro (h | h)
      · exact .inl (.inl h)
      · exact .inl (.inr (.inr h))
  · simp only [List.mem_append, List.mem_cons, List.not_mem_nil, or_false]
    rcases e with e | ⟨rfl, rfl⟩ | ⟨rfl, rfl⟩
    · rcases (con u).1 c with c | c
      · exact .inl (.inl (hx.st u v e c))
      · exact .inl (.inr (.inr (hy.st u v e c)))
    · exact .inl (.inr (.inl rfl))
    · exact .inr rfl
  · have dis : ∀ z, z ∈ x → z ∈ y → False := by
      intro z h1 h2
      rcases kx.items h1 with ⟨u, hu, rfl⟩ | ⟨u, v, hv, _, rfl⟩
      · exact hn (((hx.mrk u hu).1 h1).trans ((hy.mrk u hu).1 h2).symm)
      · exact hn ((hsx u v hv h1).2.trans (hsy u v hv h2).2.symm)
    have n1 : TR.st a b ∉ x := fun h => nab (hsx a b hb h).1
    have n2 : TR.st a b ∉ y := fun h => nab (hsy a b hb h).1
    have n3 : TR.st b a ∉ x := fun h => nba (hsx b a ha h).1
    have n4 : TR.st b a ∉ y := fun h => nba (hsy b a ha h).1
    have n5 : TR.st b a ≠ TR.st a b := fun h => by
      have := (st_inj ha hb h).1
      exact hn (this ▸ .refl _)
    rw [List.nodup_append, List.nodup_append, List.nodup_cons]
    refine ⟨⟨hx.nd, ⟨n2, hy.nd⟩, ?_⟩, by simp, ?_⟩
    · intro p hp q hq e
      subst e
      rcases List.mem_cons.1 hq with rfl | hq
      · exact n1 hp
      · exact dis p hp hq
    · intro p hp q hq e
      subst e
      have : p = TR.st b a := by simpa using hq
      subst this
      rcases List.mem_append.1 hp with h | h
      · exact n3 h
      · rcases List.mem_cons.1 h with h | h
        · exact n5 h
        · exact n4 h

/-- An edge cut: a way around each of both. -/
theorem Way.cut {u v : Nat} {low mid high : List Int} (hs : ∀ x y, E x y → E y x) (hin : ∀ x y, E x y → y < 60) (hu : u < 60) (hv : v < 60) (huv : E u v) (hn : ¬ Cn (Mn E u v) u v) (h : Way E u (low ++ TR.st u v :: mid ++ TR.st v u :: high)) :
    Way (Mn E u v) v mid ∧ Way (Mn E u v) u (low ++ high) := by
  have hne : u ≠ v := fun e => hn (e ▸ .refl _)
  obtain ⟨w, k⟩ := h.go
  obtain ⟨p, k12, k3⟩ := k.split
  obtain ⟨e3, k3'⟩ := k3.at_step hu
  obtain ⟨q, k1, k2⟩ := k12.split
  obtain ⟨e2, k2'⟩ := k2.at_step hv
  clear k3 k2
  subst e3
  subst e2
  have nd := h.nd
  rw [List.nodup_append, List.nodup_append, List.nodup_cons, List.nodup_cons] at nd
  obtain ⟨⟨d1, ⟨m1, d2⟩, m2⟩, ⟨m3, d3⟩, m4⟩ := nd
  have a1 : TR.st q p ∉ low := fun hh => m2 _ hh _ (List.mem_cons_self ..) rfl
  have a2 : TR.st q p ∉ mid := m1
  have a3 : TR.st q p ∉ high := fun hh => m4 _ (List.mem_append.2 (.inr (List.mem_cons_self ..))) _ (List.mem_cons_of_mem _ hh) rfl
  have b1 : TR.st p q ∉ low := fun hh => m4 _ (List.mem_append.2 (.inl hh)) _ (List.mem_cons_self ..) rfl
  have b2 : TR.st p q ∉ mid := fun hh => m4 _ (List.mem_append.2 (.inr (List.mem_cons_of_mem _ hh))) _ (List.mem_cons_self ..) rfl
  have b3 : TR.st p q ∉ high := m3
  have keep : ∀ {l : List Int}, TR.st q p ∉ l → TR.st p q ∉ l → ∀ x y, TR.st x y ∈ l → E x y → Mn E q p x y := by
    intro l h1 h2 x y hm e
    refine ⟨e, ?_, ?_⟩
    · rintro ⟨rfl, rfl⟩; exact h1 hm
    · rintro ⟨rfl, rfl⟩; exact h2 hm
  have g1 : Go (Mn E q p) w low q := k1.mono (keep a1 b1)
  have g2 : Go (Mn E q p) p mid p := k2'.mono (keep a2 b2)
  have g3 : Go (Mn E q p) q high w := k3'.mono (keep a3 b3)
  have sub : ∀ {x y}, Cn (Mn E q p) x y → Cn E x y := fun c => c.mono fun _ _ e => e.1
  have mem : ∀ z, z ∈ low ++ TR.st q p :: mid ++ TR.st p q :: high ↔ z ∈ low ∨ z = TR.st q p ∨ z ∈ mid ∨ z = TR.st p q ∨ z ∈ high := fun z => by
    simp only [List.mem_append, List.mem_cons]
    constructor
    · rintro ((h | h | h) | h | h) <;> simp [h]
    · rintro (h | h | h | h | h) <;> simp [h]
  have outm : ∀ x : Nat, x < 60 → (x : Int) ∈ low ++ high → Cn (Mn E q p) q x := fun x hx hm => by
    rcases List.mem_append.1 hm with hm | hm
    · exact g1.end_.symm.trans (g1.marks hm hx)
    · exact g3.marks hm hx
  have outs : ∀ x y : Nat, y < 60 → TR.st x y ∈ low ++ high → Cn (Mn E q p) q x := fun x y hx hm => by
    rcases List.mem_append.1 hm with hm | hm
    · exact g1.end_.symm.trans (g1.steps hm hx).2
    · exact (g3.steps hm hx).2
  have hqp : Cn E q p := .edge huv
  refine ⟨⟨⟨p, g2⟩, fun x hx => ⟨fun hm => g2.marks hm hx, fun c => ?_⟩, fun x y e c => ?_, d2⟩, ⟨⟨w, g1.app g3⟩, fun x hx => ⟨outm x hx, fun c => ?_⟩, fun x y e c => ?_, ?_⟩⟩
  · have := (h.mrk x hx).2 (hqp.trans (sub c))
    have s1 := st_ge q p
    have s2 := st_ge p q
    rcases (mem _).1 this with hm | hm | hm | hm | hm
    · exact absurd ((outm x hx (List.mem_append.2 (.inl hm))).trans c.symm) hn
    · omega
    · exact hm
    · omega
    · exact absurd ((outm x hx (List.mem_append.2 (.inr hm))).trans c.symm) hn
  · have hy := hin _ _ e.1
    have := h.st x y e.1 (hqp.trans (sub c))
    rcases (mem _).1 this with hm | hm | hm | hm | hm
    · exact absurd ((outs x y hy (List.mem_append.2 (.inl hm))).trans c.symm) hn
    · exact absurd (st_inj hy hv hm) e.2.1
    · exact hm
    · exact absurd (st_inj hy hu hm) e.2.2
    · exact absurd ((outs x y hy (List.mem_append.2 (.inr hm))).trans c.symm) hn
  · have := (h.mrk x hx).2 (sub c)
    have s1 := st_ge q p
    have s2 := st_ge p q
    rcases (mem _).1 this with hm | hm | hm | hm | hm
    · exact List.mem_append.2 (.inl hm)
    · omega
    · exact absurd (c.trans (g2.marks hm hx).symm) hn
    · omega
    · exact List.mem_append.2 (.inr hm)
  · have hy := hin _ _ e.1
    have := h.st x y e.1 (sub c)
    rcases (mem _).1 this with hm | hm | hm | hm | hm
    · exact List.mem_append.2 (.inl hm)
    · exact absurd (st_inj hy hv hm) e.2.1
    · exact absurd (c.trans (g2.steps hm hy).2.symm) hn
    · exact absurd (st_inj hy hu hm) e.2.2
    · exact List.mem_append.2 (.inr hm)
  · rw [List.nodup_append]
    refine ⟨d1, d3, fun x hx y hy e => ?_⟩
    exact m4 x (List.mem_append.2 (.inl hx)) y (List.mem_cons_of_mem _ hy) e
end
end TR
end Go.Proofs.Ytlcnoihmhaaekaa
