/-
  Parts of a graph counted; bridges and joints by counting, in plain Lean. No program in sight.
-/
import Derived.Test.YtckcbfnffmohgaaPt
import Derived.Test.YtckcbfnffmohgaaDfs
namespace Go.Proofs.Ytckcbfnffmohgaa
open Go
set_option linter.unusedVariables false
namespace PT
open UF
open PD (cnt_le cnt_mono cnt_lt)

def fx (p : List Nat) (i : Nat) : Bool := decide (p[i]? = some i)
/-- How many parts there are. -/
def cntP (n : Nat) (p : List Nat) : Nat := PD.cnt (fx p) n
theorem IsParts.get {n : Nat} {es : List (Nat × Nat)} {p : List Nat} (h : IsParts n es p) {x : Nat} (hx : x < n) : ∃ v, p[x]? = some v ∧ v ≤ x ∧ Con es x v := by
  obtain ⟨v, hv⟩ : ∃ v, p[x]? = some v := ⟨_, List.getElem?_eq_getElem (by rw [h.len]; exact hx)⟩
  exact ⟨v, hv, h.con x v hv⟩
/-- The least one is its own. -/
theorem IsParts.own {n : Nat} {es : List (Nat × Nat)} {p : List Nat} (h : IsParts n es p) {x v : Nat} (hx : x < n) (hv : p[x]? = some v) : p[v]? = some v := by
  have h1 := h.con x v hv
  obtain ⟨u, hu, h2, h3⟩ := h.get (x := v) (by omega)
  have := (h.rel hv hu).2 h1.2
  rw [hu, this]
theorem exists_parts (n : Nat) (es : List (Nat × Nat)) (hin : ∀ x y, (x, y) ∈ es → x < n ∧ y < n) : ∃ p, IsParts n es p := by
  classical
  have hex : ∀ x, ∃ v, Con es x v ∧ ∀ y, Con es x y → v ≤ y := fun x => by
    have hx : ∃ v, Con es x v := ⟨x, .refl x⟩
    have key : ∀ k, (∃ v, v ≤ k ∧ Con es x v) → ∃ v, Con es x v ∧ ∀ y, Con es x y → v ≤ y := by
      intro k
      induction k with
      | zero =>
        rintro ⟨v, h1, h2⟩
        exact ⟨v, h2, fun y _ => by omega⟩
      | succ k ih =>
        rintro ⟨v, h1, h2⟩
        by_cases h3 : ∃ v, v ≤ k ∧ Con es x v
        · exact ih h3
        · refine ⟨v, h2, fun y hy => ?_⟩
          apply Classical.byContradiction
          intro w
          exact h3 ⟨y, by omega, hy⟩
    exact key x ⟨x, Nat.le_refl _, .refl x⟩
  refine ⟨(List.range n).map fun x => Classical.choose (hex x), ?_⟩
  have hget : ∀ x v, ((List.range n).map fun x => Classical.choose (hex x))[x]? = some v → x < n ∧ v = Classical.choose (hex x) := fun x v h => by
    rw [List.getElem?_map] at h
    by_cases hx : x < n
    · rw [List.getElem?_range hx] at h
      simp at h
      exact ⟨hx, h.symm⟩
    · rw [List.getElem?_eq_none (by simp; omega)] at h
      simp at h
  refine { len := by simp, con := fun x v h => ?_, ed := fun x y h => ?_ }
  · obtain ⟨_, rfl⟩ := hget x v h
    have := Classical.choose_spec (hex x)
    exact ⟨this.2 x (.refl x), this.1⟩
  · obtain ⟨h1, h2⟩ := hin x y h
    rw [List.getElem?_map, List.getElem?_map, List.getElem?_range h1, List.getElem?_range h2]
    have a := Classical.choose_spec (hex x)
    have b := Classical.choose_spec (hex y)
    have e1 := a.2 _ (.trans (.edge h) b.1)
    have e2 := b.2 _ (.trans (.symm (.edge h)) a.1)
    simp only [Option.map_some]
    congr 1
    omega
theorem cnt_one {p q : Nat → Bool} {m : Nat} : ∀ {n : Nat}, (∀ i, i < n → (q i = true ↔ p i = true ∨ i = m)) → m < n → p m = false → PD.cnt q n = PD.cnt p n + 1
  | 0, _, h, _ => by omega
  | n + 1, h, hm, hp => by
    simp only [PD.cnt]
    by_cases e : m = n
    · subst e
      have h1 : PD.cnt q m = PD.cnt p m := by
        refine Nat.le_antisymm (cnt_mono fun i hi => ?_) (cnt_mono fun i hi => ?_)
        · intro w; exact ((h i (by omega)).1 w).resolve_right (by omega)
        · intro w; exact (h i (by omega)).2 (.inl w)
      have h2 : q m = true := (h m (by omega)).2 (.inr rfl)
      rw [h1, h2, hp]; simp
    · have ih := cnt_one (n := n) (fun i hi => h i (by omega)) (by omega) hp
      have h2 : q n = true ↔ p n = true := (h n (by omega)).trans ⟨fun w => w.resolve_right (fun z => e z.symm), .inl⟩
      rw [ih]
      by_cases w : p n = true
      · rw [if_pos w, if_pos (h2.2 w)]
      · rw [if_neg w, if_neg (fun z => w (h2.1 z))]
theorem cnt_congr {p q : Nat → Bool} {n : Nat} (h : ∀ i, i < n → (q i = true ↔ p i = true)) : PD.cnt q n = PD.cnt p n :=
  Nat.le_antisymm (cnt_mono fun i hi w => (h i hi).1 w) (cnt_mono fun i hi w => (h i hi).2 w)
theorem fx_true {p : List Nat} {i : Nat} : fx p i = true ↔ p[i]? = some i := by simp [fx]
/-- A finer relation has more parts, and as many just if it is the same. -/
theorem count_finer {n : Nat} {es fs : List (Nat × Nat)} {p q : List Nat} (hp : IsParts n es p) (hq : IsParts n fs q) (sub : ∀ x y, Con fs x y → Con es x y) :
    cntP n p ≤ cntP n q ∧ (cntP n p < cntP n q ↔ ∃ x y, x < n ∧ y < n ∧ Con es x y ∧ ¬ Con fs x y) := by
  have inc : ∀ i, i < n → fx p i = true → fx q i = true := fun i hi w => by
    rw [fx_true] at w ⊢
    obtain ⟨v, hv, h1, h2⟩ := hq.get hi
    have := hp.least w (y := v) (by omega) (sub _ _ h2)
    have : v = i := by omega
    rw [hv, this]
  refine ⟨cnt_mono inc, ?_⟩
  constructor
  · intro hlt
    apply Classical.byContradiction
    intro no
    have : cntP n q ≤ cntP n p := cnt_mono fun i hi w => by
      rw [fx_true] at w ⊢
      obtain ⟨v, hv, h1, h2⟩ := hp.get hi
      have hc : Con fs i v := Classical.byContradiction fun z => no ⟨i, v, hi, by omega, h2, z⟩
      have := hq.least w (y := v) (by omega) hc
      have : v = i := by omega
      rw [hv, this]
    omega
  · rintro ⟨x, y, hx, hy, h1, h2⟩
    obtain ⟨u, hu, u1, u2⟩ := hq.get hx
    obtain ⟨v, hv, v1, v2⟩ := hq.get hy
    have fu := hq.own hx hu
    have fv := hq.own hy hv
    have nuv : ¬ (u = v) := fun e => h2 (.trans u2 (.symm (e ▸ v2)))
    have cuv : Con es u v := .trans (.symm (sub _ _ u2)) (.trans h1 (sub _ _ v2))
    by_cases w : p[u]? = some u
    · have nv : ¬ p[v]? = some v := fun z => nuv ((hp.rel w z).2 cuv)
      exact cnt_lt (u := v) inc (by omega) (fx_true.2 fv) (by simpa [fx] using nv)
    · exact cnt_lt (u := u) inc (by omega) (fx_true.2 fu) (by simpa [fx] using w)
/-- An edge more: a part less, if it joins what was not joined. -/
theorem count_add {n : Nat} {es : List (Nat × Nat)} {p q : List Nat} {x y : Nat} (hp : IsParts n (es ++ [(x, y)]) p) (hq : IsParts n es q) (hx : x < n) (hy : y < n) :
    (Con es x y → cntP n q = cntP n p) ∧ (¬ Con es x y → cntP n q = cntP n p + 1) := by
  have sub : ∀ a b, Con es a b → Con (es ++ [(x, y)]) a b := fun a b c => Con.snoc.2 (.inl c)
  have fin := count_finer hp hq sub
  constructor
  · intro c
    have : ¬ cntP n p < cntP n q := fun w => by
      obtain ⟨a, b, _, _, h1, h2⟩ := fin.2.1 w
      rcases Con.snoc.1 h1 with z | ⟨z1, z2⟩ | ⟨z1, z2⟩
      · exact h2 z
      · exact h2 (.trans z1 (.trans c (.symm z2)))
      · exact h2 (.trans z1 (.trans (.symm c) (.symm z2)))
    have := fin.1
    omega
  · intro nc
    obtain ⟨u, hu, u1, u2⟩ := hq.get hx
    obtain ⟨v, hv, v1, v2⟩ := hq.get hy
    have fu := hq.own hx hu
    have fv := hq.own hy hv
    have nuv : u ≠ v := fun e => nc (.trans u2 (.symm (e ▸ v2)))
    have cuv : Con (es ++ [(x, y)]) u v := .trans (.symm (sub _ _ u2)) (.trans (.edge (by simp)) (sub _ _ v2))
    obtain ⟨m, k, hm, hk, hmk, cmk, hor⟩ : ∃ m k, m < n ∧ q[m]? = some m ∧ k < m ∧ Con (es ++ [(x, y)]) m k ∧ ((m = u ∧ k = v) ∨ (m = v ∧ k = u)) := by
      rcases Nat.lt_or_ge u v with h | h
      · exact ⟨v, u, by omega, fv, h, .symm cuv, .inr ⟨rfl, rfl⟩⟩
      · exact ⟨u, v, by omega, fu, by omega, cuv, .inl ⟨rfl, rfl⟩⟩
    refine cnt_one (m := m) (fun i hi => ?_) hm ?_
    · rw [fx_true, fx_true]
      constructor
      · intro w
        by_cases e : i = m
        · exact .inr e
        · left
          obtain ⟨j, hj, h1, h2⟩ := hp.get hi
          by_cases e2 : j = i
          · rw [hj, e2]
          exfalso
          rcases Con.snoc.1 h2 with z | ⟨z1, z2⟩ | ⟨z1, z2⟩
          · have := hq.least w (y := j) (by omega) z
            omega
          · have e3 : i = u := (hq.rel w fu).2 (.trans z1 u2)
            have := hq.least fv (y := j) (by omega) (.trans (.symm v2) (.symm z2))
            omega
          · have e3 : i = v := (hq.rel w fv).2 (.trans z1 v2)
            have := hq.least fu (y := j) (by omega) (.trans (.symm u2) (.symm z2))
            omega
      · rintro (w | w)
        · obtain ⟨j, hj, h1, h2⟩ := hq.get hi
          have := hp.least w (y := j) (by omega) (sub _ _ h2)
          have : j = i := by omega
          rw [hj, this]
        · subst w; exact hk
    · rw [← Bool.not_eq_true, fx_true]
      intro w
      have := hp.least w (y := k) (by omega) cmk
      omega
end PT
namespace DF
open UF PT
open PD (g adj Ed adj_symm)
/-- The same joined nodes, said of pairs and said of edges. -/
theorem con_iff {l : List Ed} {es : List (Nat × Nat)} (h : ∀ x y, adj l x y ↔ (x, y) ∈ es ∨ (y, x) ∈ es) (x y : Nat) : Con es x y ↔ Cn (adj l) x y := by
  constructor
  · intro c
    induction c with
    | refl x => exact .refl x
    | edge hm => exact .edge ((h _ _).2 (.inl hm))
    | symm _ ih => exact .symm ih
    | trans _ _ i1 i2 => exact .trans i1 i2
  · intro c
    induction c with
    | refl x => exact .refl x
    | edge e =>
      rcases (h _ _).1 e with w | w
      · exact .edge w
      · exact .symm (.edge w)
    | symm _ ih => exact .symm ih
    | trans _ _ i1 i2 => exact .trans i1 i2
theorem Cn.into {E R : Nat → Nat → Prop} (hr : ∀ x, R x x) (he : ∀ u v, E u v → R u v) (hs : ∀ u v, R u v → R v u) (ht : ∀ u v w, R u v → R v w → R u w) {x y : Nat} (c : Cn E x y) : R x y := by
  induction c with
  | refl x => exact hr x
  | edge e => exact he _ _ e
  | symm _ ih => exact hs _ _ ih
  | trans _ _ i1 i2 => exact ht _ _ _ i1 i2
theorem cn_iff {E F : Nat → Nat → Prop} (h : ∀ u v, E u v ↔ F u v) (x y : Nat) : Cn E x y ↔ Cn F x y := ⟨fun c => c.mono fun u v e => (h u v).1 e, fun c => c.mono fun u v e => (h u v).2 e⟩
/-- As many parts as there are without an edge: more, just if it is a bridge. -/
theorem bridge_count {n c d : Nat} {l m : List Ed} {es fs : List (Nat × Nat)} {p q : List Nat} (he : ∀ x y, adj l x y ↔ (x, y) ∈ es ∨ (y, x) ∈ es) (hf : ∀ x y, adj m x y ↔ (x, y) ∈ fs ∨ (y, x) ∈ fs) (hp : IsParts n es p) (hq : IsParts n fs q) (hm : ∀ x y, adj m x y ↔ Mn (adj l) c d x y) (hcd : adj l c d) (hc : c < n) (hd : d < n) :
    cntP n p < cntP n q ↔ ¬ Go2 l c d := by
  have sub : ∀ x y, Con fs x y → Con es x y := fun x y w => (con_iff he x y).2 (((con_iff hf x y).1 w).mono fun u v e => ((hm u v).1 e).1)
  have cf : ∀ x y, Con fs x y ↔ Cn (Mn (adj l) c d) x y := fun x y => (con_iff hf x y).trans (cn_iff hm x y)
  rw [(count_finer hp hq sub).2]
  constructor
  · rintro ⟨x, y, _, _, h1, h2⟩ go
    apply h2
    rw [cf]
    refine Cn.into (R := Cn (Mn (adj l) c d)) (fun x => .refl x) (fun u v e => ?_) (fun _ _ => .symm) (fun _ _ _ => .trans) ((con_iff he x y).1 h1)
    by_cases w : (u = c ∧ v = d)
    · obtain ⟨rfl, rfl⟩ := w; exact go
    · by_cases z : (u = d ∧ v = c)
      · obtain ⟨rfl, rfl⟩ := z; exact .symm go
      · exact .edge ⟨e, w, z⟩
  · intro no
    exact ⟨c, d, hc, hd, (con_iff he c d).2 (.edge hcd), fun w => no ((cf c d).1 w)⟩
/-- Without a node and its edges there are more parts, itself not counted, just if it is a joint. -/
theorem joint_count {n a : Nat} {l m : List Ed} {es fs : List (Nat × Nat)} {p q : List Nat} (he : ∀ x y, adj l x y ↔ (x, y) ∈ es ∨ (y, x) ∈ es) (hf : ∀ x y, adj m x y ↔ (x, y) ∈ fs ∨ (y, x) ∈ fs) (hp : IsParts n es p) (hq : IsParts n fs q) (hm : ∀ x y, adj m x y ↔ No l a x y) (ha : a < n) (hl : ∀ u, ¬ adj l u u) (hin : ∀ u v, adj l u v → v < n) :
    cntP n p + 1 < cntP n q ↔ Jt l a := by
  have cf : ∀ x y, Con fs x y ↔ Cn (No l a) x y := fun x y => (con_iff hf x y).trans (cn_iff hm x y)
  have fin : ∀ x y, (x, y) ∈ fs → x < n ∧ y < n := fun x y w => by
    have h1 := ((hm x y).1 ((hf x y).2 (.inl w))).1
    exact ⟨hin _ _ (adj_symm h1), hin _ _ h1⟩
  by_cases hu : ∃ u, adj l a u
  · obtain ⟨u, hu⟩ := hu
    have hun := hin _ _ hu
    have hua : u ≠ a := fun e => hl a (e ▸ hu)
    obtain ⟨r, hr⟩ := exists_parts n (fs ++ [(a, u)]) (fun x y w => by
      rcases List.mem_append.1 w with w | w
      · exact fin x y w
      · simp at w; rw [w.1, w.2]; exact ⟨ha, hun⟩)
    have iso : ¬ Con fs a u := fun w => by
      have := ((cf a u).1 w).keeps (S := fun z => z = a) (fun x y e => ⟨fun z => absurd z e.2.1, fun z => absurd z e.2.2⟩)
      exact hua (this.1 rfl)
    have h1 := (count_add hr hq ha hun).2 iso
    have sub : ∀ x y, Con (fs ++ [(a, u)]) x y → Con es x y := fun x y w => by
      refine Con.mono (fun x y w => ?_) w
      rcases List.mem_append.1 w with w | w
      · exact (con_iff he x y).2 (.edge ((hm x y).1 ((hf x y).2 (.inl w))).1)
      · simp at w; rw [w.1, w.2]; exact (con_iff he a u).2 (.edge hu)
    have h2 := (count_finer hp hr sub).2
    have e : cntP n p + 1 < cntP n q ↔ cntP n p < cntP n r := by omega
    rw [e, h2]
    constructor
    · rintro ⟨x, y, hx, hy, c1, c2⟩
      apply Classical.byContradiction
      intro nj
      have all : ∀ v, adj l a v → Cn (No l a) u v := fun v hv => Classical.byContradiction fun z => nj ⟨u, v, hu, hv, z⟩
      apply c2
      refine Cn.into (R := Con (fs ++ [(a, u)])) (fun x => .refl x) (fun s t e => ?_) (fun _ _ => .symm) (fun _ _ _ => .trans) ((con_iff he x y).1 c1)
      by_cases hs : s = a
      · subst hs
        exact Con.snoc.2 (.inr (.inl ⟨.refl _, (cf _ _).2 (.symm (all t e))⟩))
      · by_cases ht : t = a
        · subst ht
          exact Con.snoc.2 (.inr (.inr ⟨(cf _ _).2 (.symm (all s (adj_symm e))), .refl _⟩))
        · exact Con.snoc.2 (.inl ((cf _ _).2 (.edge ⟨e, hs, ht⟩)))
    · rintro ⟨v, w, hv, hw, nc⟩
      by_cases c : Cn (No l a) u v
      · refine ⟨a, w, ha, hin _ _ hw, (con_iff he a w).2 (.edge hw), fun z => ?_⟩
        rcases Con.snoc.1 z with z | ⟨z1, z2⟩ | ⟨z1, z2⟩
        · have := ((cf a w).1 z).keeps (S := fun z => z = a) (fun x y e => ⟨fun z => absurd z e.2.1, fun z => absurd z e.2.2⟩)
          exact hl a (this.1 rfl ▸ hw)
        · exact nc (.trans (.symm c) (.symm ((cf w u).1 z2)))
        · exact iso z1
      · refine ⟨a, v, ha, hin _ _ hv, (con_iff he a v).2 (.edge hv), fun z => ?_⟩
        rcases Con.snoc.1 z with z | ⟨z1, z2⟩ | ⟨z1, z2⟩
        · have := ((cf a v).1 z).keeps (S := fun z => z = a) (fun x y e => ⟨fun z => absurd z e.2.1, fun z => absurd z e.2.2⟩)
          exact hl a (this.1 rfl ▸ hv)
        · exact c (.symm ((cf v u).1 z2))
        · exact iso z1
  · have hno : ∀ v, ¬ adj l a v := fun v w => hu ⟨v, w⟩
    have eqv : ∀ x y, Con fs x y ↔ Con es x y := fun x y => by
      rw [cf, con_iff he]
      refine cn_iff (fun s t => ⟨fun e => e.1, fun e => ⟨e, fun z => hno t (z ▸ e), fun z => hno s (z ▸ adj_symm e)⟩⟩) x y
    have h1 := (count_finer hp hq fun x y => (eqv x y).1).2
    have h2 : ¬ cntP n p < cntP n q := fun w => by
      obtain ⟨x, y, _, _, c1, c2⟩ := h1.1 w
      exact c2 ((eqv x y).2 c1)
    constructor
    · intro w; omega
    · rintro ⟨v, _, hv, _⟩; exact absurd hv (hno v)
end DF
end Go.Proofs.Ytckcbfnffmohgaa
