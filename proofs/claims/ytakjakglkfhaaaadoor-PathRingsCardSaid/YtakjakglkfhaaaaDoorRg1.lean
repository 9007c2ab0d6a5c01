/-
  Rings, in plain Lean: a way by the edges ahead and the edge that closes it. No program in sight.
-/
import Derived.Test.YtakjakglkfhaaaaDoorBh1
import Derived.Test.YtakjakglkfhaaaaDoorPg1
import Derived.Test.YtakjakglkfhaaaaDoorRbs
namespace Go.Proofs.YtakjakglkfhaaaaDoor
open Go
set_option linter.unusedVariables false
namespace DF
open PD (g adj Ed adj_symm)

theorem adj_take {l : List Ed} {i u v : Nat} (h : adj (l.take i) u v) : adj l u v := h.imp List.mem_of_mem_take List.mem_of_mem_take
/-- No edge closes those ahead of it. -/
def Wood (l : List Ed) : Prop := ∀ (i u v : Nat), l[i]? = some ((u : Int), (v : Int)) → ¬ Cn (adj (l.take i)) u v
/-- A ring: the first edge that closes those ahead, and the shortest way by them. -/
def RingOf (n : Nat) (l : List Ed) (p : List Nat) : Prop := ∃ (i u v : Nat) (d : List Int), l[i]? = some ((u : Int), (v : Int)) ∧ u < n ∧ v < n ∧ PD.IsDist n (l.take i) v d ∧ 0 ≤ g d u ∧ PD.Way n (l.take i) d u p
theorem adj_snoc {l : List Ed} {j a b : Nat} (hx : l[j]? = some ((a : Int), (b : Int))) (p q : Nat) : adj (l.take (j + 1)) p q ↔ adj (l.take j) p q ∨ (p = a ∧ q = b) ∨ (p = b ∧ q = a) := by
  rw [List.take_add_one, hx]
  unfold adj
  simp only [Option.toList_some, List.mem_append, List.mem_singleton, Prod.mk.injEq]
  constructor
  · rintro ((h | h) | (h | h))
    · exact .inl (.inl h)
    · exact .inr (.inl (by omega))
    · exact .inl (.inr h)
    · exact .inr (.inr (by omega))
  · rintro ((h | h) | h | h)
    · exact .inl (.inl h)
    · exact .inr (.inl h)
    · exact .inl (.inr (by omega))
    · exact .inr (.inr (by omega))
theorem cn_cut {E F : Nat → Nat → Prop} {a b : Nat} (hE : ∀ p q, E p q → F p q ∨ (p = a ∧ q = b) ∨ (p = b ∧ q = a)) (nab : ¬ Cn F a b) {p q : Nat} (c : Cn E p q) : Cn F p q ∨ (Cn F p a ∧ Cn F q b) ∨ (Cn F p b ∧ Cn F q a) := by
  induction c with
  | refl x => exact .inl (.refl _)
  | edge e' =>
    rcases hE _ _ e' with z | z | z
    · exact .inl (.edge z)
    · obtain ⟨rfl, rfl⟩ := z; exact .inr (.inl ⟨.refl _, .refl _⟩)
    · obtain ⟨rfl, rfl⟩ := z; exact .inr (.inr ⟨.refl _, .refl _⟩)
  | symm _ ih =>
    rcases ih with z | z | z
    · exact .inl (.symm z)
    · exact .inr (.inr ⟨z.2, z.1⟩)
    · exact .inr (.inl ⟨z.2, z.1⟩)
  | trans _ _ i1 i2 =>
    rcases i1 with z | z | z
    · rcases i2 with y | y | y
      · exact .inl (.trans z y)
      · exact .inr (.inl ⟨.trans z y.1, y.2⟩)
      · exact .inr (.inr ⟨.trans z y.1, y.2⟩)
    · rcases i2 with y | y | y
      · exact .inr (.inl ⟨z.1, .trans (.symm y) z.2⟩)
      · exact absurd (Cn.trans (Cn.symm y.1) z.2) nab
      · exact .inl (.trans z.1 (.symm y.2))
    · rcases i2 with y | y | y
      · exact .inr (.inr ⟨z.1, .trans (.symm y) z.2⟩)
      · exact .inl (.trans z.1 (.symm y.2))
      · exact absurd (Cn.trans (Cn.symm z.2) y.1) nab
/-- Where no edge closes anything, each is a bridge. -/
theorem wood_bridge {l : List Ed} (hw : Wood l) {u v : Nat} (hadj : ((u : Int), (v : Int)) ∈ l) (hnat : ∀ x ∈ l, ∃ a b : Nat, x = ((a : Int), (b : Int))) : ¬ Go2 l u v := by
  have key : ∀ j, j ≤ l.length → ((u : Int), (v : Int)) ∈ l.take j → ¬ Cn (Mn (adj (l.take j)) u v) u v := by
    intro j
    induction j with
    | zero => intro _ h; simp at h
    | succ j ih =>
      intro hj hm hc
      obtain ⟨x, hx⟩ : ∃ x, l[j]? = some x := ⟨_, List.getElem?_eq_getElem (by omega)⟩
      obtain ⟨a, b, rfl⟩ := hnat x (List.mem_of_getElem? hx)
      have hsp := adj_snoc hx
      have nab := hw j a b hx
      by_cases e : u = a ∧ v = b
      · obtain ⟨rfl, rfl⟩ := e
        refine nab (hc.mono fun p q ⟨h1, h2, h3⟩ => ?_)
        rcases (hsp p q).1 h1 with z | z | z
        · exact z
        · exact absurd z h2
        · exact absurd z h3
      · have hm' : ((u : Int), (v : Int)) ∈ l.take j := by
          rw [List.take_add_one, hx] at hm
          simp only [Option.toList_some, List.mem_append, List.mem_singleton, Prod.mk.injEq] at hm
          rcases hm with hm | hm
          · exact hm
          · exact absurd ⟨by omega, by omega⟩ e
        have huv : Cn (adj (l.take j)) u v := .edge (.inl hm')
        have nab' : ¬ Cn (Mn (adj (l.take j)) u v) a b := fun w => nab (w.mono fun _ _ e => e.1)
        have cut := cn_cut (F := Mn (adj (l.take j)) u v) (a := a) (b := b) (fun p q (w : Mn (adj (l.take (j + 1))) u v p q) => by
          rcases (hsp p q).1 w.1 with z | z
          · exact .inl ⟨z, w.2⟩
          · exact .inr z) nab' hc
        rcases cut with z | ⟨z1, z2⟩ | ⟨z1, z2⟩
        · exact ih (by omega) hm' z
        · exact nab (.trans (.symm (z1.mono fun _ _ e => e.1)) (.trans huv (z2.mono fun _ _ e => e.1)))
        · exact nab (.trans (.symm (z2.mono fun _ _ e => e.1)) (.trans (.symm huv) (z1.mono fun _ _ e => e.1)))
  have := key l.length (Nat.le_refl _) (by rw [List.take_length]; exact hadj)
  rw [List.take_length] at this
  exact this
/-- Its edge does not lie ahead of itself. -/
theorem not_ahead {n i u v : Nat} {l : List Ed} (hok : ∀ x ∈ l, 0 ≤ x.1 ∧ x.1 < x.2 ∧ x.2 < (n : Int)) (hp : l.Pairwise ltE) (hi : l[i]? = some ((u : Int), (v : Int))) : ¬ adj (l.take i) u v := by
  have huv := hok _ (List.mem_of_getElem? hi)
  simp only at huv
  rintro (h | h)
  · have hil : i < l.length := (List.getElem?_eq_some_iff.1 hi).1
    obtain ⟨j, hj⟩ := List.getElem?_of_mem h
    rw [List.getElem?_take] at hj
    split at hj
    · rename_i hji
      obtain ⟨hjl, ej⟩ := List.getElem?_eq_some_iff.1 hj
      obtain ⟨_, ei⟩ := List.getElem?_eq_some_iff.1 hi
      have := List.pairwise_iff_getElem.1 hp j i hjl hil hji
      rw [ej, ei] at this
      unfold ltE at this
      omega
    · simp at hj
  · have := hok _ (List.mem_of_mem_take h)
    simp only at this
    omega
structure RingIs (n : Nat) (l : List Ed) (p : List Nat) : Prop where
  len : 3 ≤ p.length
  top : p.length ≤ n + 1
  lt : ∀ (j z : Nat), p[j]? = some z → z < n
  once : ∀ (j z : Nat), p[j]? = some z → z ∉ p.take j
  on : ∀ (j y z : Nat), p[j]? = some y → p[j + 1]? = some z → adj l y z ∧ Go2 l y z
  back : ∀ (y z : Nat), p[p.length - 1]? = some y → p[0]? = some z → adj l y z ∧ Go2 l y z
theorem RingOf.is {n : Nat} {l : List Ed} {p : List Nat} (h : RingOf n l p) (hok : ∀ x ∈ l, 0 ≤ x.1 ∧ x.1 < x.2 ∧ x.2 < (n : Int)) (hp : l.Pairwise ltE) : RingIs n l p ∧ ∃ u v : Nat, ((u : Int), (v : Int)) ∈ l ∧ Go2 l u v := by
  obtain ⟨i, u, v, d, hi, hu, hv, hd, h0, hw⟩ := h
  have hna := not_ahead hok hp hi
  have huv := hok _ (List.mem_of_getElem? hi)
  simp only at huv
  obtain ⟨a0, alen, aat⟩ := hw.at hu
  have adjs := hw.adjs
  have hpos : 0 < p.length := by rcases p with _ | ⟨y, q⟩; (· simp at a0); simp
  have hbel := hd.toBase.below hu
  have h2 : 2 ≤ g d u := by
    apply Classical.byContradiction
    intro w
    have : g d u = 0 ∨ g d u = 1 := by omega
    rcases this with e | e
    · have := hd.src u hu e; omega
    · obtain ⟨x, hx, hadj, he⟩ := hd.prev u hu (by omega)
      have := hd.src x hx (by omega)
      subst this
      exact hna (adj_symm hadj)
  have lst : p[p.length - 1]? = some v := by
    obtain ⟨z, hz⟩ : ∃ z, p[p.length - 1]? = some z := ⟨_, List.getElem?_eq_getElem (by omega)⟩
    rw [hz, hw.last hd hu hz]
  have gv : g d v = 0 := hd.zero
  have closing : adj l v u := .inr (List.mem_of_getElem? hi)
  have go_close : Go2 l u v := by
    have c : ∀ (t z : Nat), p[t]? = some z → Cn (Mn (adj l) u v) u z := by
      intro t
      induction t with
      | zero => intro z hz; rw [a0] at hz; injection hz with hz; subst hz; exact .refl _
      | succ t ih =>
        intro z hz
        obtain ⟨y, hy⟩ : ∃ y, p[t]? = some y := ⟨_, List.getElem?_eq_getElem (by have := (List.getElem?_eq_some_iff.1 hz).1; omega)⟩
        have had := adjs t y z hy hz
        refine .trans (ih y hy) (.edge ⟨adj_take had, fun w => hna ?_, fun w => hna ?_⟩)
        · rw [← w.1, ← w.2]; exact had
        · rw [← w.1, ← w.2]; exact adj_symm had
    exact c _ v lst
  refine ⟨⟨by omega, by omega, fun j z hz => (aat j z hz).1, fun j z hz => hw.once hu hz, fun j y z hy hz => ⟨adj_take (adjs j y z hy hz), ?_⟩, fun y z hy hz => ?_⟩, u, v, List.mem_of_getElem? hi, go_close⟩
  · have gy := (aat j y hy).2
    have gz := (aat (j + 1) z hz).2
    have c1 : ∀ (t x : Nat), t ≤ j → p[t]? = some x → Cn (Mn (adj l) y z) u x := by
      intro t
      induction t with
      | zero => intro x _ hx; rw [a0] at hx; injection hx with hx; subst hx; exact .refl _
      | succ t ih =>
        intro x ht hx
        obtain ⟨q, hq⟩ : ∃ q, p[t]? = some q := ⟨_, List.getElem?_eq_getElem (by have := (List.getElem?_eq_some_iff.1 hx).1; omega)⟩
        have gq := (aat t q hq).2
        have gx := (aat (t + 1) x hx).2
        refine .trans (ih q (by omega) hq) (.edge ⟨adj_take (adjs t q x hq hx), fun w => ?_, fun w => ?_⟩)
        · rw [w.1] at gq; omega
        · rw [w.1] at gq; omega
    have c2 : ∀ (t x : Nat), p[j + 1 + t]? = some x → Cn (Mn (adj l) y z) z x := by
      intro t
      induction t with
      | zero => intro x hx; rw [Nat.add_zero, hz] at hx; injection hx with hx; subst hx; exact .refl _
      | succ t ih =>
        intro x hx
        obtain ⟨q, hq⟩ : ∃ q, p[j + 1 + t]? = some q := ⟨_, List.getElem?_eq_getElem (by have := (List.getElem?_eq_some_iff.1 hx).1; omega)⟩
        have gq := (aat _ q hq).2
        have gx := (aat _ x hx).2
        refine .trans (ih q hq) (.edge ⟨adj_take (adjs _ q x hq hx), fun w => ?_, fun w => ?_⟩)
        · rw [w.1] at gq; omega
        · rw [w.2] at gx; omega
    have hj1 : j + 1 < p.length := (List.getElem?_eq_some_iff.1 hz).1
    have e1 := c1 j y (Nat.le_refl _) hy
    have e2 := c2 (p.length - 1 - (j + 1)) v (by rw [show j + 1 + (p.length - 1 - (j + 1)) = p.length - 1 by omega]; exact lst)
    have e3 : Cn (Mn (adj l) y z) v u := .edge ⟨closing, fun w => by rw [← w.1] at gy; rw [← w.2] at gz; omega, fun w => by rw [← w.1] at gz; rw [← w.2] at gy; omega⟩
    exact .trans (.symm e1) (.trans (.symm e3) (.symm e2))
  · rw [lst] at hy; injection hy with hy; subst hy
    rw [a0] at hz; injection hz with hz; subst hz
    exact ⟨closing, go_close.flip⟩
end DF
theorem nat_of {n : Nat} {l : List AK.Ed} (hok : ∀ x ∈ l, 0 ≤ x.1 ∧ x.1 < x.2 ∧ x.2 < (n : Int)) : ∀ x ∈ l, ∃ a b : Nat, x = ((a : Int), (b : Int)) := fun x hx => by
  have := hok x hx
  obtain ⟨a, ha⟩ := Int.eq_ofNat_of_zero_le this.1
  obtain ⟨b, hb⟩ := Int.eq_ofNat_of_zero_le (show 0 ≤ x.2 by omega)
  exact ⟨a, b, Prod.ext ha hb⟩
theorem wood_all {n : Nat} {l x : List AK.Ed} (hw : DF.Wood l) (hok : ∀ x ∈ l, 0 ≤ x.1 ∧ x.1 < x.2 ∧ x.2 < (n : Int)) (hp : l.Pairwise ltE) (hx : BrsOf n l x) : x.length = l.length := by
  rw [hx.uniq (brs_filter hok hp), List.filter_eq_self.2]
  intro e he
  obtain ⟨a, b, rfl⟩ := nat_of hok e he
  exact brP_iff.2 (DF.wood_bridge hw he (nat_of hok))
theorem ring_some {n u v : Nat} {l x : List AK.Ed} (hok : ∀ x ∈ l, 0 ≤ x.1 ∧ x.1 < x.2 ∧ x.2 < (n : Int)) (hp : l.Pairwise ltE) (hx : BrsOf n l x) (hm : ((u : Int), (v : Int)) ∈ l) (hg : DF.Go2 l u v) : x.length ≠ l.length := fun e => by
  rw [hx.uniq (brs_filter hok hp)] at e
  have := List.filter_eq_self.1 (List.filter_sublist.eq_of_length e) _ hm
  exact brP_iff.1 this hg
end Go.Proofs.YtakjakglkfhaaaaDoor
