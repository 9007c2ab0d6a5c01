/-
  Plain: parts of a graph, counted; an edge less. No program here; no conditions.
  Plain: distances by fewer edges, parts by their least nodes, a union and a forest beside each other. No program here; no conditions.
  Plain: a forest's edges each join something new; trees and spans have as many edges; a graph whose tree has all its edges has no ring; bridges stand in the tree and in the span. No program here; no conditions.
-/
import Derived.Test.YtckcbfnffmohgaaGreatTt38
import Derived.Test.YtckcbfnffmohgaaGreatTt5
import Derived.Test.YtckcbfnffmohgaaGreatTt48
import Derived.Test.YtckcbfnffmohgaaGreatTt46
import Derived.Test.YtckcbfnffmohgaaGreatTt49
import Derived.Test.YtckcbfnffmohgaaGreatTt30
namespace Go.Proofs.YtckcbfnffmohgaaGreat
set_option linter.unusedVariables false
open UF DF PD PT TR

end Go.Proofs.YtckcbfnffmohgaaGreat
namespace Go.Proofs.YtckcbfnffmohgaaGreat
set_option linter.unusedVariables false
open DF PD PT TR

theorem dist_cnW {n a : Nat} {l : List Ed} {d : List Int} (h : PD.IsDist n l a d) (hin : ∀ u v, adj l u v → v < n) {v : Nat} (hv : v < n) : 0 ≤ g d v ↔ Cn (adj l) a v := by
  constructor
  · intro h0
    have key : ∀ (t v : Nat), v < n → g d v = (t : Int) → Cn (adj l) a v := by
      intro t
      induction t with
      | zero => intro v hv ht; rw [h.src v hv (by omega)]; exact .refl _
      | succ t ih =>
        intro v hv ht
        obtain ⟨u, hu, hadj, he⟩ := h.prev v hv (by omega)
        exact .trans (ih u hu (by omega)) (.edge hadj)
    obtain ⟨t, ht⟩ := Int.eq_ofNat_of_zero_le h0
    exact key t v hv ht
  · intro c
    have := c.keeps (S := fun z => z < n ∧ 0 ≤ g d z) (fun u v e => by
      have hv := hin _ _ e
      have hu := hin _ _ (adj_symm e)
      exact ⟨fun w => ⟨hv, (h.edge u v hu hv e w.2).1⟩, fun w => ⟨hu, (h.edge v u hv hu (adj_symm e) w.2).1⟩⟩)
    exact (this.1 ⟨h.an, by rw [h.zero]; exact Int.le_refl _⟩).2
section
variable {n i u v : Nat} {A E : List AK.Ed} {hs : UF.Hs}
end
end Go.Proofs.YtckcbfnffmohgaaGreat
namespace Go.Proofs.YtckcbfnffmohgaaGreat
set_option linter.unusedVariables false
open DF PD TR NK

/-- Edges as pairs of places. -/
def pE (x : AK.Ed) : Nat × Nat := (x.1.toNat, x.2.toNat)
/-- Nodes that may be. -/
def OkE (n : Nat) (E : List AK.Ed) : Prop := ∀ x ∈ E, 0 ≤ x.1 ∧ x.1 < x.2 ∧ x.2 < (n : Int)
theorem pE_mem {n : Nat} {E : List AK.Ed} (h : OkE n E) {u v : Nat} : (u, v) ∈ E.map pE ↔ ((u : Int), (v : Int)) ∈ E := by
  rw [List.mem_map]
  constructor
  · rintro ⟨x, hx, e⟩
    have := h x hx
    unfold pE at e
    injection e with e1 e2
    have : x = ((u : Int), (v : Int)) := Prod.ext (by simp only; omega) (by simp only; omega)
    rwa [← this]
  · intro hx
    exact ⟨_, hx, by simp [pE]⟩
theorem con_cn {n : Nat} {E : List AK.Ed} (h : OkE n E) {x y : Nat} : UF.Con (E.map pE) x y ↔ Cn (adj E) x y := by
  constructor
  · intro c
    induction c with
    | refl x => exact .refl _
    | edge hm => exact .edge (.inl ((pE_mem h).1 hm))
    | symm _ ih => exact ih.symm
    | trans _ _ h1 h2 => exact h1.trans h2
  · intro c
    refine c.into (R := fun x y => UF.Con (E.map pE) x y) (fun _ => .refl _) (fun u v e => ?_) (fun _ _ h => h.symm) (fun _ _ _ h k => h.trans k)
    rcases e with e | e
    · exact .edge ((pE_mem h).2 e)
    · exact (UF.Con.edge ((pE_mem h).2 e)).symm
theorem ok_tail {n : Nat} {x : AK.Ed} {E : List AK.Ed} (h : OkE n (x :: E)) : OkE n E := fun y hy => h y (List.mem_cons_of_mem _ hy)
/-- A forest's edges each join something new. -/
theorem ind_of_fs {n : Nat} : ∀ {E : List AK.Ed}, OkE n E → E.Pairwise ltE → Fs (adj E) → NK.Ind (E.map pE)
  | [], _, _, _ => trivial
  | x :: E, h, hp, hf => by
    obtain ⟨p1, p2⟩ := List.pairwise_cons.1 hp
    have hx := h x (List.mem_cons_self ..)
    obtain ⟨u, hu⟩ := Int.eq_ofNat_of_zero_le hx.1
    obtain ⟨v, hv⟩ := Int.eq_ofNat_of_zero_le (show 0 ≤ x.2 by omega)
    have he : x = ((u : Int), (v : Int)) := Prod.ext hu hv
    have hxE : x ∉ E := fun q => by have := p1 x q; unfold ltE at this; omega
    have sub : ∀ p q, adj E p q → Mn (adj (x :: E)) u v p q := fun p q e => by
      refine ⟨e.elim (fun e => .inl (List.mem_cons_of_mem _ e)) (fun e => .inr (List.mem_cons_of_mem _ e)), ?_, ?_⟩
      · rintro ⟨rfl, rfl⟩
        rcases e with e | e
        · exact hxE (he ▸ e)
        · have := h _ (List.mem_cons_of_mem _ e)
          simp only at this
          omega
      · rintro ⟨rfl, rfl⟩
        rcases e with e | e
        · have := h _ (List.mem_cons_of_mem _ e)
          simp only at this
          omega
        · exact hxE (he ▸ e)
    refine ⟨ind_of_fs (ok_tail h) p2 ?_, fun c => ?_⟩
    · intro a b hab c
      refine hf a b (hab.elim (fun e => .inl (List.mem_cons_of_mem _ e)) (fun e => .inr (List.mem_cons_of_mem _ e))) (c.mono fun p q e => ⟨(sub p q e.1).1, e.2⟩)
    · have c2 := (con_cn (ok_tail h)).1 c
      have e1 : (pE x).1 = u := by unfold pE; simp only; omega
      have e2 : (pE x).2 = v := by unfold pE; simp only; omega
      rw [e1, e2] at c2
      exact hf u v (.inl (by rw [← he]; exact List.mem_cons_self ..)) (c2.mono sub)
/-- No edge is joined by those ahead of it. -/
theorem ind_of_wood {n : Nat} {A : List AK.Ed} (h : OkE n A) (hw : Wood A) : ∀ k, k ≤ A.length → NK.Ind ((A.take k).reverse.map pE)
  | 0, _ => trivial
  | k + 1, hk => by
    have hx : A[k]? = some A[k] := List.getElem?_eq_getElem (by omega)
    rw [List.take_add_one, hx]
    simp only [Option.toList_some, List.reverse_append, List.reverse_cons, List.reverse_nil, List.nil_append, List.singleton_append, List.map_cons]
    refine ⟨ind_of_wood h hw k (by omega), fun c => ?_⟩
    have hxo := h A[k] (List.getElem_mem _)
    obtain ⟨u, hu⟩ := Int.eq_ofNat_of_zero_le hxo.1
    obtain ⟨v, hv⟩ := Int.eq_ofNat_of_zero_le (show 0 ≤ (A[k]).2 by omega)
    have e1 : (pE A[k]).1 = u := by unfold pE; simp only; omega
    have e2 : (pE A[k]).2 = v := by unfold pE; simp only; omega
    rw [e1, e2] at c
    have hok : OkE n (A.take k).reverse := fun x hx => h x (List.mem_of_mem_take (List.mem_reverse.1 hx))
    have c2 := (con_cn hok).1 c
    refine hw k u v (by rw [hx, ← hu, ← hv]) (c2.mono fun p q e => ?_)
    unfold adj at e ⊢
    rwa [List.mem_reverse, List.mem_reverse] at e
theorem pE_lt {n : Nat} {E : List AK.Ed} (h : OkE n E) : ∀ p ∈ E.map pE, p.1 < n ∧ p.2 < n := fun p hp => by
  obtain ⟨x, hx, rfl⟩ := List.mem_map.1 hp
  have := h x hx
  unfold pE
  simp only
  omega
/-- Two lists that each join something new, and join the same, are as long. -/
theorem ind_same {n : Nat} {es fs : List (Nat × Nat)} (h : NK.Ind es) (k : NK.Ind fs) (he : ∀ p ∈ es, p.1 < n ∧ p.2 < n) (hf : ∀ p ∈ fs, p.1 < n ∧ p.2 < n) (hc : ∀ x y, UF.Con es x y ↔ UF.Con fs x y) : es.length = fs.length := by
  obtain ⟨hs, a1, a2, a3⟩ := h.rank he
  obtain ⟨ks, b1, b2, b3⟩ := k.rank hf
  have := UF.same_len a1 b1 fun x y _ _ => by rw [a2, b2]; exact hc x y
  omega
theorem rise_once {A : List AK.Ed} (hp : A.Pairwise ltE) {i j : Nat} (h : j < i) {x : AK.Ed} (hi : A[i]? = some x) (hj : A[j]? = some x) : False := by
  obtain ⟨i1, i2⟩ := List.getElem?_eq_some_iff.1 hi
  obtain ⟨j1, j2⟩ := List.getElem?_eq_some_iff.1 hj
  have := List.pairwise_iff_getElem.1 hp j i j1 i1 h
  rw [i2, j2] at this
  unfold ltE at this
  omega
/-- A tree of a graph: fewer edges just if there is a ring. -/
theorem wood_tree {n : Nat} {A T : List AK.Ed} (hA : OkE n A) (hp : A.Pairwise ltE) (hT : Fo n T) (hs : T.Sublist A) (hc : ∀ x y, Cn (adj A) x y ↔ Cn (adj T) x y) : Wood A ↔ T.length = A.length := by
  have hTo : OkE n T := hT.ok
  constructor
  · intro hw
    have h1 := ind_of_wood hA hw A.length (Nat.le_refl _)
    rw [List.take_length] at h1
    have h2 := ind_of_fs hTo hT.up hT.fs
    have hAr : OkE n A.reverse := fun x hx => hA x (List.mem_reverse.1 hx)
    have := ind_same h2 h1 (pE_lt hTo) (pE_lt hAr) fun x y => by
      rw [con_cn hTo, con_cn hAr, ← hc]
      have : ∀ p q, adj A p q ↔ adj A.reverse p q := fun p q => by unfold adj; rw [List.mem_reverse, List.mem_reverse]
      exact ⟨fun c => c.mono fun p q e => (this p q).1 e, fun c => c.mono fun p q e => (this p q).2 e⟩
    simpa using this
  · intro he i u v hx c
    obtain rfl : T = A := hs.eq_of_length he
    have hi := (List.getElem?_eq_some_iff.1 hx).1
    refine hT.fs u v (.inl (List.mem_of_getElem? hx)) (c.mono fun p q e => ⟨e.elim (fun e => .inl (List.mem_of_mem_take e)) (fun e => .inr (List.mem_of_mem_take e)), ?_, ?_⟩)
    · rintro ⟨rfl, rfl⟩
      rcases e with e | e
      · obtain ⟨j, hj⟩ := List.getElem?_of_mem e
        rw [List.getElem?_take] at hj
        split at hj
        · rename_i hji
          have := rise_once hp hji hx hj
          exact this
        · simp at hj
      · have h1 := hA _ (List.mem_of_mem_take e)
        have h2 := hA _ (List.mem_of_getElem? hx)
        simp only at h1 h2
        omega
    · rintro ⟨rfl, rfl⟩
      rcases e with e | e
      · have h1 := hA _ (List.mem_of_mem_take e)
        have h2 := hA _ (List.mem_of_getElem? hx)
        simp only at h1 h2
        omega
      · obtain ⟨j, hj⟩ := List.getElem?_of_mem e
        rw [List.getElem?_take] at hj
        split at hj
        · rename_i hji
          exact rise_once hp hji hx hj
        · simp at hj
theorem ring_not {n : Nat} {A : List AK.Ed} {p : List Nat} (hA : OkE n A) (h : RingOf n A p) : ¬ Wood A := by
  obtain ⟨i, u, v, d, hx, hu, hv, hd, h0, _⟩ := h
  refine fun w => w i u v hx ((dist_cnW hd (fun a b e => ?_) hu).1 h0).symm
  rcases e with e | e
  · have := hA _ (List.mem_of_mem_take e); simp only at this; omega
  · have := hA _ (List.mem_of_mem_take e); simp only at this; omega
/-! ### Edges that weigh something -/
structure Hvy (A : List AK.Ed) (L : List He) : Prop where
  map : L.map (·.1) = A
  wt : ∀ x ∈ L, 0 ≤ x.2 ∧ x.2 ≤ 1000000
section
variable {n : Nat} {A T : List AK.Ed} {L : List He}
theorem Hvy.len (h : Hvy A L) : L.length = A.length := by rw [← h.map, List.length_map]
theorem Hvy.ok (h : Hvy A L) (hA : OkE n A) (hn : 1 ≤ n ∧ n ≤ 60) (hl : A.length ≤ 200) : OkH n L := by
  refine ⟨by omega, by omega, by rw [h.len]; exact hl, fun x hx => ?_⟩
  have h1 := hA x.1 (by rw [← h.map]; exact List.mem_map_of_mem hx)
  have h2 := h.wt x hx
  omega
theorem Hvy.at_ (h : Hvy A L) {i : Nat} {x : AK.Ed} (hx : A[i]? = some x) : ndH L (i : Int) = pE x := by
  rw [← h.map, List.getElem?_map] at hx
  cases hl : L[i]? with
  | none => rw [hl] at hx; simp at hx
  | some y =>
    rw [hl] at hx
    simp at hx
    subst hx
    unfold ndH prH pE
    rw [Int.toNat_natCast, List.getD_eq_getElem?_getD, hl]; rfl
theorem Hvy.prs (h : Hvy A L) : L.map prH = A.map pE := by rw [← h.map, List.map_map]; rfl
/-- A span has as many edges as a tree. -/
theorem Hvy.as_many (h : Hvy A L) (hA : OkE n A) (hT : Fo n T) (hc : ∀ x y, Cn (adj A) x y ↔ Cn (adj T) x y) {f : Nat → Int} (ho : NK.Ord L f) : (spanH L).length = T.length := by
  obtain ⟨hs, a1, a2, a3⟩ := ho.rank (n := n) (fun i hi => by
    obtain ⟨y, hy⟩ : ∃ y, A[i]? = some y := ⟨_, List.getElem?_eq_getElem (by rw [← h.len]; exact hi)⟩
    rw [h.at_ hy]
    exact pE_lt hA _ (List.mem_map_of_mem (List.mem_of_getElem? hy))) L.length (Nat.le_refl _)
  obtain ⟨ks, b1, b2, b3⟩ := (ind_of_fs hT.ok hT.up hT.fs).rank (pE_lt hT.ok)
  have := UF.same_len a1 b1 fun x y _ _ => by
    rw [a2, b2, ho.whole, h.prs, con_cn hA, con_cn hT.ok]; exact hc x y
  rw [ho.perm.length_eq]
  rw [List.length_map] at b3
  omega
/-- A bridge stands in the span. -/
theorem Hvy.bridge (h : Hvy A L) (hA : OkE n A) (hp : A.Pairwise ltE) {i u v : Nat} (hx : A[i]? = some ((u : Int), (v : Int))) (hb : ¬ Go2 A u v) : NK.Tk L i := by
  intro c
  rw [h.at_ hx] at c
  simp only [pE, Int.toNat_natCast] at c
  refine hb ?_
  have hi := (List.getElem?_eq_some_iff.1 hx).1
  have huv := hA _ (List.mem_of_getElem? hx)
  simp only at huv
  have key : ∀ p q, (p, q) ∈ ahH L i → Mn (adj A) u v p q := fun p q hm => by
    obtain ⟨j, j1, j2, j3⟩ := mem_ahH.1 hm
    obtain ⟨y, hjx⟩ : ∃ y, A[j]? = some y := ⟨_, List.getElem?_eq_getElem (by rw [← h.len]; exact j1)⟩
    rw [h.at_ hjx] at j3
    have hjo := hA _ (List.mem_of_getElem? hjx)
    have e1 : y.1 = (p : Int) := by unfold pE at j3; injection j3 with e1 e2; omega
    have e2 : y.2 = (q : Int) := by unfold pE at j3; injection j3 with e1 e2; omega
    have he : y = ((p : Int), (q : Int)) := Prod.ext e1 e2
    refine ⟨.inl (by rw [← he]; exact List.mem_of_getElem? hjx), ?_, ?_⟩
    · rintro ⟨rfl, rfl⟩
      rw [he] at hjx
      rcases Nat.lt_trichotomy i j with q | q | q
      · exact rise_once hp q hjx hx
      · subst q; exact SS.lx_irrefl _ _ j2
      · exact rise_once hp q hx hjx
    · rintro ⟨rfl, rfl⟩
      rw [he] at hjo
      simp only at hjo
      omega
  have : ∀ {x y}, UF.Con (ahH L i) x y → Cn (Mn (adj A) u v) x y := fun c => by
    induction c with
    | refl x => exact .refl _
    | edge hm => exact .edge (key _ _ hm)
    | symm _ ih => exact ih.symm
    | trans _ _ h1 h2 => exact h1.trans h2
  exact this c
/-- A bridge stands in the tree. -/
theorem tree_bridge {u v : Nat} (hA : OkE n A) (hs : ∀ x, x ∈ T → x ∈ A) (hc : ∀ x y, Cn (adj A) x y ↔ Cn (adj T) x y) (hx : ((u : Int), (v : Int)) ∈ A) (hb : ¬ Go2 A u v) : ((u : Int), (v : Int)) ∈ T := by
  refine Classical.byContradiction fun hn => hb ?_
  have c : Cn (adj T) u v := (hc u v).1 (.edge (.inl hx))
  have h2 := hA _ hx
  simp only at h2
  refine c.mono fun p q e => ⟨e.elim (fun e => .inl (hs _ e)) (fun e => .inr (hs _ e)), ?_, ?_⟩
  · rintro ⟨rfl, rfl⟩
    rcases e with e | e
    · exact hn e
    · have := hA _ (hs _ e); simp only at this; omega
  · rintro ⟨rfl, rfl⟩
    rcases e with e | e
    · have := hA _ (hs _ e); simp only at this; omega
    · exact hn e
end
end Go.Proofs.YtckcbfnffmohgaaGreat
