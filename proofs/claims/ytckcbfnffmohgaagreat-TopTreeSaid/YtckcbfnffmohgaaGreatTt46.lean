/-
  Plain: no edges without a ring that join as much are lighter than the span; an edge of the span weighs what the neck between its nodes is. No program in sight.
-/
import Derived.Test.YtckcbfnffmohgaaGreatTt43
namespace Go.Proofs.YtckcbfnffmohgaaGreat.NK
open UF SS
set_option linter.unusedVariables false

/-- The nodes of edges that may be. -/
theorem OkH.nd {n : Nat} {L : List He} (h : OkH n L) {i : Nat} (hi : i < L.length) : (ndH L (i : Int)).1 < n ∧ (ndH L (i : Int)).2 < n ∧ (ndH L (i : Int)).1 < (ndH L (i : Int)).2 := by
  have := h.ok L[i] (List.getElem_mem hi)
  unfold ndH prH
  rw [Int.toNat_natCast, List.getD_eq_getElem?_getD, List.getElem?_eq_getElem hi]
  simp only [Option.getD_some]
  omega
theorem Ord.perm {L : List He} {f : Nat → Int} (h : Ord L f) : (spanH L).Perm (outF L f L.length) := by
  have hp := List.mergeSort_perm (outF L f L.length) (fun (x y : Int) => decide (x ≤ y))
  have hs := List.pairwise_mergeSort (le := fun (x y : Int) => decide (x ≤ y)) (fun a b c h1 h2 => by simp at *; omega) (fun a b => by simp; omega) (outF L f L.length)
  rw [← h.span (hs.imp fun h => by simpa using h) hp]
  exact hp
/-- What is taken up to a weight is what is taken up to a place. -/
theorem outF_filter {L : List He} {f : Nat → Int} {t : Int} {K : Nat} (hK : ∀ m, m < L.length → (m < K ↔ wtH L (f m) ≤ t)) : ∀ k, k ≤ L.length → (outF L f k).filter (fun x => decide (wtH L x ≤ t)) = outF L f (min k K)
  | 0, _ => by rw [Nat.zero_min, outF_zero]; rfl
  | k + 1, hk => by
    rw [outF_succ, List.filter_append, outF_filter hK k (by omega)]
    by_cases c : k < K
    · rw [show min (k + 1) K = k + 1 by omega, show min k K = k by omega, outF_succ]
      congr 1
      have := (hK k (by omega)).1 c
      split
      · rw [List.filter_cons_of_pos (by simpa using this)]; rfl
      · rfl
    · rw [show min (k + 1) K = min k K by omega]
      have : ¬ wtH L (f k) ≤ t := fun q => c ((hK k (by omega)).2 q)
      split
      · rw [List.filter_cons_of_neg (by simpa using this)]; simp
      · simp
theorem upN_map (L : List He) (t : Int) (xs : List Int) : upN t (xs.map (wtH L)) = ((xs.filter fun x => decide (wtH L x ≤ t)).length : Int) := by
  rw [upN_filter, List.filter_map, List.length_map]; rfl
theorem pf_le {L : List He} {f : Nat → Int} (h : Ord L f) {t : Int} {K : Nat} (hKl : K ≤ L.length) (hK : ∀ m, m < L.length → (m < K ↔ wtH L (f m) ≤ t)) {i : Nat} (hi : i < L.length) (hw : wtH L i ≤ t) : Con (pf L f K) (ndH L i).1 (ndH L i).2 := by
  obtain ⟨m, hm, e⟩ := h.all i hi
  exact .edge (mem_pf.2 ⟨m, (hK m hm).2 (by rw [e]; exact hw), by rw [e]⟩)
theorem least {n : Nat} {L : List He} (hok : OkH n L) {f : Nat → Int} (ho : Ord L f) {ks : List Int} (hi : Ind (ks.map (ndH L))) (hin : ∀ k ∈ ks, ∃ i : Nat, i < L.length ∧ (i : Int) = k) (hall : ∀ i : Nat, i < L.length → Con (ks.map (ndH L)) (ndH L i).1 (ndH L i).2) :
    ks.length = (spanH L).length ∧ ((spanH L).map (wtH L)).sum ≤ (ks.map (wtH L)).sum := by
  have hb : ∀ i : Nat, i < L.length → (ndH L i).1 < n ∧ (ndH L i).2 < n := fun i hi => ⟨(hok.nd hi).1, (hok.nd hi).2.1⟩
  have hbk : ∀ zs : List Int, (∀ k ∈ zs, ∃ i : Nat, i < L.length ∧ (i : Int) = k) → ∀ p ∈ zs.map (ndH L), p.1 < n ∧ p.2 < n := fun zs hz p hp => by
    obtain ⟨k, hk, rfl⟩ := List.mem_map.1 hp
    obtain ⟨i, h1, rfl⟩ := hz k hk
    exact hb i h1
  have hlen : ks.length = (spanH L).length := by
    obtain ⟨hs, a1, a2, a3⟩ := ho.rank hb L.length (Nat.le_refl _)
    obtain ⟨hs', b1, b2, b3⟩ := hi.rank (hbk ks hin)
    have := same_len a1 b1 fun x y _ _ => by
      rw [a2, b2, ho.whole]
      constructor
      · exact fun c => c.mono fun x y hm => by
          obtain ⟨i, h1, h2⟩ := mem_all.1 hm
          have := hall i h1
          rwa [h2] at this
      · exact Con.rev fun p hp => by
          obtain ⟨k, hk, rfl⟩ := List.mem_map.1 hp
          obtain ⟨i, h1, rfl⟩ := hin k hk
          exact mem_all.2 ⟨i, h1, rfl⟩
    rw [a3, b3, List.length_map] at this
    rw [← this, ho.perm.length_eq]
  refine ⟨hlen, sum_le 1000000 ?_ ?_ (by simp [hlen]) fun t => ?_⟩
  · intro x hx
    obtain ⟨k, hk, rfl⟩ := List.mem_map.1 hx
    obtain ⟨i, h1, _, rfl⟩ := mem_spanH.1 hk
    have := hok.ok L[i] (List.getElem_mem h1)
    unfold wtH
    rw [Int.toNat_natCast, List.getD_eq_getElem?_getD, List.getElem?_eq_getElem h1]
    simp only [Option.getD_some]; omega
  · intro x hx
    obtain ⟨k, hk, rfl⟩ := List.mem_map.1 hx
    obtain ⟨i, h1, rfl⟩ := hin k hk
    have := hok.ok L[i] (List.getElem_mem h1)
    unfold wtH
    rw [Int.toNat_natCast, List.getD_eq_getElem?_getD, List.getElem?_eq_getElem h1]
    simp only [Option.getD_some]; omega
  · rw [upN_map, upN_map]
    obtain ⟨K, k1, k2⟩ := ho.upto t
    have h1 : ((spanH L).filter fun x => decide (wtH L x ≤ t)).length = (outF L f K).length := by
      rw [(ho.perm.filter _).length_eq, outF_filter k2 L.length (Nat.le_refl _), Nat.min_eq_right k1]
    rw [h1]
    obtain ⟨hs, a1, a2, a3⟩ := ho.rank hb K k1
    have hsub : (ks.filter fun x => decide (wtH L x ≤ t)).Sublist ks := List.filter_sublist
    obtain ⟨hs', b1, b2, b3⟩ := (Ind.sub (hsub.map (ndH L)) hi).rank (hbk _ fun k hk => hin k (hsub.subset hk))
    have := rank_mono b1 a1 b2 (fun x y => a2 x y) fun x y hm => by
      obtain ⟨k, hk, e⟩ := List.mem_map.1 hm
      obtain ⟨hk1, hk2⟩ := List.mem_filter.1 hk
      obtain ⟨i, h1, rfl⟩ := hin k hk1
      have := pf_le ho k1 k2 h1 (of_decide_eq_true hk2)
      rwa [e] at this
    rw [b3, a3, List.length_map] at this
    omega
end Go.Proofs.YtckcbfnffmohgaaGreat.NK
