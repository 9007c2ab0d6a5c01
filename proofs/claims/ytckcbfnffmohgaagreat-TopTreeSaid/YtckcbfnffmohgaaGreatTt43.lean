/-
  Plain: which edges a span takes, as a row that rises; how many there are up to a weight; none that joins as much is lighter. No program in sight.
-/
import Derived.Test.YtckcbfnffmohgaaGreatTt40
namespace Go.Proofs.YtckcbfnffmohgaaGreat.NK
open UF SS
set_option linter.unusedVariables false

theorem rise_uniq : ∀ {l k : List Int}, l.Pairwise (· < ·) → k.Pairwise (· < ·) → (∀ x, x ∈ l ↔ x ∈ k) → l = k
  | [], [], _, _, _ => rfl
  | [], y :: k, _, _, h => by have := (h y).2 (List.mem_cons_self ..); cases this
  | x :: l, [], _, _, h => by have := (h x).1 (List.mem_cons_self ..); cases this
  | x :: l, y :: k, h1, h2, h => by
    obtain ⟨a1, a2⟩ := List.pairwise_cons.1 h1
    obtain ⟨b1, b2⟩ := List.pairwise_cons.1 h2
    have e : x = y := by
      rcases List.mem_cons.1 ((h x).1 (List.mem_cons_self ..)) with e | e
      · exact e
      rcases List.mem_cons.1 ((h y).2 (List.mem_cons_self ..)) with g | g
      · exact g.symm
      have := b1 x e; have := a1 y g; omega
    subst e
    rw [rise_uniq a2 b2 fun z => ?_]
    constructor
    · intro hz
      have := a1 z hz
      rcases List.mem_cons.1 ((h z).1 (List.mem_cons_of_mem _ hz)) with e | e
      · omega
      · exact e
    · intro hz
      have := b1 z hz
      rcases List.mem_cons.1 ((h z).2 (List.mem_cons_of_mem _ hz)) with e | e
      · omega
      · exact e

/-- The edges ahead of number i: lighter ones, and as light ones of a lesser number. -/
def ahB (L : List He) (i j : Nat) : Bool := decide (wtH L j < wtH L i) || (decide (wtH L j = wtH L i) && decide (j < i))
def ahH (L : List He) (i : Nat) : List (Nat × Nat) := ((List.range L.length).filter (ahB L i)).map fun j : Nat => ndH L (j : Int)
theorem ahB_iff {L : List He} {i j : Nat} : ahB L i j = true ↔ lx (wtH L) (j : Int) (i : Int) := by
  unfold ahB lx
  simp only [Bool.or_eq_true, Bool.and_eq_true, decide_eq_true_eq]
  omega
theorem mem_ahH {L : List He} {i : Nat} {p : Nat × Nat} : p ∈ ahH L i ↔ ∃ j : Nat, j < L.length ∧ lx (wtH L) (j : Int) (i : Int) ∧ ndH L j = p := by
  unfold ahH
  simp only [List.mem_map, List.mem_filter, List.mem_range, ahB_iff]
  constructor
  · rintro ⟨j, ⟨h1, h2⟩, h3⟩; exact ⟨j, h1, h2, h3⟩
  · rintro ⟨j, h1, h2, h3⟩; exact ⟨j, ⟨h1, h2⟩, h3⟩
/-- Number i is taken: no edges ahead of it join its nodes. -/
def Tk (L : List He) (i : Nat) : Prop := ¬ Con (ahH L i) (ndH L i).1 (ndH L i).2
noncomputable def tkB (L : List He) (i : Nat) : Bool := @decide (Tk L i) (Classical.propDecidable _)
theorem tkB_iff {L : List He} {i : Nat} : tkB L i = true ↔ Tk L i := by unfold tkB; exact @decide_eq_true_iff _ (Classical.propDecidable _)
theorem tkB_no {L : List He} {i : Nat} : tkB L i = false ↔ ¬ Tk L i := by
  rw [← tkB_iff]; cases tkB L i <;> simp
/-- What a span takes. -/
noncomputable def spanH (L : List He) : List Int := ((List.range L.length).filter (tkB L)).map fun i : Nat => (i : Int)
theorem mem_spanH {L : List He} {x : Int} : x ∈ spanH L ↔ ∃ i : Nat, i < L.length ∧ Tk L i ∧ (i : Int) = x := by
  unfold spanH
  simp only [List.mem_map, List.mem_filter, List.mem_range, tkB_iff]
  constructor
  · rintro ⟨i, ⟨h1, h2⟩, h3⟩; exact ⟨i, h1, h2, h3⟩
  · rintro ⟨i, h1, h2, h3⟩; exact ⟨i, ⟨h1, h2⟩, h3⟩
theorem spanH_rises (L : List He) : (spanH L).Pairwise (· < ·) := by
  unfold spanH
  rw [List.pairwise_map]
  exact (List.Pairwise.filter _ List.pairwise_lt_range).imp fun h => by omega
/-- At the k-th place of the order: what is ahead. -/
theorem Ord.ahead {L : List He} {f : Nat → Int} (h : Ord L f) {k i : Nat} (hk : k < L.length) (e : f k = (i : Int)) {x y : Nat} : Con (pf L f k) x y ↔ Con (ahH L i) x y := by
  constructor
  · refine fun c => c.mono fun x y hm => ?_
    obtain ⟨m, hm1, hn⟩ := mem_pf.1 hm
    obtain ⟨j, hj⟩ := Int.eq_ofNat_of_zero_le (h.in_ m (by omega)).1
    have h2 := (h.in_ m (by omega)).2
    have hlx := h.so m k (Nat.zero_le _) hm1 hk
    rw [hj] at hn h2 hlx
    rw [e] at hlx
    exact .edge (mem_ahH.2 ⟨j, by omega, hlx, hn⟩)
  · refine fun c => c.mono fun x y hm => ?_
    obtain ⟨j, hj, hl, hn⟩ := mem_ahH.1 hm
    obtain ⟨m, hm1, hm2⟩ := h.all j hj
    refine .edge (mem_pf.2 ⟨m, ?_, by rw [hm2]; exact hn⟩)
    rcases Nat.lt_trichotomy m k with q | q | q
    · exact q
    · subst q; rw [hm2] at e; rw [e] at hl; exact absurd hl (lx_irrefl _ _)
    · have h2 := h.so k m (Nat.zero_le _) q hm1
      rw [hm2, e] at h2
      exact (lx_asymm hl h2).elim
theorem Ord.inj {L : List He} {f : Nat → Int} (h : Ord L f) {i j : Nat} (hi : i < j) (hj : j < L.length) : f i ≠ f j := fun e => by
  have := h.so i j (Nat.zero_le _) hi hj
  rw [e] at this
  exact lx_irrefl _ _ this
/-- What was taken up to a place of the order. -/
noncomputable def outF (L : List He) (f : Nat → Int) (k : Nat) : List Int := ((List.range k).map f).filter fun x => tkB L x.toNat
theorem outF_zero (L : List He) (f : Nat → Int) : outF L f 0 = [] := rfl
theorem outF_succ (L : List He) (f : Nat → Int) (k : Nat) : outF L f (k + 1) = outF L f k ++ if tkB L (f k).toNat then [f k] else [] := by
  unfold outF
  rw [List.range_succ, List.map_append, List.filter_append]
  simp only [List.map_cons, List.map_nil, List.filter_cons, List.filter_nil]
theorem outF_yes {L : List He} {f : Nat → Int} {k : Nat} (h : Tk L (f k).toNat) : outF L f (k + 1) = outF L f k ++ [f k] := by
  rw [outF_succ, if_pos (tkB_iff.2 h)]
theorem outF_no {L : List He} {f : Nat → Int} {k : Nat} (h : ¬ Tk L (f k).toNat) : outF L f (k + 1) = outF L f k := by
  rw [outF_succ, tkB_no.2 h]; simp
theorem outF_len (L : List He) (f : Nat → Int) (k : Nat) : (outF L f k).length ≤ k := by
  unfold outF
  refine Nat.le_trans (List.length_filter_le _ _) ?_
  simp
theorem Ord.span {L : List He} {f : Nat → Int} (h : Ord L f) {xs : List Int} (h1 : xs.Pairwise (· ≤ ·)) (h2 : List.Perm xs (outF L f L.length)) : xs = spanH L := by
  have hnd : (outF L f L.length).Nodup := by
    unfold outF
    refine List.Nodup.sublist (List.filter_sublist) ?_
    unfold List.Nodup
    rw [List.pairwise_map]
    refine (List.pairwise_lt_range (n := L.length)).imp_of_mem fun {a b} ha hb hab => ?_
    exact h.inj hab (by simpa using hb)
  have hnx : xs.Nodup := h2.nodup_iff.2 hnd
  refine rise_uniq ?_ (spanH_rises L) fun x => ?_
  · have := h1.and hnx
    exact this.imp fun ⟨p, q⟩ => by omega
  · rw [h2.mem_iff, mem_spanH]
    unfold outF
    simp only [List.mem_filter, List.mem_map, List.mem_range, tkB_iff]
    constructor
    · rintro ⟨⟨m, hm, rfl⟩, ht⟩
      obtain ⟨q1, q2⟩ := h.in_ m hm
      exact ⟨(f m).toNat, by omega, ht, by omega⟩
    · rintro ⟨i, hi, ht, rfl⟩
      obtain ⟨m, hm, e⟩ := h.all i hi
      exact ⟨⟨m, hm, e⟩, by simpa using ht⟩

/-! ### Ranks -/
theorem cnt_mono {n : Nat} {p q : Nat → Bool} (h : ∀ x, x < n → p x = true → q x = true) : cnt n p ≤ cnt n q := by
  induction n with
  | zero => simp [cnt]
  | succ n ih =>
    have := ih fun x hx => h x (by omega)
    simp only [cnt]
    have h2 := h n (by omega)
    cases hp : p n with
    | false => simp; omega
    | true => simp [h2 hp]; omega
theorem rank_mono {n : Nat} {hs ks : Hs} {es fs : List (Nat × Nat)} (h : Ok n hs) (k : Ok n ks) (t : Tells hs es) (u : Tells ks fs) (hm : ∀ x y, (x, y) ∈ es → Con fs x y) : hs.length ≤ ks.length := by
  have h1 := leads h; have h2 := leads k
  have : cnt n (lead (rt ks)) ≤ cnt n (lead (rt hs)) := cnt_mono fun x hx hl => by
    rw [lead_iff] at hl ⊢
    intro y hy e
    exact hl y hy ((u _ _).2 (((t _ _).1 e).mono hm))
  omega
/-- Each edge joins something new. -/
def Ind : List (Nat × Nat) → Prop
  | [] => True
  | p :: es => Ind es ∧ ¬ Con es p.1 p.2
theorem Con.rev {es fs : List (Nat × Nat)} (h : ∀ p, p ∈ es → p ∈ fs) {x y : Nat} (c : Con es x y) : Con fs x y := c.mono fun x y hm => .edge (h _ hm)
theorem Ind.rank {n : Nat} : ∀ {es : List (Nat × Nat)}, Ind es → (∀ p ∈ es, p.1 < n ∧ p.2 < n) → ∃ hs, Ok n hs ∧ Tells hs es ∧ hs.length = es.length
  | [], _, _ => ⟨[], trivial, tells_nil, rfl⟩
  | p :: es, h, hb => by
    obtain ⟨hs, h1, h2, h3⟩ := Ind.rank h.1 (fun q hq => hb q (List.mem_cons_of_mem _ hq))
    obtain ⟨q1, q2⟩ := hb p (List.mem_cons_self ..)
    refine ⟨join hs p.1 p.2, join_ok h1 q1 q2, fun x y => ?_, ?_⟩
    · rw [tells_join h2 p.1 p.2 x y]
      constructor
      · exact Con.rev fun q hq => by
          rcases List.mem_append.1 hq with e | e
          · exact List.mem_cons_of_mem _ e
          · obtain rfl : q = p := by simpa using e
            exact List.mem_cons_self ..
      · exact Con.rev fun q hq => by
          rcases List.mem_cons.1 hq with e | e
          · subst e; exact List.mem_append_right _ (by simp)
          · exact List.mem_append_left _ e
    · rw [join_len, if_neg fun e => h.2 ((h2 _ _).1 e), h3]; rfl
theorem Ind.sub : ∀ {es fs : List (Nat × Nat)}, fs.Sublist es → Ind es → Ind fs
  | _, _, .slnil, _ => trivial
  | _, _, .cons _ h, hi => Ind.sub h hi.1
  | _, _, .cons_cons _ h, hi => ⟨Ind.sub h hi.1, fun c => hi.2 (Con.rev (fun p hp => h.subset hp) c)⟩
/-- The union behind k edges, and how many of them it took. -/
theorem Ord.rank {L : List He} {f : Nat → Int} (h : Ord L f) {n : Nat} (hb : ∀ i : Nat, i < L.length → (ndH L i).1 < n ∧ (ndH L i).2 < n) : ∀ k, k ≤ L.length → ∃ hs, Ok n hs ∧ Uk L f k hs ∧ hs.length = (outF L f k).length
  | 0, _ => ⟨[], trivial, Uk.start L f, rfl⟩
  | k + 1, hk => by
    obtain ⟨hs, h1, h2, h3⟩ := Ord.rank h hb k (by omega)
    obtain ⟨j, hj⟩ := Int.eq_ofNat_of_zero_le (h.in_ k (by omega)).1
    have hj2 := (h.in_ k (by omega)).2
    rw [hj] at hj2
    have hbj := hb j (by omega)
    rw [← hj] at hbj
    refine ⟨join hs (ndH L (f k)).1 (ndH L (f k)).2, join_ok h1 hbj.1 hbj.2, h2.step, ?_⟩
    have hiff : rt hs (ndH L (f k)).1 = rt hs (ndH L (f k)).2 ↔ ¬ Tk L (f k).toNat := by
      rw [h2, h.ahead (i := j) (by omega) hj, hj]
      unfold Tk
      simp only [Int.toNat_natCast]
      exact Classical.not_not.symm
    rw [join_len]
    by_cases c : Tk L (f k).toNat
    · rw [if_neg fun e => hiff.1 e c, outF_yes c, h3]; simp
    · rw [if_pos (hiff.2 c), outF_no c, h3]
/-- Up to a weight: a first stretch of the order. -/
theorem Ord.upto {L : List He} {f : Nat → Int} (h : Ord L f) (t : Int) : ∃ K, K ≤ L.length ∧ ∀ m, m < L.length → (m < K ↔ wtH L (f m) ≤ t) := by
  have : ∀ k, k ≤ L.length → ∃ K, K ≤ k ∧ ∀ m, m < k → (m < K ↔ wtH L (f m) ≤ t) := by
    intro k
    induction k with
    | zero => exact fun _ => ⟨0, Nat.le_refl _, fun m hm => by omega⟩
    | succ k ih =>
      intro hk
      obtain ⟨K, k1, k2⟩ := ih (by omega)
      by_cases c : wtH L (f k) ≤ t
      · refine ⟨k + 1, Nat.le_refl _, fun m hm => ⟨fun _ => ?_, fun _ => hm⟩⟩
        have := h.le (show m ≤ k by omega) (by omega)
        omega
      · refine ⟨K, by omega, fun m hm => ?_⟩
        by_cases e : m = k
        · subst e; constructor
          · intro q; omega
          · intro q; exact absurd q c
        · exact k2 m (by omega)
  exact this L.length (Nat.le_refl _)

/-! ### Sums -/
def capS (M : Int) : List Int → Int
  | [] => 0
  | x :: l => min x M + capS M l
def upN (M : Int) : List Int → Int
  | [] => 0
  | x :: l => (if x ≤ M then 1 else 0) + upN M l
theorem capS_succ (M : Int) : ∀ l : List Int, capS (M + 1) l = capS M l + ((l.length : Int) - upN M l)
  | [] => rfl
  | x :: l => by
    simp only [capS, upN, List.length_cons, capS_succ M l]
    split <;> omega
theorem capS_zero : ∀ {l : List Int}, (∀ x ∈ l, 0 ≤ x) → capS 0 l = 0
  | [], _ => rfl
  | x :: l, h => by
    have := h x (List.mem_cons_self ..)
    rw [capS, capS_zero fun y hy => h y (List.mem_cons_of_mem _ hy)]
    omega
theorem capS_all {M : Int} : ∀ {l : List Int}, (∀ x ∈ l, x ≤ M) → capS M l = l.sum
  | [], _ => rfl
  | x :: l, h => by
    have := h x (List.mem_cons_self ..)
    rw [capS, capS_all fun y hy => h y (List.mem_cons_of_mem _ hy), List.sum_cons]
    omega
/-- Of two lists of as many weights the one that has, up to each weight, no fewer, is no heavier. -/
theorem sum_le {a b : List Int} (M : Nat) (ha : ∀ x ∈ a, 0 ≤ x ∧ x ≤ (M : Int)) (hb : ∀ x ∈ b, 0 ≤ x ∧ x ≤ (M : Int)) (hl : a.length = b.length) (hu : ∀ t : Int, upN t b ≤ upN t a) : a.sum ≤ b.sum := by
  have key : ∀ k : Nat, capS (k : Int) a ≤ capS (k : Int) b := by
    intro k
    induction k with
    | zero => rw [show ((0 : Nat) : Int) = 0 by rfl, capS_zero fun x hx => (ha x hx).1, capS_zero fun x hx => (hb x hx).1]; exact Int.le_refl _
    | succ k ih =>
      have := hu k
      rw [show ((k + 1 : Nat) : Int) = (k : Int) + 1 by omega, capS_succ, capS_succ]
      omega
  have := key M
  rwa [capS_all fun x hx => (ha x hx).2, capS_all fun x hx => (hb x hx).2] at this
theorem upN_filter (t : Int) : ∀ l : List Int, upN t l = ((l.filter fun x => decide (x ≤ t)).length : Int)
  | [] => rfl
  | x :: l => by
    rw [upN, upN_filter t l, List.filter_cons]
    by_cases c : x ≤ t
    · rw [if_pos c, if_pos (by simpa using c)]; simp; omega
    · rw [if_neg c, if_neg (by simpa using c)]; omega
end Go.Proofs.YtckcbfnffmohgaaGreat.NK
