/-
  Plain: no edges without a ring that join as much are lighter than the span; an edge of the span weighs what the neck between its nodes is. No program in sight.
  Plain mathematics of rows that are trees, balanced by weight. No program in sight. No conditions.
-/
import Derived.Test.YtckcbfnffmohgaaNk2
namespace Go.Proofs.Ytckcbfnffmohgaa.NK
open UF SS
set_option linter.unusedVariables false

/-- The nodes of edges that may be. -/
theorem OkH.nd {n : Nat} {L : List He} (h : OkH n L) {i : Nat} (hi : i < L.length) : (ndH L (i : Int)).1 < n ∧ (ndH L (i : Int)).2 < n ∧ (ndH L (i : Int)).1 < (ndH L (i : Int)).2 := by
  have := h.ok L[i] (List.getElem_mem hi)
  unfold ndH prH
  rw [Int.toNat_natCast, List.getD_eq_getElem?_getD, List.getElem?_eq_getElem hi]
  simp only [Option.getD_some]
  omega
theorem Ord.perm {L : List He} {f : Nat → Int} (h : Ord L f) : (spanH L).Perm (outF L f L.length) := by
  have hp := List.mergeSort_perm (outF L f L.length) (fun (x y : Int) => decide (x ≤ y))
  have hs := List.pairwise_mergeSort (le := fun (x y : Int) => decide (x ≤ y)) (fun a b c h1 h2 => by simp at *; omega) (fun a b => by simp; omega) (outF L f L.length)
  rw [← h.span (hs.imp fun h => by simpa using h) hp]
  exact hp
/-- What is taken up to a weight is what is taken up to a place. -/
theorem outF_filter {L : List He} {f : Nat → Int} {t : Int} {K : Nat} (hK : ∀ m, m < L.length → (m < K ↔ wtH L (f m) ≤ t)) : ∀ k, k ≤ L.length → (outF L f k).filter (fun x => decide (wtH L x ≤ t)) = outF L f (min k K)
  | 0, _ => by rw [Nat.zero_min, outF_zero]; rfl
  | k + 1, hk => by
    rw [outF_succ, List.filter_append, outF_filter hK k (by omega)]
    by_cases c : k < K
    · rw [show min (k + 1) K = k + 1 by omega, show min k K = k by omega, outF_succ]
      congr 1
      have := (hK k (by omega)).1 c
      split
      · rw [List.filter_cons_of_pos (by simpa using this)]; rfl
      · rfl
    · rw [show min (k + 1) K = min k K by omega]
      have : ¬ wtH L (f k) ≤ t := fun q => c ((hK k (by omega)).2 q)
      split
      · rw [List.filter_cons_of_neg (by simpa using this)]; simp
      · simp
theorem upN_map (L : List He) (t : Int) (xs : List Int) : upN t (xs.map (wtH L)) = ((xs.filter fun x => decide (wtH L x ≤ t)).length : Int) := by
  rw [upN_filter, List.filter_map, List.length_map]; rfl
theorem pf_le {L : List He} {f : Nat → Int} (h : Ord L f) {t : Int} {K : Nat} (hKl : K ≤ L.length) (hK : ∀ m, m < L.length → (m < K ↔ wtH L (f m) ≤ t)) {i : Nat} (hi : i < L.length) (hw : wtH L i ≤ t) : Con (pf L f K) (ndH L i).1 (ndH L i).2 := by
  obtain ⟨m, hm, e⟩ := h.all i hi
  exact .edge (mem_pf.2 ⟨m, (hK m hm).2 (by rw [e]; exact hw), by rw [e]⟩)
theorem least {n : Nat} {L : List He} (hok : OkH n L) {f : Nat → Int} (ho : Ord L f) {ks : List Int} (hi : Ind (ks.map (ndH L))) (hin : ∀ k ∈ ks, ∃ i : Nat, i < L.length ∧ (i : Int) = k) (hall : ∀ i : Nat, i < L.length → Con (ks.map (ndH L)) (ndH L i).1 (ndH L i).2) :
    ks.length = (spanH L).length ∧ ((spanH L).map (wtH L)).sum ≤ (ks.map (wtH L)).sum := by
  have hb : ∀ i : Nat, i < L.length → (ndH L i).1 < n ∧ (ndH L i).2 < n := fun i hi => ⟨(hok.nd hi).1, (hok.nd hi).2.1⟩
  have hbk : ∀ zs : List Int, (∀ k ∈ zs, ∃ i : Nat, i < L.length ∧ (i : Int) = k) → ∀ p ∈ zs.map (ndH L), p.1 < n ∧ p.2 < n := fun zs hz p hp => by
    obtain ⟨k, hk, rfl⟩ := List.mem_map.1 hp
    obtain ⟨i, h1, rfl⟩ := hz k hk
    exact hb i h1
  have hlen : ks.length = (spanH L).length := by
    obtain ⟨hs, a1, a2, a3⟩ := ho.rank hb L.length (Nat.le_refl _)
    obtain ⟨hs', b1, b2, b3⟩ := hi.rank (hbk ks hin)
    have := same_len a1 b1 fun x y _ _ => by
      rw [a2, b2, ho.whole]
      constructor
      · exact fun c => c.mono fun x y hm => by
          obtain ⟨i, h1, h2⟩ := mem_all.1 hm
          have := hall i h1
          rwa [h2] at this
      · exact Con.rev fun p hp => by
          obtain ⟨k, hk, rfl⟩ := List.mem_map.1 hp
          obtain ⟨i, h1, rfl⟩ := hin k hk
          exact mem_all.2 ⟨i, h1, rfl⟩
    rw [a3, b3, List.length_map] at this
    rw [← this, ho.perm.length_eq]
  refine ⟨hlen, sum_le 1000000 ?_ ?_ (by simp [hlen]) fun t => ?_⟩
  · intro x hx
    obtain ⟨k, hk, rfl⟩ := List.mem_map.1 hx
    obtain ⟨i, h1, _, rfl⟩ := mem_spanH.1 hk
    have := hok.ok L[i] (List.getElem_mem h1)
    unfold wtH
    rw [Int.toNat_natCast, List.getD_eq_getElem?_getD, List.getElem?_eq_getElem h1]
    simp only [Option.getD_some]; omega
  · intro x hx
    obtain ⟨k, hk, rfl⟩ := List.mem_map.1 hx
    obtain ⟨i, h1, rfl⟩ := hin k hk
    have := hok.ok L[i] (List.getElem_mem h1)
    unfold wtH
    rw [Int.toNat_natCast, List.getD_eq_getElem?_getD, List.getElem?_eq_getElem h1]
    simp only [Option.getD_some]; omega
  · rw [upN_map, upN_map]
    obtain ⟨K, k1, k2⟩ := ho.upto t
    have h1 : ((spanH L).filter fun x => decide (wtH L x ≤ t)).length = (outF L f K).length := by
      rw [(ho.perm.filter _).length_eq, outF_filter k2 L.length (Nat.le_refl _), Nat.min_eq_right k1]
    rw [h1]
    obtain ⟨hs, a1, a2, a3⟩ := ho.rank hb K k1
    have hsub : (ks.filter fun x => decide (wtH L x ≤ t)).Sublist ks := List.filter_sublist
    obtain ⟨hs', b1, b2, b3⟩ := (Ind.sub (hsub.map (ndH L)) hi).rank (hbk _ fun k hk => hin k (hsub.subset hk))
    have := rank_mono b1 a1 b2 (fun x y => a2 x y) fun x y hm => by
      obtain ⟨k, hk, e⟩ := List.mem_map.1 hm
      obtain ⟨hk1, hk2⟩ := List.mem_filter.1 hk
      obtain ⟨i, h1, rfl⟩ := hin k hk1
      have := pf_le ho k1 k2 h1 (of_decide_eq_true hk2)
      rwa [e] at this
    rw [b3, a3, List.length_map] at this
    omega
/-- An edge of the span weighs what the neck is. -/
theorem span_nk {n : Nat} {L : List He} (hok : OkH n L) {f : Nat → Int} (ho : Ord L f) {i : Nat} (hi : i < L.length) (ht : Tk L i) : Nk L (ndH L i).1 (ndH L i).2 (wtH L i) := by
  obtain ⟨m, hm, e⟩ := ho.all i hi
  rw [← e]
  refine ho.neck hm ?_ ?_
  · rw [ho.ahead hm e, e]; exact ht
  · exact .edge (mem_pf.2 ⟨m, by omega, rfl⟩)
theorem le_edge {L : List He} {i : Nat} (hi : i < L.length) : Con (L.map prH) (ndH L i).1 (ndH L i).2 := .edge (mem_all.2 ⟨i, hi, rfl⟩)
end Go.Proofs.Ytckcbfnffmohgaa.NK
namespace SQ
inductive T where
  | nil
  | node (l : T) (x : Int) (r : T)
def T.size : T → Nat
  | nil => 0
  | node l _ r => l.size + 1 + r.size
def T.list : T → List Int
  | nil => []
  | node l x r => l.list ++ x :: r.list
def T.depth : T → Nat
  | nil => 0
  | node l _ r => 1 + max l.depth r.depth
theorem T.len : ∀ t : T, t.list.length = t.size
  | nil => rfl
  | node l x r => by simp [list, size, len l, len r]; omega
theorem T.depth_le : ∀ t : T, t.depth ≤ t.size
  | nil => Nat.le_refl _
  | node l x r => by have := depth_le l; have := depth_le r; simp only [depth, size]; omega
def hv (a b : T) : Bool := decide (3 * (b.size + 1) < a.size + 1)
def sg (a b : T) : Bool := decide (a.size + 1 < 2 * (b.size + 1))
/-- Neither branch is too heavy, anywhere. -/
def Bal : T → Prop
  | .nil => True
  | .node l _ r => Bal l ∧ Bal r ∧ l.size + 1 ≤ 3 * (r.size + 1) ∧ r.size + 1 ≤ 3 * (l.size + 1)

/-- What balance makes. -/
inductive BalR : T → Int → T → T → Prop
  | sr {l x rl rx rr} (h : hv (.node rl rx rr) l = true) (s : sg rl rr = true) : BalR l x (.node rl rx rr) (.node (.node l x rl) rx rr)
  | dr {l x a y b rx rr} (h : hv (.node (.node a y b) rx rr) l = true) (s : sg (.node a y b) rr = false) : BalR l x (.node (.node a y b) rx rr) (.node (.node l x a) y (.node b rx rr))
  | sl {ll lx lr x r} (g : hv r (.node ll lx lr) = false) (h : hv (.node ll lx lr) r = true) (s : sg lr ll = true) : BalR (.node ll lx lr) x r (.node ll lx (.node lr x r))
  | dl {ll lx a y b x r} (g : hv r (.node ll lx (.node a y b)) = false) (h : hv (.node ll lx (.node a y b)) r = true) (s : sg (.node a y b) ll = false) : BalR (.node ll lx (.node a y b)) x r (.node (.node ll lx a) y (.node b x r))
  | no {l x r} (g : hv r l = false) (h : hv l r = false) : BalR l x r (.node l x r)
theorem BalR.list {l r t : T} {x : Int} (h : BalR l x r t) : t.list = l.list ++ x :: r.list := by
  cases h <;> simp [T.list]
theorem BalR.size {l r t : T} {x : Int} (h : BalR l x r t) : t.size = l.size + 1 + r.size := by
  have := h.list; have e := congrArg List.length this; simp [T.len] at e; omega
/-- A branch may be a little too heavy. -/
theorem BalR.bal {l r t : T} {x : Int} (h : BalR l x r t) (hl : Bal l) (hr : Bal r) (h1 : 3 * (l.size + 1) ≤ 13 * (r.size + 1)) (h2 : 3 * (r.size + 1) ≤ 13 * (l.size + 1) ∨ r.size + 1 ≤ 3 * (l.size + 2)) : Bal t := by
  cases h with
  | sr h s =>
    obtain ⟨b1, b2, b3, b4⟩ := hr
    simp only [hv, sg, decide_eq_true_eq] at h s
    simp only [T.size] at h h1 h2
    exact ⟨⟨hl, b1, by omega, by omega⟩, b2, by simp only [T.size]; omega, by simp only [T.size]; omega⟩
  | dr h s =>
    obtain ⟨⟨c1, c2, c3, c4⟩, b2, b3, b4⟩ := hr
    simp only [hv, sg, decide_eq_true_eq, decide_eq_false_iff_not] at h s
    simp only [T.size] at h s h1 h2 b3 b4
    exact ⟨⟨hl, c1, by omega, by omega⟩, ⟨c2, b2, by omega, by omega⟩, by simp only [T.size]; omega, by simp only [T.size]; omega⟩
  | sl g h s =>
    obtain ⟨b1, b2, b3, b4⟩ := hl
    simp only [hv, sg, decide_eq_true_eq] at h s
    simp only [T.size] at h h1 h2
    exact ⟨b1, ⟨b2, hr, by omega, by omega⟩, by simp only [T.size]; omega, by simp only [T.size]; omega⟩
  | dl g h s =>
    obtain ⟨b1, ⟨c1, c2, c3, c4⟩, b3, b4⟩ := hl
    simp only [hv, sg, decide_eq_true_eq, decide_eq_false_iff_not] at h s
    simp only [T.size] at h s h1 h2 b3 b4
    exact ⟨⟨b1, c1, by omega, by omega⟩, ⟨c2, hr, by omega, by omega⟩, by simp only [T.size]; omega, by simp only [T.size]; omega⟩
  | no g h =>
    simp only [hv, decide_eq_false_iff_not] at g h
    exact ⟨hl, hr, by omega, by omega⟩
/-- Where balance turns, there are branches to turn. -/
theorem hv_node {a b : T} (h : hv a b = true) : ∃ l x r, a = .node l x r := by
  cases a with
  | nil => simp [hv, T.size] at h
  | node l x r => exact ⟨l, x, r, rfl⟩
theorem sg_node {a b : T} (h : sg a b = false) : ∃ l x r, a = .node l x r := by
  cases a with
  | nil => simp [sg, T.size] at h; omega
  | node l x r => exact ⟨l, x, r, rfl⟩

/-- What link makes. -/
inductive LinkR : T → Int → T → T → Prop
  | r {l x rl rx rr t u} (h : hv (.node rl rx rr) l = true) (k : LinkR l x rl t) (b : BalR t rx rr u) : LinkR l x (.node rl rx rr) u
  | l {ll lx lr x r t u} (g : hv r (.node ll lx lr) = false) (h : hv (.node ll lx lr) r = true) (k : LinkR lr x r t) (b : BalR ll lx t u) : LinkR (.node ll lx lr) x r u
  | no {l x r} (g : hv r l = false) (h : hv l r = false) : LinkR l x r (.node l x r)
theorem LinkR.list {l r t : T} {x : Int} (h : LinkR l x r t) : t.list = l.list ++ x :: r.list := by
  induction h with
  | r h k b ih => rw [b.list, ih]; simp [T.list]
  | l g h k b ih => rw [b.list, ih]; simp [T.list]
  | no g h => simp [T.list]
theorem LinkR.size {l r t : T} {x : Int} (h : LinkR l x r t) : t.size = l.size + 1 + r.size := by
  have e := congrArg List.length h.list; simp [T.len] at e; omega
theorem LinkR.bal {l r t : T} {x : Int} (h : LinkR l x r t) (hl : Bal l) (hr : Bal r) : Bal t := by
  induction h with
  | r h k b ih =>
    obtain ⟨b1, b2, b3, b4⟩ := hr
    have hs := k.size
    simp only [hv, decide_eq_true_eq] at h
    simp only [T.size] at h
    exact b.bal (ih hl b1) b2 (by omega) (.inl (by omega))
  | l g h k b ih =>
    obtain ⟨b1, b2, b3, b4⟩ := hl
    have hs := k.size
    simp only [hv, decide_eq_true_eq] at h
    simp only [T.size] at h
    exact b.bal b1 (ih b2 hr) (by omega) (.inl (by omega))
  | no g h =>
    simp only [hv, decide_eq_false_iff_not] at g h
    exact ⟨hl, hr, by omega, by omega⟩
/-- What first makes. -/
inductive FirstR : T → Int → T → Prop
  | no {x r} : FirstR (.node .nil x r) x r
  | go {ll lx lr x r y t u} (k : FirstR (.node ll lx lr) y t) (b : BalR t x r u) : FirstR (.node (.node ll lx lr) x r) y u
theorem FirstR.list {s t : T} {x : Int} (h : FirstR s x t) : s.list = x :: t.list := by
  induction h with
  | no => simp [T.list]
  | go k b ih => rw [b.list]; simp only [T.list] at ih ⊢; rw [ih]; simp
theorem FirstR.size {s t : T} {x : Int} (h : FirstR s x t) : s.size = t.size + 1 := by
  have e := congrArg List.length h.list; simpa [T.len] using e
theorem FirstR.bal {s t : T} {x : Int} (h : FirstR s x t) (hs : Bal s) : Bal t := by
  induction h with
  | no => exact hs.2.1
  | go k b ih =>
    obtain ⟨b1, b2, b3, b4⟩ := hs
    have e := k.size
    exact b.bal (ih b1) b2 (by omega) (.inr (by omega))
/-- The depth of what is balanced. -/
theorem bal_depth : ∀ (k : Nat) (t : T), Bal t → 3 * k < t.depth → 2 ^ k < t.size + 1
  | 0, t, _, hd => by
    cases t with
    | nil => simp [T.depth] at hd
    | node l x r => simp only [T.size]; omega
  | k + 1, t, hb, hd => by
    have step : ∀ (u : T) (d : Nat), Bal u → d + 1 < u.depth + 1 → 0 < u.depth → d < u.depth → ∃ v : T, Bal v ∧ d ≤ v.depth ∧ 4 * (v.size + 1) ≤ 3 * (u.size + 1) := by
      intro u d hu h1 h2 h3
      cases u with
      | nil => simp [T.depth] at h2
      | node l x r =>
        obtain ⟨b1, b2, b3, b4⟩ := hu
        simp only [T.depth] at h3
        by_cases hc : l.depth ≤ r.depth
        · exact ⟨r, b2, by omega, by simp only [T.size]; omega⟩
        · exact ⟨l, b1, by omega, by simp only [T.size]; omega⟩
    obtain ⟨v1, c1, c2, c3⟩ := step t (3 * k + 3) hb (by omega) (by omega) (by omega)
    obtain ⟨v2, d1, d2, d3⟩ := step v1 (3 * k + 2) c1 (by omega) (by omega) (by omega)
    obtain ⟨v3, e1, e2, e3⟩ := step v2 (3 * k + 1) d1 (by omega) (by omega) (by omega)
    have := bal_depth k v3 e1 (by omega)
    rw [Nat.pow_succ]
    omega
end SQ
