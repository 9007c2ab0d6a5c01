/-
  Ways and distances there and back, in plain Lean. No program in sight.
-/
import Derived.Test.YtakjakglkfhaaaaDoorPq
namespace Go.Proofs.YtakjakglkfhaaaaDoor
open Go
set_option linter.unusedVariables false
namespace PD

/-- From a node back to the first. -/
theorem dist_back {n : Nat} {l : List Ed} {a b : Nat} {d e : List Int} (h : IsDist n l a d) (k : IsDist n l b e) : ∀ (t v : Nat), v < n → g d v = (t : Int) → 0 ≤ g e v → 0 ≤ g e a ∧ g e a ≤ g e v + t
  | 0, v, hv, ht, h0 => by
    have := h.src v hv (by simpa using ht)
    subst this
    exact ⟨h0, by simp⟩
  | t + 1, v, hv, ht, h0 => by
    obtain ⟨u, hu, hadj, he⟩ := h.prev v hv (by omega)
    have h1 := k.edge v u hv hu (adj_symm hadj) h0
    have ih := dist_back h k t u hu (by omega) h1.1
    exact ⟨ih.1, by omega⟩
/-- From the first on to a node. -/
theorem dist_on {n : Nat} {l : List Ed} {a b : Nat} {d e : List Int} (h : IsDist n l a d) (k : IsDist n l b e) (h0 : 0 ≤ g e a) : ∀ (t v : Nat), v < n → g d v = (t : Int) → 0 ≤ g e v ∧ g e v ≤ g e a + t
  | 0, v, hv, ht => by
    have := h.src v hv (by simpa using ht)
    subst this
    exact ⟨h0, by simp⟩
  | t + 1, v, hv, ht => by
    obtain ⟨u, hu, hadj, he⟩ := h.prev v hv (by omega)
    have ih := dist_on h k h0 t u hu (by omega)
    have h1 := k.edge u v hu hv hadj ih.1
    exact ⟨h1.1, by omega⟩
theorem dist_symm {n : Nat} {l : List Ed} {a b : Nat} {d e : List Int} (h : IsDist n l a d) (k : IsDist n l b e) : g d b = g e a := by
  have r1 := h.rng b k.an
  have r2 := k.rng a h.an
  have z1 := h.zero
  have z2 := k.zero
  by_cases h1 : 0 ≤ g d b
  · obtain ⟨t, ht⟩ := Int.eq_ofNat_of_zero_le h1
    have q1 := dist_back h k t b k.an ht (by omega)
    obtain ⟨s, hs⟩ := Int.eq_ofNat_of_zero_le q1.1
    have q2 := dist_back k h s a h.an hs (by omega)
    omega
  · by_cases h2 : 0 ≤ g e a
    · obtain ⟨s, hs⟩ := Int.eq_ofNat_of_zero_le h2
      have q2 := dist_back k h s a h.an hs (by omega)
      omega
    · omega
theorem dist_tri {n : Nat} {l : List Ed} {a b c : Nat} {d f : List Int} (h : IsDist n l a d) (k : IsDist n l b f) (hc : c < n) (hb : 0 ≤ g d b) (h0 : 0 ≤ g d c) : g d c ≤ g d b + g f c := by
  have hs := dist_symm h k
  obtain ⟨t, ht⟩ := Int.eq_ofNat_of_zero_le h0
  have h1 := dist_on h k (by omega) t c hc ht
  obtain ⟨s, hs2⟩ := Int.eq_ofNat_of_zero_le h1.1
  have h2 := dist_on k h hb s c hc hs2
  omega
theorem dist_step {n : Nat} {l : List Ed} {a u v : Nat} {d : List Int} (h : IsDist n l a d) (hu : u < n) (hv : v < n) (hadj : adj l u v) : (g d u < 0 ↔ g d v < 0) ∧ g d u - g d v ≤ 1 ∧ g d v - g d u ≤ 1 := by
  have r1 := h.rng u hu
  have r2 := h.rng v hv
  have e1 := h.edge u v hu hv hadj
  have e2 := h.edge v u hv hu (adj_symm hadj)
  omega
/-- A way's nodes: each is nearer by one than that before. -/
theorem Way.at {n : Nat} {l : List Ed} {d : List Int} {x : Nat} {p : List Nat} (hw : Way n l d x p) : x < n → p[0]? = some x ∧ (p.length : Int) = g d x + 1 ∧ ∀ (i z : Nat), p[i]? = some z → z < n ∧ g d z = g d x - (i : Int) := by
  induction hw with
  | @stop x h => exact fun hx => ⟨rfl, by simp [h], fun i z hz => by
      match i, hz with
      | 0, hz => simp at hz; subst hz; exact ⟨hx, by simp⟩⟩
  | @go x c p h hn hw ih =>
    intro hx
    obtain ⟨h1, h2, h3⟩ := ih hn.lt
    refine ⟨rfl, by simp; have := hn.val; omega, fun i z hz => ?_⟩
    match i, hz with
    | 0, hz => simp at hz; subst hz; exact ⟨hx, by simp⟩
    | i + 1, hz =>
      simp at hz
      have := h3 i z hz
      have := hn.val
      exact ⟨(h3 i z hz).1, by omega⟩
theorem Way.adjs {n : Nat} {l : List Ed} {d : List Int} {x : Nat} {p : List Nat} (hw : Way n l d x p) : ∀ i y z, p[i]? = some y → p[i + 1]? = some z → adj l y z := by
  induction hw with
  | @stop x h => intro i y z h1 h2; simp at h2
  | @go x c p h hn hw ih =>
    intro i y z h1 h2
    match i, h1, h2 with
    | 0, h1, h2 =>
      simp at h1 h2; subst h1
      cases hw with
      | stop h => simp at h2; subst h2; exact hn.adj
      | go h hn' hw' => simp at h2; subst h2; exact hn.adj
    | i + 1, h1, h2 => simp at h1 h2; exact ih i y z h1 h2
theorem Way.last {n : Nat} {l : List Ed} {d : List Int} {x b : Nat} {p : List Nat} (hw : Way n l d x p) (hd : IsDist n l b d) (hx : x < n) {z : Nat} (hz : p[p.length - 1]? = some z) : z = b := by
  obtain ⟨h1, h2, h3⟩ := hw.at hx
  obtain ⟨h4, h5⟩ := h3 _ z hz
  have hp : 0 < p.length := by rcases p with _ | ⟨y, q⟩; (· simp at h1); simp
  exact hd.src z h4 (by omega)
theorem Way.once {n : Nat} {l : List Ed} {d : List Int} {x : Nat} {p : List Nat} (hw : Way n l d x p) (hx : x < n) {i : Nat} {z : Nat} (hz : p[i]? = some z) : z ∉ p.take i := fun hm => by
  obtain ⟨h1, h2, h3⟩ := hw.at hx
  obtain ⟨j, hj⟩ := List.getElem?_of_mem hm
  rw [List.getElem?_take] at hj
  split at hj
  · have q1 := (h3 j z hj).2
    have q2 := (h3 i z hz).2
    omega
  · simp at hj
/-! ### The law's own example -/
def ex : List Ed := [(0, 1), (1, 2)]
theorem ex_adj {u v : Nat} : adj ex u v ↔ (u = 0 ∧ v = 1) ∨ (u = 1 ∧ v = 2) ∨ (u = 1 ∧ v = 0) ∨ (u = 2 ∧ v = 1) := by
  simp [adj, ex]; omega
theorem ex_g (v : Nat) (hv : v < 3) : g [2, 1, 0] v = 2 - v := by
  match v, hv with
  | 0, _ => rfl
  | 1, _ => rfl
  | 2, _ => rfl
theorem ex_dist : IsDist 3 ex 2 [2, 1, 0] := by
  refine ⟨⟨rfl, by omega, rfl, fun v hv => ?_, fun v hv h => ?_, fun v hv h => ?_⟩, fun u v hu hv hadj h => ?_⟩
  · rw [ex_g v hv]; omega
  · rw [ex_g v hv] at h; omega
  · rw [ex_g v hv] at h ⊢
    exact ⟨v + 1, by omega, ex_adj.2 (by omega), by rw [ex_g _ (by omega)]; omega⟩
  · rw [ex_g u hu] at *
    rw [ex_g v hv]
    have := ex_adj.1 hadj
    omega
theorem ex_next (u : Nat) (hu : u < 2) : Next 3 ex [2, 1, 0] u (u + 1) := ⟨by omega, ex_adj.2 (by omega), by rw [ex_g _ (by omega), ex_g _ (by omega)]; omega, fun c hc hadj he => by
  rw [ex_g c (by omega), ex_g u (by omega)] at he; omega⟩
theorem ex_way : Way 3 ex [2, 1, 0] 0 [0, 1, 2] :=
  .go (by rw [ex_g 0 (by omega)]; omega) (ex_next 0 (by omega)) (.go (by rw [ex_g 1 (by omega)]; omega) (ex_next 1 (by omega)) (.stop (by rw [ex_g 2 (by omega)]; omega)))
end PD
end Go.Proofs.YtakjakglkfhaaaaDoor
