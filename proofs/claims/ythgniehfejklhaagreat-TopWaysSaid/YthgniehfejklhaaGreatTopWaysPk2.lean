/-
  How far nodes of a graph are, by a queue; the first of the shortest ways, in plain Lean. No program in sight.
  Ways and distances there and back, in plain Lean. No program in sight.
-/
import Derived.Test.YthgniehfejklhaaGreatBs5
namespace Go.Proofs.YthgniehfejklhaaGreat
open Go
set_option linter.unusedVariables false
namespace PD

/-- A queue of nodes; h: how far its first node is, or was. -/
structure Bq (n : Nat) (l : List Ed) (a : Nat) (h : Nat) (d : List Int) (q : List Nat) : Prop extends Base n l a d where
  qv : ∀ x, x ∈ q → x < n ∧ (h : Int) ≤ g d x
  top : ∀ v, v < n → g d v ≤ h + 1
  mono : q.Pairwise (fun x y => g d x ≤ g d y)
  fin : ∀ u, u < n → 0 ≤ g d u → u ∉ q → ∀ v, v < n → adj l u v → 0 ≤ g d v ∧ g d v ≤ g d u + 1
theorem Bq.start {n a : Nat} (l : List Ed) (ha : a < n) : Bq n l a 0 ((List.replicate n (-1)).set a 0) [a] := by
  have hl : a < (List.replicate n (-1 : Int)).length := by simpa using ha
  have hr : ∀ v, g (List.replicate n (-1 : Int)) v = -1 := fun v => by
    simp only [g, List.getD_eq_getElem?_getD, List.getElem?_replicate]; split <;> rfl
  refine ⟨Base.start l ha, fun x hx => ?_, fun v hv => ?_, by simp, fun u hu h1 h2 => ?_⟩
  · simp at hx; subst hx; exact ⟨ha, by rw [g_set_self hl]; simp⟩
  · by_cases e : a = v
    · subst e; rw [g_set_self hl]; omega
    · rw [g_set_ne e, hr]; omega
  · have : a ≠ u := by rintro rfl; simp at h2
    rw [g_set_ne this, hr] at h1; omega
theorem Bq.mark {n : Nat} {l : List Ed} {a h x b : Nat} {d : List Int} {q : List Nat} (hb : Bq n l a h d (x :: q)) (hx : g d x = h) (hbn : b < n) (hadj : adj l x b) (h1 : g d b < 0) : Bq n l a h (d.set b (h + 1)) (x :: q ++ [b]) := by
  have hxn := (hb.qv x (by simp)).1
  have hm := hb.toBase.mark hxn hbn hadj (by omega) h1
  rw [hx] at hm
  have hvl : b < d.length := by rw [hb.len]; exact hbn
  have hnq : ∀ y, y ∈ x :: q → b ≠ y := fun y hy => by rintro rfl; have := (hb.qv b hy).2; omega
  refine ⟨hm, fun y hy => ?_, fun v hv => ?_, ?_, fun u hu q1 q2 v hv hadj2 => ?_⟩
  · rcases List.mem_append.1 hy with hy | hy
    · rw [g_set_ne (hnq y hy)]; exact hb.qv y hy
    · simp at hy; subst hy; exact ⟨hbn, by rw [g_set_self hvl]; omega⟩
  · by_cases e : b = v
    · subst e; rw [g_set_self hvl]; omega
    · rw [g_set_ne e]; exact hb.top v hv
  · rw [List.pairwise_append]
    refine ⟨?_, by simp, fun y hy z hz => ?_⟩
    · refine List.Pairwise.imp_of_mem ?_ hb.mono
      intro y z hy hz hyz
      rw [g_set_ne (hnq y hy), g_set_ne (hnq z hz)]; exact hyz
    · simp at hz; subst hz
      rw [g_set_ne (hnq y hy), g_set_self hvl]
      exact hb.top y (hb.qv y hy).1
  · have e : b ≠ u := by rintro rfl; exact q2 (by simp)
    rw [g_set_ne e] at q1 ⊢
    have := hb.fin u hu q1 (fun hm => q2 (List.mem_append_left _ hm)) v hv hadj2
    rw [g_set_ne (by rintro rfl; omega)]; exact this
theorem Bq.pop {n : Nat} {l : List Ed} {a h x : Nat} {d : List Int} {q : List Nat} (hb : Bq n l a h d (x :: q)) (hx : g d x = h) (hall : ∀ b, b < n → adj l x b → 0 ≤ g d b) : (q = [] → IsDist n l a d) ∧ ∀ y r, q = y :: r → ∃ h' : Nat, g d y = (h' : Int) ∧ Bq n l a h' d q := by
  have hxn := (hb.qv x (by simp)).1
  have hfin : ∀ u, u < n → 0 ≤ g d u → u ∉ q → ∀ v, v < n → adj l u v → 0 ≤ g d v ∧ g d v ≤ g d u + 1 := fun u hu q1 q2 v hv hadj => by
    by_cases e : u = x
    · subst e
      exact ⟨hall v hv hadj, by have := hb.top v hv; omega⟩
    · exact hb.fin u hu q1 (by simp [e, q2]) v hv hadj
  refine ⟨fun hq => ⟨hb.toBase, fun u v hu hv hadj q1 => hfin u hu q1 (by rw [hq]; simp) v hv hadj⟩, fun y r hq => ?_⟩
  have hy := hb.qv y (by rw [hq]; simp)
  obtain ⟨h', hh⟩ := Int.eq_ofNat_of_zero_le (show 0 ≤ g d y by omega)
  refine ⟨h', hh, hb.toBase, fun z hz => ⟨(hb.qv z (by simp [hz])).1, ?_⟩, fun v hv => by have := hb.top v hv; omega, (List.pairwise_cons.1 hb.mono).2, hfin⟩
  subst hq
  rcases List.mem_cons.1 hz with rfl | hz
  · omega
  · have := (List.pairwise_cons.1 (List.pairwise_cons.1 hb.mono).2).1 z hz
    omega
/-- Nodes to which it was not come. -/
def far0 (d : List Int) (n : Nat) : Nat := cnt (fun v => decide (g d v < 0)) n
theorem far0_mark {n b : Nat} {d : List Int} {x : Int} (hl : d.length = n) (hb : b < n) (h1 : g d b < 0) (hx : 0 ≤ x) : far0 (d.set b x) n + 1 ≤ far0 d n := by
  refine cnt_lt (u := b) (fun i hi hp => ?_) hb (by simpa using h1) (by rw [g_set_self (by omega)]; simp; omega)
  by_cases e : b = i
  · subst e; rw [g_set_self (by omega)] at hp; simp at hp; omega
  · rw [g_set_ne e] at hp; exact hp
theorem far0_le (d : List Int) (n : Nat) : far0 d n ≤ n := cnt_le _ n

/-! ### The first of the shortest ways -/
/-- The least node beside another that is nearer by one. -/
structure Next (n : Nat) (l : List Ed) (d : List Int) (x c : Nat) : Prop where
  lt : c < n
  adj : adj l x c
  val : g d c = g d x - 1
  least : ∀ c', c' < c → PD.adj l x c' → g d c' ≠ g d x - 1
theorem Next.unique {n : Nat} {l : List Ed} {d : List Int} {x c c' : Nat} (h : Next n l d x c) (k : Next n l d x c') : c = c' := by
  by_cases h1 : c < c'
  · exact absurd h.val (k.least c h1 h.adj)
  · by_cases h2 : c' < c
    · exact absurd k.val (h.least c' h2 k.adj)
    · omega
/-- A way along such nodes, up to one that is nearest. -/
inductive Way (n : Nat) (l : List Ed) (d : List Int) : Nat → List Nat → Prop
  | stop {x : Nat} (h : g d x = 0) : Way n l d x [x]
  | go {x c : Nat} {p : List Nat} (h : 0 < g d x) (hn : Next n l d x c) (hw : Way n l d c p) : Way n l d x (x :: p)
theorem Way.unique {n : Nat} {l : List Ed} {d : List Int} : ∀ {x : Nat} {p q : List Nat}, Way n l d x p → Way n l d x q → p = q
  | _, _, _, .stop h, .stop _ => rfl
  | _, _, _, .stop h, .go h' _ _ => by omega
  | _, _, _, .go h _ _, .stop h' => by omega
  | _, _, _, .go _ hn hw, .go _ hn' hw' => by
    have := hn.unique hn'
    subst this
    rw [Way.unique hw hw']
theorem IsDist.next {n : Nat} {l : List Ed} {a : Nat} {d : List Int} (h : IsDist n l a d) {x : Nat} (hx : x < n) (h0 : 0 < g d x) : ∃ c, c < n ∧ adj l x c ∧ g d c = g d x - 1 := by
  obtain ⟨u, h1, h2, h3⟩ := h.prev x hx h0
  exact ⟨u, h1, adj_symm h2, h3⟩
/-- A way on its way: whatever leads on from the node reached. -/
def On (n : Nat) (l : List Ed) (d : List Int) (x y : Nat) (out : List Nat) : Prop := ∃ r, out = r ++ [y] ∧ ∀ p, Way n l d y p → Way n l d x (r ++ p)
theorem On.start (n : Nat) (l : List Ed) (d : List Int) (x : Nat) : On n l d x x [x] := ⟨[], rfl, fun _ h => h⟩
theorem On.step {n : Nat} {l : List Ed} {d : List Int} {x y c : Nat} {out : List Nat} (h : On n l d x y out) (h0 : 0 < g d y) (hn : Next n l d y c) : On n l d x c (out ++ [c]) := by
  obtain ⟨r, rfl, h2⟩ := h
  exact ⟨r ++ [y], rfl, fun p hp => by simpa using h2 _ (.go h0 hn hp)⟩
theorem On.stop {n : Nat} {l : List Ed} {d : List Int} {x y : Nat} {out : List Nat} (h : On n l d x y out) (h0 : g d y = 0) : Way n l d x out := by
  obtain ⟨r, rfl, h2⟩ := h
  exact h2 _ (.stop h0)
end PD
end Go.Proofs.YthgniehfejklhaaGreat
namespace Go.Proofs.YthgniehfejklhaaGreat
open Go
set_option linter.unusedVariables false
namespace PD

/-- From a node back to the first. -/
theorem dist_back {n : Nat} {l : List Ed} {a b : Nat} {d e : List Int} (h : IsDist n l a d) (k : IsDist n l b e) : ∀ (t v : Nat), v < n → g d v = (t : Int) → 0 ≤ g e v → 0 ≤ g e a ∧ g e a ≤ g e v + t
  | 0, v, hv, ht, h0 => by
    have := h.src v hv (by simpa using ht)
    subst this
    exact ⟨h0, by simp⟩
  | t + 1, v, hv, ht, h0 => by
    obtain ⟨u, hu, hadj, he⟩ := h.prev v hv (by omega)
    have h1 := k.edge v u hv hu (adj_symm hadj) h0
    have ih := dist_back h k t u hu (by omega) h1.1
    exact ⟨ih.1, by omega⟩
/-- From the first on to a node. -/
theorem dist_on {n : Nat} {l : List Ed} {a b : Nat} {d e : List Int} (h : IsDist n l a d) (k : IsDist n l b e) (h0 : 0 ≤ g e a) : ∀ (t v : Nat), v < n → g d v = (t : Int) → 0 ≤ g e v ∧ g e v ≤ g e a + t
  | 0, v, hv, ht => by
    have := h.src v hv (by simpa using ht)
    subst this
    exact ⟨h0, by simp⟩
  | t + 1, v, hv, ht => by
    obtain ⟨u, hu, hadj, he⟩ := h.prev v hv (by omega)
    have ih := dist_on h k h0 t u hu (by omega)
    have h1 := k.edge u v hu hv hadj ih.1
    exact ⟨h1.1, by omega⟩
theorem dist_symm {n : Nat} {l : List Ed} {a b : Nat} {d e : List Int} (h : IsDist n l a d) (k : IsDist n l b e) : g d b = g e a := by
  have r1 := h.rng b k.an
  have r2 := k.rng a h.an
  have z1 := h.zero
  have z2 := k.zero
  by_cases h1 : 0 ≤ g d b
  · obtain ⟨t, ht⟩ := Int.eq_ofNat_of_zero_le h1
    have q1 := dist_back h k t b k.an ht (by omega)
    obtain ⟨s, hs⟩ := Int.eq_ofNat_of_zero_le q1.1
    have q2 := dist_back k h s a h.an hs (by omega)
    omega
  · by_cases h2 : 0 ≤ g e a
    · obtain ⟨s, hs⟩ := Int.eq_ofNat_of_zero_le h2
      have q2 := dist_back k h s a h.an hs (by omega)
      omega
    · omega
theorem dist_tri {n : Nat} {l : List Ed} {a b c : Nat} {d f : List Int} (h : IsDist n l a d) (k : IsDist n l b f) (hc : c < n) (hb : 0 ≤ g d b) (h0 : 0 ≤ g d c) : g d c ≤ g d b + g f c := by
  have hs := dist_symm h k
  obtain ⟨t, ht⟩ := Int.eq_ofNat_of_zero_le h0
  have h1 := dist_on h k (by omega) t c hc ht
  obtain ⟨s, hs2⟩ := Int.eq_ofNat_of_zero_le h1.1
  have h2 := dist_on k h hb s c hc hs2
  omega
theorem dist_step {n : Nat} {l : List Ed} {a u v : Nat} {d : List Int} (h : IsDist n l a d) (hu : u < n) (hv : v < n) (hadj : adj l u v) : (g d u < 0 ↔ g d v < 0) ∧ g d u - g d v ≤ 1 ∧ g d v - g d u ≤ 1 := by
  have r1 := h.rng u hu
  have r2 := h.rng v hv
  have e1 := h.edge u v hu hv hadj
  have e2 := h.edge v u hv hu (adj_symm hadj)
  omega
/-- A way's nodes: each is nearer by one than that before. -/
theorem Way.at {n : Nat} {l : List Ed} {d : List Int} {x : Nat} {p : List Nat} (hw : Way n l d x p) : x < n → p[0]? = some x ∧ (p.length : Int) = g d x + 1 ∧ ∀ (i z : Nat), p[i]? = some z → z < n ∧ g d z = g d x - (i : Int) := by
  induction hw with
  | @stop x h => exact fun hx => ⟨rfl, by simp [h], fun i z hz => by
      match i, hz with
      | 0, hz => simp at hz; subst hz; exact ⟨hx, by simp⟩⟩
  | @go x c p h hn hw ih =>
    intro hx
    obtain ⟨h1, h2, h3⟩ := ih hn.lt
    refine ⟨rfl, by simp; have := hn.val; omega, fun i z hz => ?_⟩
    match i, hz with
    | 0, hz => simp at hz; subst hz; exact ⟨hx, by simp⟩
    | i + 1, hz =>
      simp at hz
      have := h3 i z hz
      have := hn.val
      exact ⟨(h3 i z hz).1, by omega⟩
theorem Way.adjs {n : Nat} {l : List Ed} {d : List Int} {x : Nat} {p : List Nat} (hw : Way n l d x p) : ∀ i y z, p[i]? = some y → p[i + 1]? = some z → adj l y z := by
  induction hw with
  | @stop x h => intro i y z h1 h2; simp at h2
  | @go x c p h hn hw ih =>
    intro i y z h1 h2
    match i, h1, h2 with
    | 0, h1, h2 =>
      simp at h1 h2; subst h1
      cases hw with
      | stop h => simp at h2; subst h2; exact hn.adj
      | go h hn' hw' => simp at h2; subst h2; exact hn.adj
    | i + 1, h1, h2 => simp at h1 h2; exact ih i y z h1 h2
theorem Way.last {n : Nat} {l : List Ed} {d : List Int} {x b : Nat} {p : List Nat} (hw : Way n l d x p) (hd : IsDist n l b d) (hx : x < n) {z : Nat} (hz : p[p.length - 1]? = some z) : z = b := by
  obtain ⟨h1, h2, h3⟩ := hw.at hx
  obtain ⟨h4, h5⟩ := h3 _ z hz
  have hp : 0 < p.length := by rcases p with _ | ⟨y, q⟩; (· simp at h1); simp
  exact hd.src z h4 (by omega)
theorem Way.once {n : Nat} {l : List Ed} {d : List Int} {x : Nat} {p : List Nat} (hw : Way n l d x p) (hx : x < n) {i : Nat} {z : Nat} (hz : p[i]? = some z) : z ∉ p.take i := fun hm => by
  obtain ⟨h1, h2, h3⟩ := hw.at hx
  obtain ⟨j, hj⟩ := List.getElem?_of_mem hm
  rw [List.getElem?_take] at hj
  split at hj
  · have q1 := (h3 j z hj).2
    have q2 := (h3 i z hz).2
    omega
  · simp at hj
/-! ### The law's own example -/
def ex : List Ed := [(0, 1), (1, 2)]
theorem ex_adj {u v : Nat} : adj ex u v ↔ (u = 0 ∧ v = 1) ∨ (u = 1 ∧ v = 2) ∨ (u = 1 ∧ v = 0) ∨ (u = 2 ∧ v = 1) := by
  simp [adj, ex]; omega
theorem ex_g (v : Nat) (hv : v < 3) : g [2, 1, 0] v = 2 - v := by
  match v, hv with
  | 0, _ => rfl
  | 1, _ => rfl
  | 2, _ => rfl
theorem ex_dist : IsDist 3 ex 2 [2, 1, 0] := by
  refine ⟨⟨rfl, by omega, rfl, fun v hv => ?_, fun v hv h => ?_, fun v hv h => ?_⟩, fun u v hu hv hadj h => ?_⟩
  · rw [ex_g v hv]; omega
  · rw [ex_g v hv] at h; omega
  · rw [ex_g v hv] at h ⊢
    exact ⟨v + 1, by omega, ex_adj.2 (by omega), by rw [ex_g _ (by omega)]; omega⟩
  · rw [ex_g u hu] at *
    rw [ex_g v hv]
    have := ex_adj.1 hadj
    omega
theorem ex_next (u : Nat) (hu : u < 2) : Next 3 ex [2, 1, 0] u (u + 1) := ⟨by omega, ex_adj.2 (by omega), by rw [ex_g _ (by omega), ex_g _ (by omega)]; omega, fun c hc hadj he => by
  rw [ex_g c (by omega), ex_g u (by omega)] at he; omega⟩
theorem ex_way : Way 3 ex [2, 1, 0] 0 [0, 1, 2] :=
  .go (by rw [ex_g 0 (by omega)]; omega) (ex_next 0 (by omega)) (.go (by rw [ex_g 1 (by omega)]; omega) (ex_next 1 (by omega)) (.stop (by rw [ex_g 2 (by omega)]; omega)))
end PD
end Go.Proofs.YthgniehfejklhaaGreat
