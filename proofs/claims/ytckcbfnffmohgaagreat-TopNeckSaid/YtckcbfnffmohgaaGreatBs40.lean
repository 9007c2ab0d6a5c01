/-
  Plain: edges that weigh something; the neck of all ways between two nodes: joined by what weighs no more, not by what weighs less; how a union that takes the edges by weight finds it. No program in sight.
  Rows of edges that weigh something, as they lie in memory; how they come in. No conditions.
-/
import Derived.Test.YtckcbfnffmohgaaGreatBs3
import Derived.Test.YtckcbfnffmohgaaGreatBs39
import Derived.Test.YtckcbfnffmohgaaGreatBs1
import Derived.Test.YtckcbfnffmohgaaGreatBs25
namespace Go.Proofs.YtckcbfnffmohgaaGreat.NK
open UF SS

/-- An edge as it lies in memory, and its weight. -/
abbrev He := (Int × Int) × Int
def prH (x : He) : Nat × Nat := (x.1.1.toNat, x.1.2.toNat)
/-- The weight of edge number i. -/
def wtH (L : List He) (i : Int) : Int := (L.getD i.toNat ((0, 0), 0)).2
/-- The nodes of edge number i. -/
def ndH (L : List He) (i : Int) : Nat × Nat := prH (L.getD i.toNat ((0, 0), 0))
/-- All edges that weigh t at most; all that weigh less. -/
def leH (L : List He) (t : Int) : List (Nat × Nat) := (L.filter (fun x => decide (x.2 ≤ t))).map prH
def ltH (L : List He) (t : Int) : List (Nat × Nat) := (L.filter (fun x => decide (x.2 < t))).map prH
theorem mem_leH {L : List He} {t : Int} {p : Nat × Nat} : p ∈ leH L t ↔ ∃ i : Nat, i < L.length ∧ wtH L i ≤ t ∧ ndH L i = p := by
  unfold leH wtH ndH
  rw [List.mem_map]
  constructor
  · rintro ⟨x, hx, rfl⟩
    obtain ⟨hx, ht⟩ := List.mem_filter.1 hx
    obtain ⟨i, hi⟩ := List.getElem?_of_mem hx
    have hl := (List.getElem?_eq_some_iff.1 hi).1
    exact ⟨i, hl, by simpa [List.getD_eq_getElem?_getD, hi] using ht, by simp [List.getD_eq_getElem?_getD, hi]⟩
  · rintro ⟨i, hi, ht, rfl⟩
    have e : L[i]? = some L[i] := List.getElem?_eq_getElem hi
    exact ⟨L[i], List.mem_filter.2 ⟨List.getElem_mem hi, by simpa [List.getD_eq_getElem?_getD, e] using ht⟩, by simp [List.getD_eq_getElem?_getD, e]⟩
theorem mem_ltH {L : List He} {t : Int} {p : Nat × Nat} : p ∈ ltH L t ↔ ∃ i : Nat, i < L.length ∧ wtH L i < t ∧ ndH L i = p := by
  unfold ltH wtH ndH
  rw [List.mem_map]
  constructor
  · rintro ⟨x, hx, rfl⟩
    obtain ⟨hx, ht⟩ := List.mem_filter.1 hx
    obtain ⟨i, hi⟩ := List.getElem?_of_mem hx
    have hl := (List.getElem?_eq_some_iff.1 hi).1
    exact ⟨i, hl, by simpa [List.getD_eq_getElem?_getD, hi] using ht, by simp [List.getD_eq_getElem?_getD, hi]⟩
  · rintro ⟨i, hi, ht, rfl⟩
    have e : L[i]? = some L[i] := List.getElem?_eq_getElem hi
    exact ⟨L[i], List.mem_filter.2 ⟨List.getElem_mem hi, by simpa [List.getD_eq_getElem?_getD, e] using ht⟩, by simp [List.getD_eq_getElem?_getD, e]⟩
theorem leH_mono {L : List He} {s t : Int} (h : s ≤ t) {a b : Nat} (c : Con (leH L s) a b) : Con (leH L t) a b := c.mono fun x y hm => by
  obtain ⟨i, hi, hw, hn⟩ := mem_leH.1 hm
  exact .edge (mem_leH.2 ⟨i, hi, by omega, hn⟩)
theorem le_lt {L : List He} {s t : Int} (h : s < t) {a b : Nat} (c : Con (leH L s) a b) : Con (ltH L t) a b := c.mono fun x y hm => by
  obtain ⟨i, hi, hw, hn⟩ := mem_leH.1 hm
  exact .edge (mem_ltH.2 ⟨i, hi, by omega, hn⟩)
theorem le_all {L : List He} {s : Int} {a b : Nat} (c : Con (leH L s) a b) : Con (L.map prH) a b := c.mono fun x y hm => by
  unfold leH at hm
  obtain ⟨z, hz, e⟩ := List.mem_map.1 hm
  exact .edge (List.mem_map.2 ⟨z, (List.mem_filter.1 hz).1, e⟩)
theorem mem_all {L : List He} {p : Nat × Nat} : p ∈ L.map prH ↔ ∃ i : Nat, i < L.length ∧ ndH L i = p := by
  unfold ndH
  rw [List.mem_map]
  constructor
  · rintro ⟨x, hx, rfl⟩
    obtain ⟨i, hi⟩ := List.getElem?_of_mem hx
    exact ⟨i, (List.getElem?_eq_some_iff.1 hi).1, by simp [List.getD_eq_getElem?_getD, hi]⟩
  · rintro ⟨i, hi, rfl⟩
    have e : L[i]? = some L[i] := List.getElem?_eq_getElem hi
    exact ⟨L[i], List.getElem_mem hi, by simp [List.getD_eq_getElem?_getD, e]⟩

/-- The neck between two nodes. -/
structure Nk (L : List He) (a b : Nat) (t : Int) : Prop where
  le : Con (leH L t) a b
  lt : ¬ Con (ltH L t) a b
theorem Nk.symm {L : List He} {a b : Nat} {t : Int} (h : Nk L a b t) : Nk L b a t := ⟨h.le.symm, fun c => h.lt c.symm⟩
theorem Nk.uniq {L : List He} {a b : Nat} {s t : Int} (h : Nk L a b s) (k : Nk L a b t) : s = t := by
  by_cases c : s < t
  · exact absurd (le_lt c h.le) k.lt
  · by_cases d : t < s
    · exact absurd (le_lt d k.le) h.lt
    · omega
/-- No narrower by a third. -/
theorem Nk.tri {L : List He} {a b c : Nat} {x z u : Int} (h : Con (leH L x) a b) (k : Con (leH L z) b c) (q : Nk L a c u) : u ≤ x ∨ u ≤ z := by
  by_cases p : x < u ∧ z < u
  · exact absurd ((le_lt p.1 h).trans (le_lt p.2 k)) q.lt
  · omega

/-- The order in which the edges are taken. -/
structure Ord (L : List He) (f : Nat → Int) : Prop where
  so : So (wtH L) f 0 L.length
  in_ : ∀ k, k < L.length → 0 ≤ f k ∧ f k < (L.length : Int)
  all : ∀ i : Nat, i < L.length → ∃ k, k < L.length ∧ f k = (i : Int)
/-- The first k edges of the order. -/
def pf (L : List He) (f : Nat → Int) (k : Nat) : List (Nat × Nat) := (List.range k).map fun i => ndH L (f i)
theorem pf_succ (L : List He) (f : Nat → Int) (k : Nat) : pf L f (k + 1) = pf L f k ++ [ndH L (f k)] := by
  unfold pf; rw [List.range_succ, List.map_append]; rfl
theorem mem_pf {L : List He} {f : Nat → Int} {k : Nat} {p : Nat × Nat} : p ∈ pf L f k ↔ ∃ i, i < k ∧ ndH L (f i) = p := by
  unfold pf; simp [List.mem_map, List.mem_range]
theorem Ord.le {L : List He} {f : Nat → Int} (h : Ord L f) {i j : Nat} (hij : i ≤ j) (hj : j < L.length) : wtH L (f i) ≤ wtH L (f j) := by
  by_cases c : i = j
  · rw [c]; exact Int.le_refl _
  · have := h.so i j (Nat.zero_le _) (by omega) hj
    unfold lx at this; omega
/-- The edge by which they are joined first weighs what the neck is. -/
theorem Ord.neck {L : List He} {f : Nat → Int} (h : Ord L f) {k a b : Nat} (hk : k < L.length) (h1 : ¬ Con (pf L f k) a b) (h2 : Con (pf L f (k + 1)) a b) : Nk L a b (wtH L (f k)) := by
  refine ⟨h2.mono fun x y hm => ?_, fun c => h1 (c.mono fun x y hm => ?_)⟩
  · obtain ⟨i, hi, hn⟩ := mem_pf.1 hm
    have := h.in_ i (by omega)
    obtain ⟨j, hj⟩ := Int.eq_ofNat_of_zero_le this.1
    have hw := h.le (show i ≤ k by omega) hk
    rw [hj] at hn hw this
    exact .edge (mem_leH.2 ⟨j, by omega, hw, hn⟩)
  · obtain ⟨i, hi, hw, hn⟩ := mem_ltH.1 hm
    obtain ⟨j, hj, e⟩ := h.all i hi
    by_cases c : j < k
    · exact .edge (mem_pf.2 ⟨j, c, by rw [e]; exact hn⟩)
    · have := h.le (show k ≤ j by omega) hj
      rw [e] at this
      omega
theorem Ord.whole {L : List He} {f : Nat → Int} (h : Ord L f) {a b : Nat} : Con (pf L f L.length) a b ↔ Con (L.map prH) a b := by
  constructor
  · refine fun c => c.mono fun x y hm => ?_
    obtain ⟨i, hi, hn⟩ := mem_pf.1 hm
    have := h.in_ i hi
    obtain ⟨j, hj⟩ := Int.eq_ofNat_of_zero_le this.1
    rw [hj] at hn this
    exact .edge (mem_all.2 ⟨j, by omega, hn⟩)
  · refine fun c => c.mono fun x y hm => ?_
    obtain ⟨i, hi, hn⟩ := mem_all.1 hm
    obtain ⟨j, hj, e⟩ := h.all i hi
    exact .edge (mem_pf.2 ⟨j, hj, by rw [e]; exact hn⟩)

/-- The union that took the first k edges. -/
def Uk (L : List He) (f : Nat → Int) (k : Nat) (hs : Hs) : Prop := ∀ x y, rt hs x = rt hs y ↔ Con (pf L f k) x y
theorem Uk.start (L : List He) (f : Nat → Int) : Uk L f 0 [] := fun x y => by
  constructor
  · intro h; simp only [rt] at h; subst h; exact .refl _
  · intro c; exact c.ind (f := fun z => rt [] z) fun x y hm => by simp [pf] at hm
theorem Uk.step {L : List He} {f : Nat → Int} {k : Nat} {hs : Hs} (h : Uk L f k hs) : Uk L f (k + 1) (join hs (ndH L (f k)).1 (ndH L (f k)).2) := fun x y => by
  rw [join_rel, h x y, h x, h y, h x, h y, pf_succ]
  exact Con.snoc.symm
/-- An edge within a part joins nothing. -/
theorem Uk.same {L : List He} {f : Nat → Int} {k : Nat} {hs : Hs} (h : Uk L f k hs) (e : rt hs (ndH L (f k)).1 = rt hs (ndH L (f k)).2) (x y : Nat) : Con (pf L f (k + 1)) x y ↔ Con (pf L f k) x y := by
  have c := (h _ _).1 e
  rw [pf_succ]
  refine Con.snoc.trans ⟨?_, .inl⟩
  rintro (q | ⟨q1, q2⟩ | ⟨q1, q2⟩)
  · exact q
  · exact q1.trans (c.trans q2.symm)
  · exact q1.trans (c.symm.trans q2.symm)
theorem ord_of (L : List He) {f0 f : Nat → Int} (h0 : ∀ k, k < L.length → f0 k = (k : Int)) (hs : So (wtH L) f 0 L.length) (hm : Sm f0 f 0 L.length) : Ord L f := by
  refine ⟨hs, fun k hk => ?_, fun i hi => ?_⟩
  · obtain ⟨j, _, j2, j3⟩ := hm.mem (Nat.zero_le k) hk
    rw [← j3, h0 j j2]; omega
  · obtain ⟨j, _, j2, j3⟩ := hm.mem' (Nat.zero_le i) hi
    exact ⟨j, j2, by rw [j3, h0 i hi]⟩

/-! ### What Neck answers, and its law -/
/-- Nodes and edges that may be. -/
structure OkH (n : Int) (L : List He) : Prop where
  n1 : 1 ≤ n
  n2 : n ≤ 60
  len : L.length ≤ 200
  ok : ∀ x ∈ L, 0 ≤ x.1.1 ∧ x.1.1 < x.1.2 ∧ x.1.2 < n ∧ 0 ≤ x.2 ∧ x.2 ≤ 1000000
/-- Two nodes. -/
def In2 (n a b : Int) : Prop := (0 ≤ a ∧ a < n) ∧ (0 ≤ b ∧ b < n)
/-- The answer x, and whether it is one. -/
inductive NeckP (n : Int) (L : List He) (a b : Int) : Int → Bool → Prop
  | bad (h : ¬ (OkH n L ∧ In2 n a b)) : NeckP n L a b 0 false
  | self (h : OkH n L) (k : In2 n a b) (e : a = b) : NeckP n L a b 0 true
  | none (h : OkH n L) (k : In2 n a b) (e : a ≠ b) (c : ¬ Con (L.map prH) a.toNat b.toNat) : NeckP n L a b 0 false
  | some {t : Int} (h : OkH n L) (k : In2 n a b) (e : a ≠ b) (t0 : 0 ≤ t) (c : Nk L a.toNat b.toNat t) : NeckP n L a b t true
theorem In2.swap {n a b : Int} (h : In2 n a b) : In2 n b a := ⟨h.2, h.1⟩
theorem NeckP.back {n a b x y : Int} {L : List He} {o p : Bool} (h : NeckP n L a b x o) (k : NeckP n L b a y p) : o = p ∧ x = y := by
  cases h with
  | bad h =>
    cases k with
    | bad _ => exact ⟨rfl, rfl⟩
    | self k1 k2 _ => exact absurd ⟨k1, k2.swap⟩ h
    | none k1 k2 _ _ => exact absurd ⟨k1, k2.swap⟩ h
    | some k1 k2 _ _ _ => exact absurd ⟨k1, k2.swap⟩ h
  | self h1 h2 e =>
    cases k with
    | bad k => exact absurd ⟨h1, h2.swap⟩ k
    | self _ _ _ => exact ⟨rfl, rfl⟩
    | none _ _ q _ => exact absurd e.symm q
    | some _ _ q _ _ => exact absurd e.symm q
  | none h1 h2 e c =>
    cases k with
    | bad k => exact absurd ⟨h1, h2.swap⟩ k
    | self _ _ q => exact absurd q.symm e
    | none _ _ _ _ => exact ⟨rfl, rfl⟩
    | some _ _ _ _ q => exact absurd (le_all q.le).symm c
  | some h1 h2 e t0 c =>
    cases k with
    | bad k => exact absurd ⟨h1, h2.swap⟩ k
    | self _ _ q => exact absurd q.symm e
    | none _ _ _ q => exact absurd (le_all c.le).symm q
    | some _ _ _ _ q => exact ⟨rfl, c.uniq q.symm⟩
/-- What holds of a neck: joined by what weighs no more. -/
theorem NeckP.joined {n a b x : Int} {L : List He} (h : NeckP n L a b x true) : OkH n L ∧ In2 n a b ∧ 0 ≤ x ∧ Con (leH L x) a.toNat b.toNat := by
  cases h with
  | self h1 h2 e => subst e; exact ⟨h1, h2, Int.le_refl _, .refl _⟩
  | some h1 h2 e t0 c => exact ⟨h1, h2, t0, c.le⟩
theorem NeckP.tri {n a b c x z u : Int} {L : List He} {o : Bool} (h : NeckP n L a b x true) (k : NeckP n L b c z true) (q : NeckP n L a c u o) : o = true ∧ (u ≤ x ∨ u ≤ z) := by
  obtain ⟨h1, h2, h3, h4⟩ := h.joined
  obtain ⟨_, k2, k3, k4⟩ := k.joined
  cases q with
  | bad q => exact absurd ⟨h1, h2.1, k2.2⟩ q
  | self _ _ _ => exact ⟨rfl, .inl h3⟩
  | none _ _ _ q => exact absurd ((le_all h4).trans (le_all k4)) q
  | some _ _ _ _ q => exact ⟨rfl, Nk.tri h4 k4 q⟩
end Go.Proofs.YtckcbfnffmohgaaGreat.NK
namespace Go.Proofs.YtckcbfnffmohgaaGreat
open Go Go.RowKit Go.ChangeShapes Go.WideShapes
set_option linter.unusedVariables false

def HvAt (w : World) (A : Option Addr) (L : List NK.He) : Prop := L = [] ∨ ∃ b off, A = some ⟨b, off, none⟩ ∧ b < w.heap.size ∧ ∀ (i : Nat) (x : NK.He), L[i]? = some x → w.cell? ⟨b, off + i * 3, none⟩ = some (.int .i64 x.1.1) ∧ w.cell? ⟨b, off + i * 3 + 1, none⟩ = some (.int .i64 x.1.2) ∧ w.cell? ⟨b, off + i * 3 + 2, none⟩ = some (.int .i64 x.2)
theorem HvAt.chg {S : Nat → Prop} {w w' : World} {A : Option Addr} {L : List NK.He} (h : HvAt w A L) (hc : Chg S w w') (hn : L ≠ [] → ∀ x, A = some x → ¬ S x.block) : HvAt w' A L := by
  by_cases h0 : L = []
  · exact .inl h0
  rcases h with h | ⟨b, off, rfl, hb, he⟩
  · exact absurd h h0
  · have hs : ¬ S b := hn h0 _ rfl
    exact .inr ⟨b, off, rfl, Nat.lt_of_lt_of_le hb hc.size, fun i e h => ⟨(hc.cell (p := ⟨b, _, none⟩) hb hs).trans (he i e h).1, (hc.cell (p := ⟨b, _, none⟩) hb hs).trans (he i e h).2.1, (hc.cell (p := ⟨b, _, none⟩) hb hs).trans (he i e h).2.2⟩⟩
theorem HvAt.ext {w w' : World} {A : Option Addr} {L : List NK.He} (h : HvAt w A L) (hb : Below w.heap.size w w') : HvAt w' A L := by
  rcases h with h | ⟨b, off, rfl, hl, he⟩
  · exact .inl h
  · exact .inr ⟨b, off, rfl, Nat.lt_of_lt_of_le hl hb.size, fun i e h => ⟨(hb.cell (p := ⟨b, _, none⟩) hl).trans (he i e h).1, (hb.cell (p := ⟨b, _, none⟩) hl).trans (he i e h).2.1, (hb.cell (p := ⟨b, _, none⟩) hl).trans (he i e h).2.2⟩⟩
theorem HvAt.at_ {w : World} {A : Option Addr} {L : List NK.He} (h : HvAt w A L) {i : Nat} (hi : i < L.length) : ∃ (b off : Nat) (x : NK.He), A = some ⟨b, off, none⟩ ∧ b < w.heap.size ∧ L[i]? = some x ∧ w.cell? ⟨b, off + i * 3, none⟩ = some (.int .i64 x.1.1) ∧ w.cell? ⟨b, off + i * 3 + 1, none⟩ = some (.int .i64 x.1.2) ∧ w.cell? ⟨b, off + i * 3 + 2, none⟩ = some (.int .i64 x.2) := by
  have hx : L[i]? = some L[i] := List.getElem?_eq_getElem hi
  rcases h with h | ⟨b, off, rfl, hb, hc⟩
  · rw [h] at hi; simp at hi
  · exact ⟨b, off, L[i], rfl, hb, hx, hc i _ hx⟩
theorem HvAt.here {w : World} {b off : Nat} {L : List NK.He} (h : HvAt w (some ⟨b, off, none⟩) L) {i : Nat} {x : NK.He} (hx : L[i]? = some x) : b < w.heap.size ∧ w.cell? ⟨b, off + i * 3, none⟩ = some (.int .i64 x.1.1) ∧ w.cell? ⟨b, off + i * 3 + 1, none⟩ = some (.int .i64 x.1.2) ∧ w.cell? ⟨b, off + i * 3 + 2, none⟩ = some (.int .i64 x.2) := by
  rcases h with h | ⟨b', off', e, hb, hc⟩
  · rw [h] at hx; simp at hx
  · simp only [Option.some.injEq, Addr.mk.injEq, and_true] at e
    obtain ⟨rfl, rfl⟩ := e
    exact ⟨hb, hc i _ hx⟩
theorem wtH_at {L : List NK.He} {i : Nat} {x : NK.He} (h : L[i]? = some x) : NK.wtH L (i : Int) = x.2 := by
  unfold NK.wtH
  rw [Int.toNat_natCast, List.getD_eq_getElem?_getD, h]; rfl
theorem ndH_at {L : List NK.He} {i : Nat} {x : NK.He} (h : L[i]? = some x) : NK.ndH L (i : Int) = (x.1.1.toNat, x.1.2.toNat) := by
  unfold NK.ndH NK.prH
  rw [Int.toNat_natCast, List.getD_eq_getElem?_getD, h]; rfl

theorem cellsEdge : Tryz.prog.cellsOf 32 = 2 := by kernel_rfl
theorem open_heavy {H : Type} {enc : TypeId × Value → H} {w : World} {spare : Nat → Bool} {held : Bool} {a : Option Addr} {len cap : Nat} {d : DataW H} {p : List MemPlace} (h : DataW.Trod enc Tryz.prog w 0 spare held 22 (.slice a len cap) d p) : ∃ L : List NK.He, HvAt w a L ∧ L.length = len ∧ len ≤ cap ∧ cap ≤ maxLen := by
  obtain ⟨fuel, hf⟩ := h
  obtain ⟨hl, hm, h0 | ⟨b, off, rfl, hlt, n, hx⟩⟩ := open_structs Tryz.underlying22 Tryz.underlying34 (show Tryz.prog.cellsOf 34 = 3 by kernel_rfl) (by decide) (show DataW.trod enc Tryz.prog w 0 spare held fuel 22 [.slice a len cap] = _ from hf)
  · exact ⟨[], .inl rfl, h0.symm, hl, hm⟩
  · have each : ∀ i, i < len → ∃ q : NK.He, w.cell? ⟨b, off + i * 3, none⟩ = some (.int .i64 q.1.1) ∧ w.cell? ⟨b, off + i * 3 + 1, none⟩ = some (.int .i64 q.1.2) ∧ w.cell? ⟨b, off + i * 3 + 2, none⟩ = some (.int .i64 q.2) := by
      intro i hi
      obtain ⟨cs, h1, h2, h3⟩ := hx i hi
      obtain ⟨c0, c1, c2, rfl⟩ := list3 h1
      obtain ⟨y0, g0⟩ := h3 0 _ rfl
      obtain ⟨y1, g1⟩ := h3 1 _ rfl
      simp [cellsInt, cellsEdge] at g0 g1
      obtain ⟨xs, k', hk, _, _, hl', hall⟩ := DataW.trod_struct Tryz.underlying32 g0
      have e0 := hall 0 _ rfl
      have e1 := hall 1 _ rfl
      obtain ⟨z0, hz0⟩ : ∃ z, xs[0]? = some z := ⟨_, List.getElem?_eq_getElem (by rw [hl']; decide)⟩
      obtain ⟨z1, hz1⟩ : ∃ z, xs[1]? = some z := ⟨_, List.getElem?_eq_getElem (by rw [hl']; decide)⟩
      rw [hz0] at e0
      rw [hz1] at e1
      simp [cellsInt] at e0 e1
      obtain ⟨x0, e0, _⟩ := DataW.trod_int Tryz.underlying3 e0
      obtain ⟨x1, e1, _⟩ := DataW.trod_int Tryz.underlying3 e1
      obtain ⟨x2, e2, _⟩ := DataW.trod_int Tryz.underlying3 g1
      simp at e0 e1 e2
      subst e0; subst e1; subst e2
      exact ⟨((x0, x1), x2), by simpa using h2 0 _ rfl, h2 1 _ rfl, h2 2 _ rfl⟩
    obtain ⟨s, hs⟩ := Deep.choose_lt each
    refine ⟨(List.range len).map s, .inr ⟨b, off, rfl, hlt, fun i x hx => ?_⟩, by simp, hl, hm⟩
    have hi : i < len := by have := (List.getElem?_eq_some_iff.1 hx).1; simpa using this
    simp [hi] at hx
    subst hx
    exact hs i hi
end Go.Proofs.YtckcbfnffmohgaaGreat
