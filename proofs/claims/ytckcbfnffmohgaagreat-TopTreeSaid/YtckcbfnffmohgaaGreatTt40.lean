/-
  Plain: edges that weigh something; the neck of all ways between two nodes: joined by what weighs no more, not by what weighs less; how a union that takes the edges by weight finds it. No program in sight.
  Rows of edges that weigh something, as they lie in memory; how they come in. No conditions.
-/
import Derived.Test.YtckcbfnffmohgaaGreatTt3
import Derived.Test.YtckcbfnffmohgaaGreatTt39
import Derived.Test.YtckcbfnffmohgaaGreatTt1
import Derived.Test.YtckcbfnffmohgaaGreatTt25
namespace Go.Proofs.YtckcbfnffmohgaaGreat.NK
open UF SS

/-- An edge as it lies in memory, and its weight. -/
abbrev He := (Int × Int) × Int
def prH (x : He) : Nat × Nat := (x.1.1.toNat, x.1.2.toNat)
/-- The weight of edge number i. -/
def wtH (L : List He) (i : Int) : Int := (L.getD i.toNat ((0, 0), 0)).2
/-- The nodes of edge number i. -/
def ndH (L : List He) (i : Int) : Nat × Nat := prH (L.getD i.toNat ((0, 0), 0))
theorem mem_all {L : List He} {p : Nat × Nat} : p ∈ L.map prH ↔ ∃ i : Nat, i < L.length ∧ ndH L i = p := by
  unfold ndH
  rw [List.mem_map]
  constructor
  · rintro ⟨x, hx, rfl⟩
    obtain ⟨i, hi⟩ := List.getElem?_of_mem hx
    exact ⟨i, (List.getElem?_eq_some_iff.1 hi).1, by simp [List.getD_eq_getElem?_getD, hi]⟩
  · rintro ⟨i, hi, rfl⟩
    have e : L[i]? = some L[i] := List.getElem?_eq_getElem hi
    exact ⟨L[i], List.getElem_mem hi, by simp [List.getD_eq_getElem?_getD, e]⟩

/-- The order in which the edges are taken. -/
structure Ord (L : List He) (f : Nat → Int) : Prop where
  so : So (wtH L) f 0 L.length
  in_ : ∀ k, k < L.length → 0 ≤ f k ∧ f k < (L.length : Int)
  all : ∀ i : Nat, i < L.length → ∃ k, k < L.length ∧ f k = (i : Int)
/-- The first k edges of the order. -/
def pf (L : List He) (f : Nat → Int) (k : Nat) : List (Nat × Nat) := (List.range k).map fun i => ndH L (f i)
theorem pf_succ (L : List He) (f : Nat → Int) (k : Nat) : pf L f (k + 1) = pf L f k ++ [ndH L (f k)] := by
  unfold pf; rw [List.range_succ, List.map_append]; rfl
theorem mem_pf {L : List He} {f : Nat → Int} {k : Nat} {p : Nat × Nat} : p ∈ pf L f k ↔ ∃ i, i < k ∧ ndH L (f i) = p := by
  unfold pf; simp [List.mem_map, List.mem_range]
theorem Ord.le {L : List He} {f : Nat → Int} (h : Ord L f) {i j : Nat} (hij : i ≤ j) (hj : j < L.length) : wtH L (f i) ≤ wtH L (f j) := by
  by_cases c : i = j
  · rw [c]; exact Int.le_refl _
  · have := h.so i j (Nat.zero_le _) (by omega) hj
    unfold lx at this; omega
theorem Ord.whole {L : List He} {f : Nat → Int} (h : Ord L f) {a b : Nat} : Con (pf L f L.length) a b ↔ Con (L.map prH) a b := by
  constructor
  · refine fun c => c.mono fun x y hm => ?_
    obtain ⟨i, hi, hn⟩ := mem_pf.1 hm
    have := h.in_ i hi
    obtain ⟨j, hj⟩ := Int.eq_ofNat_of_zero_le this.1
    rw [hj] at hn this
    exact .edge (mem_all.2 ⟨j, by omega, hn⟩)
  · refine fun c => c.mono fun x y hm => ?_
    obtain ⟨i, hi, hn⟩ := mem_all.1 hm
    obtain ⟨j, hj, e⟩ := h.all i hi
    exact .edge (mem_pf.2 ⟨j, hj, by rw [e]; exact hn⟩)

/-- The union that took the first k edges. -/
def Uk (L : List He) (f : Nat → Int) (k : Nat) (hs : Hs) : Prop := ∀ x y, rt hs x = rt hs y ↔ Con (pf L f k) x y
theorem Uk.start (L : List He) (f : Nat → Int) : Uk L f 0 [] := fun x y => by
  constructor
  · intro h; simp only [rt] at h; subst h; exact .refl _
  · intro c; exact c.ind (f := fun z => rt [] z) fun x y hm => by simp [pf] at hm
theorem Uk.step {L : List He} {f : Nat → Int} {k : Nat} {hs : Hs} (h : Uk L f k hs) : Uk L f (k + 1) (join hs (ndH L (f k)).1 (ndH L (f k)).2) := fun x y => by
  rw [join_rel, h x y, h x, h y, h x, h y, pf_succ]
  exact Con.snoc.symm
theorem ord_of (L : List He) {f0 f : Nat → Int} (h0 : ∀ k, k < L.length → f0 k = (k : Int)) (hs : So (wtH L) f 0 L.length) (hm : Sm f0 f 0 L.length) : Ord L f := by
  refine ⟨hs, fun k hk => ?_, fun i hi => ?_⟩
  · obtain ⟨j, _, j2, j3⟩ := hm.mem (Nat.zero_le k) hk
    rw [← j3, h0 j j2]; omega
  · obtain ⟨j, _, j2, j3⟩ := hm.mem' (Nat.zero_le i) hi
    exact ⟨j, j2, by rw [j3, h0 i hi]⟩

/-! ### What Neck answers, and its law -/
/-- Nodes and edges that may be. -/
structure OkH (n : Int) (L : List He) : Prop where
  n1 : 1 ≤ n
  n2 : n ≤ 60
  len : L.length ≤ 200
  ok : ∀ x ∈ L, 0 ≤ x.1.1 ∧ x.1.1 < x.1.2 ∧ x.1.2 < n ∧ 0 ≤ x.2 ∧ x.2 ≤ 1000000
end Go.Proofs.YtckcbfnffmohgaaGreat.NK
namespace Go.Proofs.YtckcbfnffmohgaaGreat
open Go Go.RowKit Go.ChangeShapes Go.WideShapes
set_option linter.unusedVariables false

def HvAt (w : World) (A : Option Addr) (L : List NK.He) : Prop := L = [] ∨ ∃ b off, A = some ⟨b, off, none⟩ ∧ b < w.heap.size ∧ ∀ (i : Nat) (x : NK.He), L[i]? = some x → w.cell? ⟨b, off + i * 3, none⟩ = some (.int .i64 x.1.1) ∧ w.cell? ⟨b, off + i * 3 + 1, none⟩ = some (.int .i64 x.1.2) ∧ w.cell? ⟨b, off + i * 3 + 2, none⟩ = some (.int .i64 x.2)
theorem HvAt.chg {S : Nat → Prop} {w w' : World} {A : Option Addr} {L : List NK.He} (h : HvAt w A L) (hc : Chg S w w') (hn : L ≠ [] → ∀ x, A = some x → ¬ S x.block) : HvAt w' A L := by
  by_cases h0 : L = []
  · exact .inl h0
  rcases h with h | ⟨b, off, rfl, hb, he⟩
  · exact absurd h h0
  · have hs : ¬ S b := hn h0 _ rfl
    exact .inr ⟨b, off, rfl, Nat.lt_of_lt_of_le hb hc.size, fun i e h => ⟨(hc.cell (p := ⟨b, _, none⟩) hb hs).trans (he i e h).1, (hc.cell (p := ⟨b, _, none⟩) hb hs).trans (he i e h).2.1, (hc.cell (p := ⟨b, _, none⟩) hb hs).trans (he i e h).2.2⟩⟩
theorem HvAt.ext {w w' : World} {A : Option Addr} {L : List NK.He} (h : HvAt w A L) (hb : Below w.heap.size w w') : HvAt w' A L := by
  rcases h with h | ⟨b, off, rfl, hl, he⟩
  · exact .inl h
  · exact .inr ⟨b, off, rfl, Nat.lt_of_lt_of_le hl hb.size, fun i e h => ⟨(hb.cell (p := ⟨b, _, none⟩) hl).trans (he i e h).1, (hb.cell (p := ⟨b, _, none⟩) hl).trans (he i e h).2.1, (hb.cell (p := ⟨b, _, none⟩) hl).trans (he i e h).2.2⟩⟩
theorem HvAt.at_ {w : World} {A : Option Addr} {L : List NK.He} (h : HvAt w A L) {i : Nat} (hi : i < L.length) : ∃ (b off : Nat) (x : NK.He), A = some ⟨b, off, none⟩ ∧ b < w.heap.size ∧ L[i]? = some x ∧ w.cell? ⟨b, off + i * 3, none⟩ = some (.int .i64 x.1.1) ∧ w.cell? ⟨b, off + i * 3 + 1, none⟩ = some (.int .i64 x.1.2) ∧ w.cell? ⟨b, off + i * 3 + 2, none⟩ = some (.int .i64 x.2) := by
  have hx : L[i]? = some L[i] := List.getElem?_eq_getElem hi
  rcases h with h | ⟨b, off, rfl, hb, hc⟩
  · rw [h] at hi; simp at hi
  · exact ⟨b, off, L[i], rfl, hb, hx, hc i _ hx⟩
theorem HvAt.here {w : World} {b off : Nat} {L : List NK.He} (h : HvAt w (some ⟨b, off, none⟩) L) {i : Nat} {x : NK.He} (hx : L[i]? = some x) : b < w.heap.size ∧ w.cell? ⟨b, off + i * 3, none⟩ = some (.int .i64 x.1.1) ∧ w.cell? ⟨b, off + i * 3 + 1, none⟩ = some (.int .i64 x.1.2) ∧ w.cell? ⟨b, off + i * 3 + 2, none⟩ = some (.int .i64 x.2) := by
  rcases h with h | ⟨b', off', e, hb, hc⟩
  · rw [h] at hx; simp at hx
  · simp only [Option.some.injEq, Addr.mk.injEq, and_true] at e
    obtain ⟨rfl, rfl⟩ := e
    exact ⟨hb, hc i _ hx⟩
theorem wtH_at {L : List NK.He} {i : Nat} {x : NK.He} (h : L[i]? = some x) : NK.wtH L (i : Int) = x.2 := by
  unfold NK.wtH
  rw [Int.toNat_natCast, List.getD_eq_getElem?_getD, h]; rfl
theorem ndH_at {L : List NK.He} {i : Nat} {x : NK.He} (h : L[i]? = some x) : NK.ndH L (i : Int) = (x.1.1.toNat, x.1.2.toNat) := by
  unfold NK.ndH NK.prH
  rw [Int.toNat_natCast, List.getD_eq_getElem?_getD, h]; rfl

end Go.Proofs.YtckcbfnffmohgaaGreat
