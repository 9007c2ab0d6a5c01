/-
  Rows of edges that weigh something, as they lie in memory; how they come in. No conditions.
-/
import Derived.Test.YtckcbfnffmohgaaDoorNk1
import Derived.Test.YtckcbfnffmohgaaDoorMem
import Derived.Test.YtckcbfnffmohgaaDoorArg0
namespace Go.Proofs.YtckcbfnffmohgaaDoor
open Go Go.RowKit Go.ChangeShapes Go.WideShapes
set_option linter.unusedVariables false

def HvAt (w : World) (A : Option Addr) (L : List NK.He) : Prop := L = [] ∨ ∃ b off, A = some ⟨b, off, none⟩ ∧ b < w.heap.size ∧ ∀ (i : Nat) (x : NK.He), L[i]? = some x → w.cell? ⟨b, off + i * 3, none⟩ = some (.int .i64 x.1.1) ∧ w.cell? ⟨b, off + i * 3 + 1, none⟩ = some (.int .i64 x.1.2) ∧ w.cell? ⟨b, off + i * 3 + 2, none⟩ = some (.int .i64 x.2)
theorem HvAt.chg {S : Nat → Prop} {w w' : World} {A : Option Addr} {L : List NK.He} (h : HvAt w A L) (hc : Chg S w w') (hn : L ≠ [] → ∀ x, A = some x → ¬ S x.block) : HvAt w' A L := by
  by_cases h0 : L = []
  · exact .inl h0
  rcases h with h | ⟨b, off, rfl, hb, he⟩
  · exact absurd h h0
  · have hs : ¬ S b := hn h0 _ rfl
    exact .inr ⟨b, off, rfl, Nat.lt_of_lt_of_le hb hc.size, fun i e h => ⟨(hc.cell (p := ⟨b, _, none⟩) hb hs).trans (he i e h).1, (hc.cell (p := ⟨b, _, none⟩) hb hs).trans (he i e h).2.1, (hc.cell (p := ⟨b, _, none⟩) hb hs).trans (he i e h).2.2⟩⟩
theorem HvAt.ext {w w' : World} {A : Option Addr} {L : List NK.He} (h : HvAt w A L) (hb : Below w.heap.size w w') : HvAt w' A L := by
  rcases h with h | ⟨b, off, rfl, hl, he⟩
  · exact .inl h
  · exact .inr ⟨b, off, rfl, Nat.lt_of_lt_of_le hl hb.size, fun i e h => ⟨(hb.cell (p := ⟨b, _, none⟩) hl).trans (he i e h).1, (hb.cell (p := ⟨b, _, none⟩) hl).trans (he i e h).2.1, (hb.cell (p := ⟨b, _, none⟩) hl).trans (he i e h).2.2⟩⟩
theorem HvAt.at_ {w : World} {A : Option Addr} {L : List NK.He} (h : HvAt w A L) {i : Nat} (hi : i < L.length) : ∃ (b off : Nat) (x : NK.He), A = some ⟨b, off, none⟩ ∧ b < w.heap.size ∧ L[i]? = some x ∧ w.cell? ⟨b, off + i * 3, none⟩ = some (.int .i64 x.1.1) ∧ w.cell? ⟨b, off + i * 3 + 1, none⟩ = some (.int .i64 x.1.2) ∧ w.cell? ⟨b, off + i * 3 + 2, none⟩ = some (.int .i64 x.2) := by
  have hx : L[i]? = some L[i] := List.getElem?_eq_getElem hi
  rcases h with h | ⟨b, off, rfl, hb, hc⟩
  · rw [h] at hi; simp at hi
  · exact ⟨b, off, L[i], rfl, hb, hx, hc i _ hx⟩
theorem HvAt.here {w : World} {b off : Nat} {L : List NK.He} (h : HvAt w (some ⟨b, off, none⟩) L) {i : Nat} {x : NK.He} (hx : L[i]? = some x) : b < w.heap.size ∧ w.cell? ⟨b, off + i * 3, none⟩ = some (.int .i64 x.1.1) ∧ w.cell? ⟨b, off + i * 3 + 1, none⟩ = some (.int .i64 x.1.2) ∧ w.cell? ⟨b, off + i * 3 + 2, none⟩ = some (.int .i64 x.2) := by
  rcases h with h | ⟨b', off', e, hb, hc⟩
  · rw [h] at hx; simp at hx
  · simp only [Option.some.injEq, Addr.mk.injEq, and_true] at e
    obtain ⟨rfl, rfl⟩ := e
    exact ⟨hb, hc i _ hx⟩
theorem wtH_at {L : List NK.He} {i : Nat} {x : NK.He} (h : L[i]? = some x) : NK.wtH L (i : Int) = x.2 := by
  unfold NK.wtH
  rw [Int.toNat_natCast, List.getD_eq_getElem?_getD, h]; rfl
theorem ndH_at {L : List NK.He} {i : Nat} {x : NK.He} (h : L[i]? = some x) : NK.ndH L (i : Int) = (x.1.1.toNat, x.1.2.toNat) := by
  unfold NK.ndH NK.prH
  rw [Int.toNat_natCast, List.getD_eq_getElem?_getD, h]; rfl

theorem cellsEdge : Tryd.prog.cellsOf 34 = 2 := by kernel_rfl
theorem open_heavy {H : Type} {enc : TypeId × Value → H} {w : World} {spare : Nat → Bool} {held : Bool} {a : Option Addr} {len cap : Nat} {d : DataW H} {p : List MemPlace} (h : DataW.Trod enc Tryd.prog w 0 spare held 22 (.slice a len cap) d p) : ∃ L : List NK.He, HvAt w a L ∧ L.length = len ∧ len ≤ cap ∧ cap ≤ maxLen := by
  obtain ⟨fuel, hf⟩ := h
  obtain ⟨hl, hm, h0 | ⟨b, off, rfl, hlt, n, hx⟩⟩ := open_structs Tryd.underlying22 Tryd.underlying36 (show Tryd.prog.cellsOf 36 = 3 by kernel_rfl) (by decide) (show DataW.trod enc Tryd.prog w 0 spare held fuel 22 [.slice a len cap] = _ from hf)
  · exact ⟨[], .inl rfl, h0.symm, hl, hm⟩
  · have each : ∀ i, i < len → ∃ q : NK.He, w.cell? ⟨b, off + i * 3, none⟩ = some (.int .i64 q.1.1) ∧ w.cell? ⟨b, off + i * 3 + 1, none⟩ = some (.int .i64 q.1.2) ∧ w.cell? ⟨b, off + i * 3 + 2, none⟩ = some (.int .i64 q.2) := by
      intro i hi
      obtain ⟨cs, h1, h2, h3⟩ := hx i hi
      obtain ⟨c0, c1, c2, rfl⟩ := list3 h1
      obtain ⟨y0, g0⟩ := h3 0 _ rfl
      obtain ⟨y1, g1⟩ := h3 1 _ rfl
      simp [cellsInt, cellsEdge] at g0 g1
      obtain ⟨xs, k', hk, _, _, hl', hall⟩ := DataW.trod_struct Tryd.underlying34 g0
      have e0 := hall 0 _ rfl
      have e1 := hall 1 _ rfl
      obtain ⟨z0, hz0⟩ : ∃ z, xs[0]? = some z := ⟨_, List.getElem?_eq_getElem (by rw [hl']; decide)⟩
      obtain ⟨z1, hz1⟩ : ∃ z, xs[1]? = some z := ⟨_, List.getElem?_eq_getElem (by rw [hl']; decide)⟩
      rw [hz0] at e0
      rw [hz1] at e1
      simp [cellsInt] at e0 e1
      obtain ⟨x0, e0, _⟩ := DataW.trod_int Tryd.underlying3 e0
      obtain ⟨x1, e1, _⟩ := DataW.trod_int Tryd.underlying3 e1
      obtain ⟨x2, e2, _⟩ := DataW.trod_int Tryd.underlying3 g1
      simp at e0 e1 e2
      subst e0; subst e1; subst e2
      exact ⟨((x0, x1), x2), by simpa using h2 0 _ rfl, h2 1 _ rfl, h2 2 _ rfl⟩
    obtain ⟨s, hs⟩ := Deep.choose_lt each
    refine ⟨(List.range len).map s, .inr ⟨b, off, rfl, hlt, fun i x hx => ?_⟩, by simp, hl, hm⟩
    have hi : i < len := by have := (List.getElem?_eq_some_iff.1 hx).1; simpa using this
    simp [hi] at hx
    subst hx
    exact hs i hi
end Go.Proofs.YtckcbfnffmohgaaDoor
