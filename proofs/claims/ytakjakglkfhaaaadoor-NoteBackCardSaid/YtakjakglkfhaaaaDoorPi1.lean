/-
  Opening []api.Edge. No conditions.
-/
import Derived.Test.YtakjakglkfhaaaaDoorRf0
import Derived.Test.YtakjakglkfhaaaaDoorArg0
namespace Go.Proofs.YtakjakglkfhaaaaDoor
open Go Go.RowKit Go.ChangeShapes Go.WideShapes

theorem open_edges {H : Type} {enc : TypeId × Value → H} {w : World} {spare : Nat → Bool} {held : Bool} {a : Option Addr} {len cap : Nat} {d : DataW H} {p : List MemPlace} (h : DataW.Trod enc Tryd.prog w 0 spare held 22 (.slice a len cap) d p) : ∃ l : List AK.Ed, EdsAt w a l ∧ l.length = len ∧ len ≤ cap ∧ cap ≤ maxLen := by
  obtain ⟨fuel, hf⟩ := h
  obtain ⟨hl, hm, h0 | ⟨b, off, rfl, hlt, n, hx⟩⟩ := open_structs Tryd.underlying22 Tryd.underlying63 (show Tryd.prog.cellsOf 63 = 2 by kernel_rfl) (by decide) (show DataW.trod enc Tryd.prog w 0 spare held fuel 22 [.slice a len cap] = _ from hf)
  · exact ⟨[], .inl rfl, h0.symm, hl, hm⟩
  · have each : ∀ i, i < len → ∃ q : AK.Ed, w.cell? ⟨b, off + i * 2, none⟩ = some (.int .i64 q.1) ∧ w.cell? ⟨b, off + i * 2 + 1, none⟩ = some (.int .i64 q.2) := by
      intro i hi
      obtain ⟨cs, h1, h2, h3⟩ := hx i hi
      obtain ⟨c0, c1, rfl⟩ := list2 h1
      obtain ⟨y0, g0⟩ := h3 0 _ rfl
      obtain ⟨y1, g1⟩ := h3 1 _ rfl
      simp [cellsInt] at g0 g1
      obtain ⟨x0, e0, _⟩ := DataW.trod_int Tryd.underlying3 g0
      obtain ⟨x1, e1, _⟩ := DataW.trod_int Tryd.underlying3 g1
      simp at e0 e1
      subst e0; subst e1
      exact ⟨(x0, x1), by simpa using h2 0 _ rfl, h2 1 _ rfl⟩
    obtain ⟨s, hs⟩ := Deep.choose_lt each
    refine ⟨(List.range len).map s, .inr ⟨b, off, rfl, hlt, fun i x hx => ?_⟩, by simp, hl, hm⟩
    have hi : i < len := by have := (List.getElem?_eq_some_iff.1 hx).1; simpa using this
    simp [hi] at hx
    subst hx
    exact hs i hi
end Go.Proofs.YtakjakglkfhaaaaDoor
