/-
  How arguments that came in are read: steps of a script. No conditions.
-/
import Derived.Test.YtlcnoihmhaaekaaArg0
namespace Go.Proofs.Ytlcnoihmhaaekaa
open Go Go.RowKit Go.ChangeShapes Go.WideShapes

/-- Steps of a script that came in: of each its three numbers. -/
def StepsAt (w : World) (a : Option Addr) (len : Nat) (s : Nat → Int × Int × Int) : Prop :=
  len = 0 ∨ ∃ b off, a = some ⟨b, off, none⟩ ∧ b < w.heap.size ∧ ∀ i, i < len → w.cell? ⟨b, off + i * 4, none⟩ = some (.int .i64 (s i).1) ∧ w.cell? ⟨b, off + i * 4 + 1, none⟩ = some (.int .i64 (s i).2.1) ∧ w.cell? ⟨b, off + i * 4 + 2, none⟩ = some (.int .i64 (s i).2.2)
theorem StepsAt.chg {w w' : World} {a : Option Addr} {len : Nat} {s : Nat → Int × Int × Int} (h : StepsAt w a len s) (hb : Below w.heap.size w w') : StepsAt w' a len s := by
  rcases h with h | ⟨b, off, rfl, hlt, hc⟩
  · exact .inl h
  · exact .inr ⟨b, off, rfl, Nat.lt_of_lt_of_le hlt hb.size, fun i hi => ⟨(hb.cell (p := ⟨b, _, none⟩) hlt).trans (hc i hi).1, (hb.cell (p := ⟨b, _, none⟩) hlt).trans (hc i hi).2.1, (hb.cell (p := ⟨b, _, none⟩) hlt).trans (hc i hi).2.2⟩⟩
theorem open_steps {H : Type} {enc : TypeId × Value → H} {w : World} {spare : Nat → Bool} {held : Bool} {a : Option Addr} {len cap : Nat} {d : DataW H} {p : List MemPlace} (h : DataW.Trod enc Try.prog w 0 spare held 22 (.slice a len cap) d p) : ∃ s, StepsAt w a len s ∧ len ≤ cap ∧ cap ≤ maxLen := by
  obtain ⟨fuel, hf⟩ := h
  obtain ⟨hl, hm, h0 | ⟨b, off, rfl, hlt, n, hx⟩⟩ := open_structs sliceSteps Try.underlying34 cellsStep (by decide) (show DataW.trod enc Try.prog w 0 spare held fuel 22 [.slice a len cap] = _ from hf)
  · exact ⟨fun _ => (0, 0, 0), .inl h0, hl, hm⟩
  · have each : ∀ i, i < len → ∃ q : Int × Int × Int, w.cell? ⟨b, off + i * 4, none⟩ = some (.int .i64 q.1) ∧ w.cell? ⟨b, off + i * 4 + 1, none⟩ = some (.int .i64 q.2.1) ∧ w.cell? ⟨b, off + i * 4 + 2, none⟩ = some (.int .i64 q.2.2) := by
      intro i hi
      obtain ⟨cs, h1, h2, h3⟩ := hx i hi
      obtain ⟨c0, c1, c2, c3, rfl⟩ := list4 h1
      obtain ⟨y0, g0⟩ := h3 0 _ rfl
      obtain ⟨y1, g1⟩ := h3 1 _ rfl
      obtain ⟨y2, g2⟩ := h3 2 _ rfl
      simp [cellsInt] at g0 g1 g2
      obtain ⟨x0, e0, _⟩ := DataW.trod_int Try.underlying3 g0
      obtain ⟨x1, e1, _⟩ := DataW.trod_int Try.underlying3 g1
      obtain ⟨x2, e2, _⟩ := DataW.trod_int Try.underlying3 g2
      simp at e0 e1 e2
      subst e0; subst e1; subst e2
      exact ⟨(x0, x1, x2), h2 0 _ rfl, h2 1 _ rfl, h2 2 _ rfl⟩
    obtain ⟨s, hs⟩ := Deep.choose_lt each
    exact ⟨s, .inr ⟨b, off, rfl, hlt, hs⟩, hl, hm⟩
end Go.Proofs.Ytlcnoihmhaaekaa
