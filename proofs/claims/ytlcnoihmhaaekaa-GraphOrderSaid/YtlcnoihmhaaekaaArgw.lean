/-
  How steps of a script that came in are read, with the bounds of their numbers. No conditions.
-/
import Derived.Test.YtlcnoihmhaaekaaArg
namespace Go.Proofs.Ytlcnoihmhaaekaa
open Go Go.RowKit Go.ChangeShapes Go.WideShapes

def inI (x : Int) : Prop := -9223372036854775808 ≤ x ∧ x ≤ 9223372036854775807
theorem inI_of {n : Int} (h : (Lit.int .i64 n).wf = true) : inI n := by
  unfold inI
  simpa [Lit.wf, IntKind.min, IntKind.max, IntKind.signed, IntKind.bits] using h
/-- Steps of a script that came in, their numbers in their bounds. -/
def WSteps (w : World) (a : Option Addr) (len : Nat) (s : Nat → Int × Int × Int) : Prop := StepsAt w a len s ∧ ∀ i, i < len → inI (s i).1 ∧ inI (s i).2.1 ∧ inI (s i).2.2
theorem WSteps.chg {w w' : World} {a : Option Addr} {len : Nat} {s : Nat → Int × Int × Int} (h : WSteps w a len s) (hb : Below w.heap.size w w') : WSteps w' a len s := ⟨h.1.chg hb, h.2⟩
theorem WSteps.at_ {w : World} {a : Option Addr} {len i : Nat} {s : Nat → Int × Int × Int} (h : WSteps w a len s) (hi : i < len) :
    ∃ (b off : Nat) (q x y : Int), a = some ⟨b, off, none⟩ ∧ w.cell? ⟨b, off + i * 4, none⟩ = some (.int .i64 q) ∧ w.cell? ⟨b, off + i * 4 + 1, none⟩ = some (.int .i64 x) ∧ w.cell? ⟨b, off + i * 4 + 2, none⟩ = some (.int .i64 y) ∧ inI q ∧ inI x ∧ inI y ∧ s i = (q, x, y) ∧ b < w.heap.size := by
  rcases h.1 with h0 | ⟨b, off, rfl, hlt, hc⟩
  · omega
  · exact ⟨b, off, _, _, _, rfl, (hc i hi).1, (hc i hi).2.1, (hc i hi).2.2, (h.2 i hi).1, (h.2 i hi).2.1, (h.2 i hi).2.2, rfl, hlt⟩
theorem open_wsteps {H : Type} {enc : TypeId × Value → H} {w : World} {spare : Nat → Bool} {held : Bool} {a : Option Addr} {len cap : Nat} {d : DataW H} {p : List MemPlace} (h : DataW.Trod enc Try.prog w 0 spare held 22 (.slice a len cap) d p) : ∃ s, WSteps w a len s ∧ len ≤ cap ∧ cap ≤ maxLen := by
  obtain ⟨fuel, hf⟩ := h
  obtain ⟨hl, hm, h0 | ⟨b, off, rfl, hlt, n, hx⟩⟩ := open_structs sliceSteps Try.underlying34 cellsStep (by decide) (show DataW.trod enc Try.prog w 0 spare held fuel 22 [.slice a len cap] = _ from hf)
  · exact ⟨fun _ => (0, 0, 0), ⟨.inl h0, fun i hi => by omega⟩, hl, hm⟩
  · have each : ∀ i, i < len → ∃ q : Int × Int × Int, w.cell? ⟨b, off + i * 4, none⟩ = some (.int .i64 q.1) ∧ w.cell? ⟨b, off + i * 4 + 1, none⟩ = some (.int .i64 q.2.1) ∧ w.cell? ⟨b, off + i * 4 + 2, none⟩ = some (.int .i64 q.2.2) ∧ inI q.1 ∧ inI q.2.1 ∧ inI q.2.2 := by
      intro i hi
      obtain ⟨cs, h1, h2, h3⟩ := hx i hi
      obtain ⟨c0, c1, c2, c3, rfl⟩ := list4 h1
      obtain ⟨y0, g0⟩ := h3 0 _ rfl
      obtain ⟨y1, g1⟩ := h3 1 _ rfl
      obtain ⟨y2, g2⟩ := h3 2 _ rfl
      simp [cellsInt] at g0 g1 g2
      obtain ⟨x0, e0, _, m0⟩ := DataW.trod_int Try.underlying3 g0
      obtain ⟨x1, e1, _, m1⟩ := DataW.trod_int Try.underlying3 g1
      obtain ⟨x2, e2, _, m2⟩ := DataW.trod_int Try.underlying3 g2
      simp at e0 e1 e2
      subst e0; subst e1; subst e2
      exact ⟨(x0, x1, x2), h2 0 _ rfl, h2 1 _ rfl, h2 2 _ rfl, inI_of m0, inI_of m1, inI_of m2⟩
    obtain ⟨s, hs⟩ := Deep.choose_lt each
    exact ⟨s, ⟨.inr ⟨b, off, rfl, hlt, fun i hi => ⟨(hs i hi).1, (hs i hi).2.1, (hs i hi).2.2.1⟩⟩, fun i hi => (hs i hi).2.2.2⟩, hl, hm⟩
end Go.Proofs.Ytlcnoihmhaaekaa
