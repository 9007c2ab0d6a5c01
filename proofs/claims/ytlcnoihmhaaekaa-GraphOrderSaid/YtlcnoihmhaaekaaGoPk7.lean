/-
  A graph of a call's own beside a row of edges that grows. Conditions: they lie as 'OrR' says.
-/
import Derived.Test.YtlcnoihmhaaekaaBs38
import Derived.Test.YtlcnoihmhaaekaaGoPk1
import Derived.Test.YtlcnoihmhaaekaaArgw
import Derived.Test.YtlcnoihmhaaekaaGoPk5
import Derived.Test.YtlcnoihmhaaekaaGoPk6
namespace Go.Proofs.Ytlcnoihmhaaekaa
open Go Go.RowKit SQ TR DF PD PT
set_option linter.unusedVariables false

structure OrR (w wr : World) (H : GrP) (n N : Nat) (X B : List AK.Ed) (vO : Value) : Prop where
  g : ∃ f, GcS w wr H n N B f
  row : DRow wr vO X
  new : ∀ j, vO.ownBlock = some j → w.heap.size ≤ j
  away : ∀ j, vO.ownBlock = some j → ¬ H.T j
section
variable {w wr w' W w5 : World} {H H' : GrP} {n N N' g c : Nat} {X B B' : List AK.Ed} {f f' : AK.Ed → GM.St} {vO : Value} {x : AK.Ed}
theorem OrR.moved (h : OrR w wr H n N X B vO) (hx : Ext wr w') : OrR w w' H n N X B vO := by
  obtain ⟨f, g⟩ := h.g
  exact ⟨⟨f, g.moved hx⟩, own_chg h.row (Chg.of_below hx) (fun k hk => by have := own_lt h.row hk; omega), h.new, h.away⟩
theorem OrR.mono (h : OrR w wr H n N X B vO) (hN : N ≤ N') : OrR w wr H n N' X B vO := by
  obtain ⟨f, g⟩ := h.g
  exact ⟨⟨f, g.mono hN⟩, h.row, h.new, h.away⟩
theorem OrR.bel (h : OrR w wr H n N X B vO) : Ext w wr := by obtain ⟨f, g⟩ := h.g; exact g.ext
theorem OrR.up (h : OrR w wr H n N X B vO) : B.Pairwise ltE := by obtain ⟨f, g⟩ := h.g; exact g.at_.k.up
theorem OrR.step (h : OrR w wr H n N X B vO) (hg : GcS w wr H n N B f) (h' : GrI w' H' n N' B' f') (hc : GrC wr w' H H') : OrR w w' H' n N' X B' vO :=
  ⟨⟨f', hg.step h' hc⟩, own_chg h.row hc.chg (fun k hk hs => h.away k hk (.inl hs)), h.new, fun j hj hs => (hc.t j hs).elim (h.away j hj) (fun q => by have := own_lt h.row hj; omega)⟩
theorem OrR.push (h : OrR w wr H n N X B vO) (hW : Ext wr W) (ho : w5.ownsRow 0 38 2 (.slice (some ⟨g, 0, none⟩) (X.length + 1) c) (X.length + 1) (rowsOf edC X ++ edC x))
    (hc : Chg (fun j => vO.ownBlock = some j) W w5) (hat : vO.ownBlock = some g ∨ g = W.heap.size) : OrR w w5 H n N (X ++ [x]) B (.slice (some ⟨g, 0, none⟩) (X.length + 1) c) := by
  have h1 := h.moved hW
  obtain ⟨f, gg⟩ := h1.g
  refine ⟨⟨f, ⟨gg.at_.m.chg hc (fun k hk hs => h.away k hs (.inl hk)) (fun i F hi hs => h.away _ hs (.inr ⟨i, F, hi, rfl⟩)) (fun k hk cs hb => own_ne h1.row hb (by decide) hk), gg.at_.k, gg.at_.few, gg.at_.nN⟩, gg.ext.chg_new hc (fun k hk => h.new k hk), gg.new⟩, ?_, fun j hj => ?_, fun j hj => ?_⟩
  · unfold DRow
    rw [List.length_append, rowsOf_app, rowsOf_one]
    exact ho
  · obtain rfl : g = j := by simpa [Value.ownBlock] using hj
    rcases hat with hat | hat
    · exact h.new _ hat
    · have := gg.ext.size; omega
  · obtain rfl : g = j := by simpa [Value.ownBlock] using hj
    rcases hat with hat | hat
    · exact h.away _ hat
    · intro hs
      have := gg.at_.m.ltT _ hs; omega
theorem OrR.start (h : GcS w wr H n N B f) : OrR w wr H n N [] B (.slice none 0 0) := ⟨⟨f, h⟩, World.ownsRow_nil _ _ _ _, fun j hj => by simp [Value.ownBlock] at hj, fun j hj => by simp [Value.ownBlock] at hj⟩
end
end Go.Proofs.Ytlcnoihmhaaekaa
