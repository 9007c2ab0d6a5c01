/-
  Of what type a graph's blocks are. Condition: the graph lies in memory as 'GrM' says.
-/
import Derived.Test.YtlcnoihmhaaekaaBs38
namespace Go.Proofs.Ytlcnoihmhaaekaa
open Go Go.RowKit SQ TR DF PD PT
set_option linter.unusedVariables false

section
variable {w w' : World} {G : GrP} {n N : Nat} {A : List AK.Ed} {f : AK.Ed → GM.St} {Es : Nat → List AK.Ed} {F : FoP} {E : List AK.Ed}
theorem FoAt.notyp (h : FoAt w F n N E) {t : TypeId} (ht : ¬ (t = 67 ∨ t = 3)) {k : Nat} {cs : Array Value} (hb : Blk w k t cs) : ¬ (F.S k ∨ k = F.fb) := by
  obtain ⟨p, s, m, h1, h2, h3, h4⟩ := h.ways
  obtain ⟨me, k1, k2⟩ := h.edges
  rintro ((rfl | rfl | rfl) | rfl)
  · exact h3.blk_ne hb rfl
  · exact own_ne h2 hb (fun e => ht (.inr e.symm)) rfl
  · exact k1.blk_ne hb rfl
  · exact (h.blk.ne_ hb (fun e => ht (.inl e.symm))) rfl
theorem GrM.notyp (h : GrM w G n N A f Es) {t : TypeId} (ht : ¬ (t = 85 ∨ t = 23 ∨ t = 67 ∨ t = 3)) {k : Nat} {cs : Array Value} (hb : Blk w k t cs) : ¬ G.T k := by
  obtain ⟨me, m1, m2⟩ := h.edges
  have hF : ∀ (i : Nat) (F : FoP), G.Fs[i]? = some F → ¬ (F.S k ∨ k = F.fb) := fun i F hi => (h.fo i F hi).notyp (fun e => ht (e.elim (fun e => .inr (.inr (.inl e))) fun e => .inr (.inr (.inr e)))) hb
  rintro ((rfl | rfl | rfl | ⟨i, F, hi, hk⟩) | ⟨i, F, hi, hk⟩)
  · exact (h.blk.ne_ hb (fun e => ht (.inl e.symm))) rfl
  · exact m1.blk_ne hb rfl
  · exact own_ne h.row hb (fun e => ht (.inr (.inl e.symm))) rfl
  · exact hF i F hi (.inl hk)
  · exact hF i F hi (.inr hk)
end
end Go.Proofs.Ytlcnoihmhaaekaa
