/-
  Walks of tour's Cut (either order), Same, Members, Size. Condition: the forest lies in memory as 'FoAt' says.
-/
import Derived.Test.YtckcbfnffmohgaaSpanLeastPk48
import Derived.Test.YtckcbfnffmohgaaSpanLeastPk28
namespace Go.Proofs.Ytckcbfnffmohgaa
open Go Go.RowKit SQ TR DF PD
set_option linter.unusedVariables false

/-- The nodes that hang together with a node, rising. -/
noncomputable def comp (n : Nat) (E : List AK.Ed) (a : Nat) : List Int := ((List.range n).filter fun u => by classical exact decide (Cn (adj E) a u)).map fun (x : Nat) => (x : Int)
theorem comp_mem {n a : Nat} {E : List AK.Ed} {x : Int} : x ∈ comp n E a ↔ ∃ u : Nat, u < n ∧ Cn (adj E) a u ∧ x = (u : Int) := by
  unfold comp
  rw [List.mem_map]
  constructor
  · rintro ⟨u, hu, rfl⟩
    rw [List.mem_filter, List.mem_range] at hu
    exact ⟨u, hu.1, by simpa using hu.2, rfl⟩
  · rintro ⟨u, h1, h2, rfl⟩
    exact ⟨u, List.mem_filter.2 ⟨List.mem_range.2 h1, by simpa using h2⟩, rfl⟩
theorem comp_up (n : Nat) (E : List AK.Ed) (a : Nat) : (comp n E a).Pairwise (fun x y => x < y) := by
  unfold comp
  rw [List.pairwise_map]
  exact (List.pairwise_lt_range.filter _).imp (fun h => by omega)
theorem up_ext {l m : List Int} (hl : l.Pairwise (fun x y => x < y)) (hm : m.Pairwise (fun x y => x < y)) (h : ∀ x, x ∈ l ↔ x ∈ m) : l = m := by
  induction l generalizing m with
  | nil =>
    cases m with
    | nil => rfl
    | cons y m => exact absurd ((h y).2 (List.mem_cons_self ..)) (List.not_mem_nil)
  | cons x l ih =>
    cases m with
    | nil => exact absurd ((h x).1 (List.mem_cons_self ..)) (List.not_mem_nil)
    | cons y m =>
      rw [List.pairwise_cons] at hl hm
      have e : x = y := by
        rcases List.mem_cons.1 ((h x).1 (List.mem_cons_self ..)) with w | w
        · exact w
        · rcases List.mem_cons.1 ((h y).2 (List.mem_cons_self ..)) with z | z
          · exact z.symm
          · have := hl.1 y z; have := hm.1 x w; omega
      subst e
      congr 1
      refine ih hl.2 hm.2 fun z => ⟨fun w => ?_, fun w => ?_⟩
      · rcases List.mem_cons.1 ((h z).1 (List.mem_cons_of_mem _ w)) with q | q
        · subst q; have := hl.1 z w; omega
        · exact q
      · rcases List.mem_cons.1 ((h z).2 (List.mem_cons_of_mem _ w)) with q | q
        · subst q; have := hm.1 z w; omega
        · exact q
theorem sorted_up {xs : List Int} (h : xs.Nodup) : (sorted xs).Pairwise (fun x y => x < y) := by
  have h1 := sorted_rises xs
  have h2 : (sorted xs).Nodup := (List.mergeSort_perm xs _).nodup_iff.2 h
  exact (h1.and h2).imp (fun ⟨a, b⟩ => by omega)
theorem comp_sorted {n r a : Nat} {E : List AK.Ed} {l : List Int} (h : TR.Way (adj E) r l) (hr : r < n) (hE : Fo n E) (hn : n ≤ 60) (c : Cn (adj E) a r) : sorted (mks l) = comp n E a := by
  obtain ⟨h1, h2, h3⟩ := h.mks hr hE hn
  refine up_ext (sorted_up h1) (comp_up n E a) fun x => ?_
  rw [sorted_mem, comp_mem]
  constructor
  · intro hx
    obtain ⟨v, v1, v2, v3⟩ := h2 x hx
    exact ⟨v, v2, c.trans v3, v1⟩
  · rintro ⟨u, u1, u2, rfl⟩
    exact h3 u u1 (c.symm.trans u2)
section
variable {w : World} {F : FoP} {n N : Nat} {E : List AK.Ed}
def MemPost (w : World) (xs : List Int) (e : Ending) (w' : World) : Prop := ∃ A c, e = .returned (.tuple #[.slice A xs.length c, .nilIface]) ∧ w'.ownsRow 0 3 1 (.slice A xs.length c) xs.length (intsV xs) ∧ Ext w w' ∧ ∀ k, (Value.slice A xs.length c).ownBlock = some k → w.heap.size ≤ k
end
end Go.Proofs.Ytckcbfnffmohgaa
