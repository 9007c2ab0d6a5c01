/-
  Rows of bools in memory; footbridgesame.Bools. Condition: the rows lie as 'BoolsAt' says.
-/
import Derived.Test.YtckcbfnffmohgaaGreatBs5
import Derived.Test.YtckcbfnffmohgaaGreatBs2
import Derived.Deep.QuietTactic
import Derived.BigQuiet
namespace Go.Proofs.YtckcbfnffmohgaaGreat
open Go Go.RowKit Go.ChangeShapes Go.WideShapes
set_option linter.unusedVariables false

def BoolsAt (w : World) (a : Option Addr) (xs : List Bool) : Prop := xs = [] ∨ ∃ b off, a = some ⟨b, off, none⟩ ∧ b < w.heap.size ∧ ∀ i v, xs[i]? = some v → w.cell? ⟨b, off + i, none⟩ = some (.bool v)
theorem BoolsAt.ext {w w' : World} {a : Option Addr} {xs : List Bool} (h : BoolsAt w a xs) (hb : Below w.heap.size w w') : BoolsAt w' a xs := by
  rcases h with h | ⟨b, off, rfl, hl, hc⟩
  · exact .inl h
  · exact .inr ⟨b, off, rfl, Nat.lt_of_lt_of_le hl hb.size, fun i v hv => (hb.cell (p := ⟨b, off + i, none⟩) hl).trans (hc i v hv)⟩
theorem BoolsAt.of_own {w : World} {base c n : Nat} {A : Option Addr} {e : TypeId} {xs : List Bool} (h : w.ownsRow base e 1 (.slice A n c) n (xs.map Value.bool)) : BoolsAt w A xs ∧ xs.length = n ∧ n ≤ c := by
  have hl : xs.length = n := by have := h.1; simpa using this
  rcases Nat.eq_zero_or_pos n with h0 | h0
  · exact ⟨.inl (List.eq_nil_of_length_eq_zero (by omega)), hl, by omega⟩
  obtain ⟨g, cap, hv, hc, _⟩ := own_form h h0
  simp only [Value.slice.injEq, true_and] at hv
  obtain ⟨rfl, rfl⟩ := hv
  refine ⟨.inr ⟨g, 0, rfl, own_lt h (by simp [Value.ownBlock]), fun i v hv => ?_⟩, hl, hc⟩
  have hi : i < n := by have := (List.getElem?_eq_some_iff.1 hv).1; omega
  rw [Nat.zero_add, World.ownsRow.cellAt h i (by omega), List.getElem?_map, hv]; rfl
theorem BoolsAt.take {w : World} {A : Option Addr} {l : List Bool} (h : BoolsAt w A l) (k : Nat) : BoolsAt w A (l.take k) := by
  rcases h with h | ⟨b, off, rfl, hl, he⟩
  · exact .inl (by rw [h]; simp)
  · refine .inr ⟨b, off, rfl, hl, fun i e hi => he i e ?_⟩
    rw [List.getElem?_take] at hi
    split at hi
    · exact hi
    · cases hi
theorem BoolsAt.drop {w : World} {A : Option Addr} {l : List Bool} (h : BoolsAt w A l) (k : Nat) : BoolsAt w (A.map (·.add k)) (l.drop k) := by
  rcases h with h | ⟨b, off, rfl, hl, he⟩
  · exact .inl (by rw [h]; simp)
  · refine .inr ⟨b, off + k, by simp [Addr.add_mid], hl, fun i e hi => ?_⟩
    rw [List.getElem?_drop] at hi
    have := he _ _ hi
    rwa [← Nat.add_assoc] at this
theorem drop_nil_of {w : World} {A : Option Addr} {l : List Bool} {k : Nat} (h : l.length ≤ k) : BoolsAt w A (l.drop k) := .inl (List.drop_eq_nil_of_le h)
def TruePost (w : World) (r : Bool) (e : Ending) (w' : World) : Prop := e = .returned (.bool r) ∧ Below w.heap.size w w'
def TrueQuiet (w : World) (r : Bool) (e : Ending) (w' : World) : Prop := e = .returned (.bool r) ∧ ∃ m, w' = w.drewN m
theorem BoolsAt.drewN {w : World} {A : Option Addr} {l : List Bool} (h : BoolsAt w A l) (n : Nat) : BoolsAt (w.drewN n) A l := h
end Go.Proofs.YtckcbfnffmohgaaGreat
