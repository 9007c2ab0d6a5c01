/-
  Rows of one's own that grow: of edges, of numbers. No conditions.
-/
import Derived.Test.YtckcbfnffmohgaaDoorPf0
import Derived.Test.YtckcbfnffmohgaaDoorMem3
import Derived.Test.YtckcbfnffmohgaaDoorInts
namespace Go.Proofs.YtckcbfnffmohgaaDoor
open Go Go.RowKit
set_option linter.unusedVariables false

structure GrE (w : World) (d : List AK.Ed) (vO : Value) (wr : World) : Prop where
  row : DRow wr vO d
  ext : Ext w wr
  new : ∀ j, vO.ownBlock = some j → w.heap.size ≤ j
structure GrI (w : World) (d : List Int) (vO : Value) (wr : World) : Prop where
  row : wr.ownsRow 0 3 1 vO d.length (intsV d)
  ext : Ext w wr
  new : ∀ j, vO.ownBlock = some j → w.heap.size ≤ j
theorem snoc_len' {α : Type} (d : List α) (x : α) : (d ++ [x]).length = d.length + 1 := by rw [List.length_append]; rfl
section
variable {w wr w' : World} {d : List AK.Ed} {x : AK.Ed} {di : List Int} {y : Int} {vO : Value} {g c : Nat}
theorem GrE.nil (h : Ext w wr) : GrE w [] (.slice none 0 0) wr := ⟨World.ownsRow_nil _ _ _ _, h, fun j hj => by simp [Value.ownBlock] at hj⟩
theorem GrI.nil (h : Ext w wr) : GrI w [] (.slice none 0 0) wr := ⟨World.ownsRow_nil _ _ _ _, h, fun j hj => by simp [Value.ownBlock] at hj⟩
theorem GrE.moved (h : GrE w d vO wr) (hx : Ext wr w') : GrE w d vO w' :=
  ⟨own_chg h.row (Chg.of_below hx) (fun k hk => by have := own_lt h.row hk; omega), Ext.trans h.ext hx, h.new⟩
theorem GrI.moved (h : GrI w di vO wr) (hx : Ext wr w') : GrI w di vO w' :=
  ⟨own_chg h.row (Chg.of_below hx) (fun k hk => by have := own_lt h.row hk; omega), Ext.trans h.ext hx, h.new⟩
theorem GrE.push (h : GrE w d vO wr) (ho : w'.ownsRow 0 34 2 (.slice (some ⟨g, 0, none⟩) (d.length + 1) c) (d.length + 1) (rowsOf edC d ++ edC x)) (hc : Chg (fun k => vO.ownBlock = some k) wr w') (hat : vO.ownBlock = some g ∨ g = wr.heap.size) : GrE w (d ++ [x]) (.slice (some ⟨g, 0, none⟩) (d.length + 1) c) w' := by
  refine ⟨?_, ((Chg.of_below h.ext).trans hc (fun k _ hk => h.new k hk)).below (Nat.le_refl _) (fun _ _ h => h), fun j hj => ?_⟩
  · unfold DRow
    rw [List.length_append, List.length_singleton, rowsOf_app]
    have : rowsOf edC [x] = edC x := by simp [rowsOf]
    rw [this]; exact ho
  · simp [Value.ownBlock] at hj
    subst hj
    rcases hat with q | q
    · exact h.new _ q
    · have := h.ext.size; omega
theorem GrI.push (h : GrI w di vO wr) (ho : w'.ownsRow 0 3 1 (.slice (some ⟨g, 0, none⟩) (di.length + 1) c) (di.length + 1) (intsV di ++ [.int .i64 y])) (hc : Chg (fun k => vO.ownBlock = some k) wr w') (hat : vO.ownBlock = some g ∨ g = wr.heap.size) : GrI w (di ++ [y]) (.slice (some ⟨g, 0, none⟩) (di.length + 1) c) w' := by
  refine ⟨?_, ((Chg.of_below h.ext).trans hc (fun k _ hk => h.new k hk)).below (Nat.le_refl _) (fun _ _ h => h), fun j hj => ?_⟩
  · rw [List.length_append, List.length_singleton]
    have : intsV (di ++ [y]) = intsV di ++ [.int .i64 y] := by simp [intsV]
    rw [this]; exact ho
  · simp [Value.ownBlock] at hj
    subst hj
    rcases hat with q | q
    · exact h.new _ q
    · have := h.ext.size; omega
theorem GrE.eds (h : GrE w d vO wr) : ∃ A c, vO = .slice A d.length c ∧ EdsAt wr A d ∧ d.length ≤ c ∧ c ≤ maxLen := by
  have h3 := h.row
  unfold DRow at h3
  obtain ⟨A, c, rfl, hc⟩ := own_slice3 h3
  exact ⟨A, c, rfl, (DRow.eds h.row rfl).1, hc, own_capmax h3⟩
theorem GrI.ints (h : GrI w di vO wr) : ∃ A c, vO = .slice A di.length c ∧ IntsAt wr A di ∧ di.length ≤ c ∧ c ≤ maxLen := by
  obtain ⟨A, c, rfl, hc⟩ := own_slice3 h.row
  exact ⟨A, c, rfl, (IntsAt.of_own h.row).1, hc, own_capmax h.row⟩
end
end Go.Proofs.YtckcbfnffmohgaaDoor
