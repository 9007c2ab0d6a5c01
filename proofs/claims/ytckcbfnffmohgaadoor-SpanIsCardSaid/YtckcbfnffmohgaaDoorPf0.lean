/-
  Rows of integers of one's own; edges that may be, as they lie. No conditions.
-/
import Derived.Test.YtckcbfnffmohgaaDoorMem3
import Derived.Test.YtckcbfnffmohgaaDoorRf0
import Derived.Test.YtckcbfnffmohgaaDoorInts
import Derived.Test.YtckcbfnffmohgaaDoorPd
namespace Go.Proofs.YtckcbfnffmohgaaDoor
open Go Go.RowKit
set_option linter.unusedVariables false

theorem infoI : (Tryd.prog.info? 3).map (fun i => (i.zero, i.size, i.bytes)) = some (some (.int .i64 0), 1, 8) := by kernel_rfl
def intsV (d : List Int) : List Value := d.map (Value.int .i64)
/-- Edges that may be. -/
def Fine (n : Nat) (l : List AK.Ed) : Prop := l.length ≤ 200 ∧ ∀ (i : Nat) (x : AK.Ed), l[i]? = some x → 0 ≤ x.1 ∧ x.1 < x.2 ∧ x.2 < n
structure DRw (w : World) (n gd c : Nat) (d : List Int) (wr : World) : Prop where
  row : wr.ownsRow 0 3 1 (.slice (some ⟨gd, 0, none⟩) n c) n (intsV d)
  ext : Ext w wr
  new : w.heap.size ≤ gd
theorem DRw.cell {w wr : World} {n gd c v : Nat} {d : List Int} (h : DRw w n gd c d wr) (hd : d.length = n) (hv : v < n) : wr.cell? ⟨gd, v, none⟩ = some (.int .i64 (PD.g d v)) ∧ wr.frozen? ⟨gd, v, none⟩ = false := by
  refine ⟨?_, h.row.frozenAt _⟩
  rw [h.row.cellAt v (by omega), intsV, List.getElem?_map, List.getElem?_eq_getElem (by omega)]
  simp [PD.g, List.getD_eq_getElem?_getD, List.getElem?_eq_getElem (show v < d.length by omega)]
theorem DRw.set {w wr : World} {n gd c : Nat} {d : List Int} (h : DRw w n gd c d wr) (v : Nat) (x : Int) : DRw w n gd c (d.set v x) (wr.setCell ⟨gd, v, none⟩ (.int .i64 x)) := by
  refine ⟨?_, (((Chg.of_below h.ext).setCell (p := ⟨gd, v, none⟩) (fun _ => h.new) _)).below (Nat.le_refl _) (fun _ _ h => h), h.new⟩
  have := (h.row.stored v (.int .i64 x)).1
  rw [intsV, List.map_set]
  exact this
theorem DRw.moved {w wr w' : World} {n gd c : Nat} {d : List Int} (h : DRw w n gd c d wr) (hx : Ext wr w') : DRw w n gd c d w' :=
  ⟨own_chg h.row (Chg.of_below hx) (fun k hk => by have := own_lt h.row hk; omega), Ext.trans h.ext hx, h.new⟩
theorem edge_at {w : World} {A : Option Addr} {l : List AK.Ed} {n m i : Nat} (h : EdsAt w A l) (hl : l.length = m) (hf : Fine n l) (him : i < m) : ∃ bs off, A = some ⟨bs, off, none⟩ ∧ bs < w.heap.size ∧ ∃ u v : Nat, l[i]? = some ((u : Int), (v : Int)) ∧ u < v ∧ v < n ∧ w.cell? ⟨bs, off + i * 2, none⟩ = some (.int .i64 u) ∧ w.cell? ⟨bs, off + i * 2 + 1, none⟩ = some (.int .i64 v) := by
  obtain ⟨x, hx⟩ : ∃ x, l[i]? = some x := ⟨_, List.getElem?_eq_getElem (by omega)⟩
  rcases h with h | ⟨b, off, rfl, hb, hc⟩
  · rw [h] at hx; simp at hx
  · obtain ⟨h1, h2, h3⟩ := hf.2 i x hx
    obtain ⟨u, hu⟩ := Int.eq_ofNat_of_zero_le h1
    obtain ⟨v, hv⟩ := Int.eq_ofNat_of_zero_le (show 0 ≤ x.2 by omega)
    have := hc i x hx
    rw [hu, hv] at this
    exact ⟨b, off, rfl, hb, u, v, by rw [hx, ← hu, ← hv], by omega, by omega, this.1, this.2⟩
/-- Rows of nodes beside are those of edges. -/
def BesOf (n : Nat) (l : List AK.Ed) (N : Nat → List Nat) : Prop := ∀ v, v < n → ∀ x, x ∈ N v ↔ (x < n ∧ PD.adj l v x)
def FarPost (w : World) (n : Nat) (l : List AK.Ed) (a : Nat) (e : Ending) (w' : World) : Prop := ∃ gd c d, e = .returned (.slice (some ⟨gd, 0, none⟩) n c) ∧ PD.IsDist n l a d ∧ DRw w n gd c d w'
end Go.Proofs.YtckcbfnffmohgaaDoor
