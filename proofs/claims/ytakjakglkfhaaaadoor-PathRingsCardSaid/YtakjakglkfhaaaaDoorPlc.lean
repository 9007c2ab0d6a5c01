/-
  Reading a row of numbers at a place; what Place says of members. No conditions.
-/
import Derived.Test.YtakjakglkfhaaaaDoorPf0
import Derived.Test.YtakjakglkfhaaaaDoorDfs
namespace Go.Proofs.YtakjakglkfhaaaaDoor
open Go Go.RowKit
set_option linter.unusedVariables false

theorem ints_get {w : World} {A : Option Addr} {p : List Int} {i : Nat} (h : IntsAt w A p) (hi : i < p.length) : ∃ bs off, A = some ⟨bs, off, none⟩ ∧ bs < w.heap.size ∧ w.cell? ⟨bs, off + i, none⟩ = some (.int .i64 (PD.g p i)) := by
  rcases h with h0 | ⟨b, off, rfl, hb, hc⟩
  · subst h0; simp at hi
  · refine ⟨b, off, rfl, hb, hc i _ ?_⟩
    rw [List.getElem?_eq_getElem hi, PD.g, List.getD_eq_getElem?_getD, List.getElem?_eq_getElem hi]; rfl
theorem pl_in {l : List AK.Ed} {x : AK.Ed} (h : x ∈ l) : 0 ≤ RF.placeV (RF.place l x) := by
  cases hp : RF.place l x with
  | none => exact absurd h (RF.place_mem.1 hp)
  | some i => simp [RF.placeV]
theorem pl_out {l : List AK.Ed} {x : AK.Ed} (h : x ∉ l) : RF.placeV (RF.place l x) < 0 := by
  rw [RF.place_mem.2 h]; decide
theorem ak_ek {u v : Int} (h : u < v) : AK.ek u v = (u, v) := by unfold AK.ek; rw [Int.min_eq_left (by omega), Int.max_eq_right (by omega)]
theorem df_ek {u v : Nat} (h : u < v) : DF.ek u v = ((u : Int), (v : Int)) := by unfold DF.ek; rw [Nat.min_eq_left (by omega), Nat.max_eq_right (by omega)]
end Go.Proofs.YtakjakglkfhaaaaDoor
