/-
  Plain facts for the laws on bridges: an edge more; the laws' examples; what Place says. No program in sight but for the rows' reading.
-/
import Derived.Test.YtakjakglkfhaaaaBq
import Derived.Test.YtakjakglkfhaaaaRp
import Derived.Deep.RegionHeld3
import Derived.Deep.RegionHeldLaw
namespace Go.Proofs.Ytakjakglkfhaaaa
open Go Go.RowKit
set_option linter.unusedVariables false

theorem ints_get {w : World} {A : Option Addr} {p : List Int} {i : Nat} (h : IntsAt w A p) (hi : i < p.length) : ∃ bs off, A = some ⟨bs, off, none⟩ ∧ bs < w.heap.size ∧ w.cell? ⟨bs, off + i, none⟩ = some (.int .i64 (PD.g p i)) := by
  rcases h with h0 | ⟨b, off, rfl, hb, hc⟩
  · subst h0; simp at hi
  · refine ⟨b, off, rfl, hb, hc i _ ?_⟩
    rw [List.getElem?_eq_getElem hi, PD.g, List.getD_eq_getElem?_getD, List.getElem?_eq_getElem hi]; rfl
theorem pl_in {l : List AK.Ed} {x : AK.Ed} (h : x ∈ l) : 0 ≤ RF.placeV (RF.place l x) := by
  cases hp : RF.place l x with
  | none => exact absurd h (RF.place_mem.1 hp)
  | some i => simp [RF.placeV]
theorem pl_out {l : List AK.Ed} {x : AK.Ed} (h : x ∉ l) : RF.placeV (RF.place l x) < 0 := by
  rw [RF.place_mem.2 h]; decide
theorem ak_ek {u v : Int} (h : u < v) : AK.ek u v = (u, v) := by unfold AK.ek; rw [Int.min_eq_left (by omega), Int.max_eq_right (by omega)]
theorem df_ek {u v : Nat} (h : u < v) : DF.ek u v = ((u : Int), (v : Int)) := by unfold DF.ek; rw [Nat.min_eq_left (by omega), Nat.max_eq_right (by omega)]
theorem bm_ex {p : List Int} (h : DF.Pts 3 [(1, 2)] p) : p = [0, 1, 1] := by
  have a0 : PD.g p 0 = 0 := by
    obtain ⟨r, h1, h2, _⟩ := h.pa 0 (by omega)
    rw [h1]; omega
  have a1 : PD.g p 1 = 1 := by
    obtain ⟨r, h1, h2, h3⟩ := h.pa 1 (by omega)
    have : r ≠ 0 := fun e => by
      have := h3.keeps (S := fun z => z = 0) (fun u v e => by
        have e' : ((u : Int), (v : Int)) ∈ [((1 : Int), (2 : Int))] ∨ ((v : Int), (u : Int)) ∈ [((1 : Int), (2 : Int))] := e
        simp at e'
        omega)
      have := this.1 e
      omega
    rw [h1]; omega
  have a2 : PD.g p 2 = 1 := by rw [← a1]; exact (h.pe 1 2 (.inl (by simp))).symm
  have hl := h.len
  match p, hl with
  | [x, y, z], _ =>
    simp [PD.g] at a0 a1 a2
    rw [a0, a1, a2]
theorem put_fine {n : Nat} {l : List AK.Ed} {u v : Nat} (h : (edgF n l).2 = 0) (hl : l.length < 200) (huv : u < v) (hv : v < n) (hn : ((u : Int), (v : Int)) ∉ l) : (edgF n (putE ((u : Int), (v : Int)) l)).2 = 0 := by
  obtain ⟨h1, h2, h3, h4, h5⟩ := edgF_iff.1 h
  refine edgF_iff.2 ⟨h1, h2, by rw [putE_length]; omega, fun x hx => ?_, putE_rises h5 hn⟩
  rcases putE_mem.1 hx with e | e
  · subst e; simp only; omega
  · exact h4 x e
theorem put_more {n : Nat} {l : List AK.Ed} {u v : Nat} (hf : Fine n l) (huv : u < v) (hn : ((u : Int), (v : Int)) ∉ l) : DF.More l (putE ((u : Int), (v : Int)) l) u v := by
  refine ⟨fun x y => ?_, fun h => ?_⟩
  · unfold PD.adj
    rw [putE_mem, putE_mem]
    simp only [Prod.mk.injEq]
    constructor
    · rintro ((h | h) | (h | h))
      · exact .inr (.inl (by omega))
      · exact .inl (.inl h)
      · exact .inr (.inr (by omega))
      · exact .inl (.inr h)
    · rintro ((h | h) | (h | h))
      · exact .inl (.inr h)
      · exact .inr (.inr h)
      · exact .inl (.inl (by omega))
      · exact .inr (.inl (by omega))
  · rcases h with h | h
    · exact hn h
    · obtain ⟨i, hi⟩ := List.getElem?_of_mem h
      have := hf.2 i _ hi
      simp only at this
      omega
end Go.Proofs.Ytakjakglkfhaaaa
