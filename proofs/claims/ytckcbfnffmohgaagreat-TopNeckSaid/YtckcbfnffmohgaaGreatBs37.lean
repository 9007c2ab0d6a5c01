/-
  Opening []Step of package footbridgelaw2, with the bytes' capacity. No conditions.
-/
import Derived.Test.YtckcbfnffmohgaaGreatBs26
namespace Go.Proofs.YtckcbfnffmohgaaGreat
open Go Go.RowKit Go.ChangeShapes Go.WideShapes

theorem open_bytes2 {H : Type} {enc : TypeId × Value → H} {w : World} {spare : Nat → Bool} {held : Bool} {fuel : Nat} {v : Value} {x : DataW H × List MemPlace} (h : DataW.trod enc Tryz.prog w 0 spare held fuel 95 [v] = some x) :
    ∃ (A : Option Addr) (len cap : Nat) (xs : List Int), v = .slice A len cap ∧ BytesAt w A xs ∧ xs.length = len ∧ len ≤ cap ∧ cap ≤ maxLen := by
  rcases open_ints Tryz.underlying95 Tryz.underlying5 (by kernel_rfl) h with ⟨hcs, _⟩ | ⟨x, len, cap, zs, hcs, _, hl, hm, hz, _, hcell, _⟩
  · simp at hcs
    exact ⟨none, 0, 0, [], hcs, .inl rfl, rfl, Nat.le_refl _, by unfold maxLen; omega⟩
  · simp at hcs
    rcases Nat.eq_zero_or_pos len with h0 | h0
    · subst h0; exact ⟨some x, 0, cap, [], hcs, .inl rfl, rfl, by omega, by omega⟩
    have hlz : len ≤ zs.length := by rw [hz]; split <;> omega
    have hs := World.cell?_spot (hcell 0 (by omega))
    have hs' : x.spot = none := by simpa [Addr.add] using hs
    obtain ⟨b, off, sp⟩ := x
    simp only at hs'
    subst hs'
    have hc0 := hcell 0 (by omega)
    refine ⟨_, len, cap, zs.take len, hcs, .inr ⟨b, off, rfl, World.block_lt_of_cell? w ⟨b, off, none⟩ (by simpa [Addr.add] using hc0), fun i v hv => ?_⟩, by simp; omega, by omega, by omega⟩
    have hi : i < len := by have := (List.getElem?_eq_some_iff.1 hv).1; simp at this; omega
    have := hcell i (by omega)
    rw [List.getElem?_take, if_pos hi] at hv
    rw [List.getD_eq_getElem?_getD, hv, Option.getD_some, Addr.add_mid] at this
    exact this
def FStepsAt (w : World) (a : Option Addr) (len : Nat) (s : Nat → ESt) : Prop := len = 0 ∨ ∃ b off, a = some ⟨b, off, none⟩ ∧ b < w.heap.size ∧ ∀ i, i < len → EStAt w b (off + i * 5) (s i) ∧ (s i).m ≤ (s i).c ∧ (s i).c ≤ maxLen
end Go.Proofs.YtckcbfnffmohgaaGreat
