/-
  How arguments that came in are read: a slice whose elements are structs, field by field. No conditions.
  How arguments that came in are read: steps of a script. No conditions.
-/
import Derived.Test.YtckcbfnffmohgaaGreatRows
import Derived.ProofKit
import Derived.Deep.Slices
import Derived.Below
namespace Go.Proofs.YtckcbfnffmohgaaGreat
open Go Go.RowKit Go.ChangeShapes Go.WideShapes

section
variable {H : Type} {enc : TypeId × Value → H} {P : Program} {w : World} {spare : Nat → Bool} {held : Bool}
theorem open_structs {t e : TypeId} {fs : Array Field} {S fuel : Nat} {a : Option Addr} {len cap : Nat} {x : DataW H × List MemPlace} (ht : P.underlying t = some (.slice e)) (he : P.underlying e = some (.struct fs)) (hs : P.cellsOf e = S) (hS : 0 < S)
    (h : DataW.trod enc P w 0 spare held fuel t [.slice a len cap] = some x) :
    len ≤ cap ∧ cap ≤ maxLen ∧ (len = 0 ∨ ∃ b off, a = some ⟨b, off, none⟩ ∧ b < w.heap.size ∧ ∃ n, ∀ i, i < len → ∃ cs : List Value, cs.length = S ∧ (∀ j v, cs[j]? = some v → w.cell? ⟨b, off + i * S + j, none⟩ = some v) ∧
      ∀ (k : Nat) (f : Field), fs[k]? = some f → ∃ y, DataW.trod enc P w 0 spare held n f.type ((cs.drop f.offset).take (P.cellsOf f.type)) = some y) := by
  rcases Deep.open_slice ht h with ⟨hc, _⟩ | ⟨ad, len', cap', m, n, D, Pl, hc, _, hl, hm, hmm, _, hx⟩
  · simp at hc; obtain ⟨rfl, rfl, rfl⟩ := hc; exact ⟨Nat.le_refl _, by unfold maxLen; omega, .inl rfl⟩
  simp at hc
  obtain ⟨rfl, rfl, rfl⟩ := hc
  refine ⟨hl, hm, ?_⟩
  rcases Nat.eq_zero_or_pos len with h0 | h0
  · exact .inl h0
  right
  have hlm : len ≤ m := by rw [hmm]; split <;> omega
  rw [hs] at hx
  have hadd : ∀ i j, i < len → j < S → ∀ v, w.cell? ((ad.add (i * S)).add j) = some v → w.cell? ⟨ad.block, ad.off + i * S + j, none⟩ = some v := by
    intro i j hi hj v hv
    rw [Deep.add_add] at hv
    have hsp := World.cell?_spot hv
    have hb : (ad.add (i * S + j)).block = ad.block := by unfold Addr.add; split <;> rfl
    have ho : (ad.add (i * S + j)).off = ad.off + (i * S + j) := by unfold Addr.add; split <;> simp_all
    have : ad.add (i * S + j) = ⟨ad.block, ad.off + i * S + j, none⟩ := by
      rw [show (ad.add (i * S + j)) = ⟨(ad.add (i * S + j)).block, (ad.add (i * S + j)).off, (ad.add (i * S + j)).spot⟩ from rfl, hb, ho, hsp, Nat.add_assoc]
    rw [this] at hv; exact hv
  have key : ∀ i, i < len → ∃ cs : List Value, cs.length = S ∧ (∀ j v, cs[j]? = some v → w.cell? ⟨ad.block, ad.off + i * S + j, none⟩ = some v) ∧
      DataW.trod enc P w 0 spare held n e cs = some (D i, Pl i) := by
    intro i hi
    obtain ⟨cs, h1, h2⟩ := hx i (by omega)
    obtain ⟨_, h3, h4⟩ := World.cells?_some h1
    refine ⟨cs, h3, fun j v hv => ?_, h2⟩
    have hj : j < S := by
      have := (List.getElem?_eq_some_iff.1 hv).1; omega
    exact hadd i j hi hj v ((h4 j hj).trans hv)
  have hsp0 : ad.spot = none := by
    obtain ⟨cs, h1, h2⟩ := hx 0 (by omega)
    obtain ⟨_, h3, h4⟩ := World.cells?_some h1
    have hv := h4 0 hS
    rw [List.getElem?_eq_getElem (by omega)] at hv
    have := World.cell?_spot hv
    simpa [Addr.add] using this
  refine ⟨ad.block, ad.off, by rw [← hsp0], ?_, n - 1, fun i hi => ?_⟩
  · obtain ⟨cs, h1, h2, _⟩ := key 0 h0
    exact World.block_lt_of_cell? w ⟨ad.block, ad.off + 0 * S + 0, none⟩ (h2 0 _ (List.getElem?_eq_getElem (by omega)))
  · obtain ⟨cs, h1, h2, h3⟩ := key i hi
    refine ⟨cs, h1, h2, fun k f hf => ?_⟩
    obtain ⟨xs, k', hk, _, _, hl', hall⟩ := DataW.trod_struct he h3
    have := hall k f hf
    have hk2 : k < fs.size := (Array.getElem?_eq_some_iff.1 hf).1
    rw [List.getElem?_eq_getElem (by omega)] at this
    exact ⟨_, by rw [show n - 1 = k' by omega]; exact this⟩
end

theorem cellsInt : Tryz.prog.cellsOf 3 = 1 := by kernel_rfl
end Go.Proofs.YtckcbfnffmohgaaGreat
namespace Go.Proofs.YtckcbfnffmohgaaGreat
open Go Go.RowKit Go.ChangeShapes Go.WideShapes

end Go.Proofs.YtckcbfnffmohgaaGreat
