/-
  How steps of the second law's scripts that came in are read: a number and a row of bytes. No conditions.
-/
import Derived.Test.YthgniehfejklhaaGreatBs31
import Derived.Test.YthgniehfejklhaaGreatBs29
namespace Go.Proofs.YthgniehfejklhaaGreat
open Go Go.RowKit Go.ChangeShapes Go.WideShapes

theorem list5 {α : Type} {l : List α} (h : l.length = 5) : ∃ a b c d e, l = [a, b, c, d, e] := by
  match l, h with
  | [a, b, c, d, e], _ => exact ⟨a, b, c, d, e, rfl⟩
theorem open_bytes1 {H : Type} {enc : TypeId × Value → H} {w : World} {spare : Nat → Bool} {held : Bool} {fuel : Nat} {v : Value} {x : DataW H × List MemPlace} (h : DataW.trod enc Tryz.prog w 0 spare held fuel 30 [v] = some x) :
    ∃ (A : Option Addr) (len cap : Nat) (xs : List Int), v = .slice A len cap ∧ BytesAt w A xs ∧ xs.length = len ∧ len ≤ maxLen := by
  rcases open_ints Tryz.underlying30 Tryz.underlying5 (by kernel_rfl) h with ⟨hcs, _⟩ | ⟨x, len, cap, zs, hcs, _, hl, hm, hz, _, hcell, _⟩
  · simp at hcs
    exact ⟨none, 0, 0, [], hcs, .inl rfl, rfl, by unfold maxLen; omega⟩
  · simp at hcs
    rcases Nat.eq_zero_or_pos len with h0 | h0
    · subst h0; exact ⟨some x, 0, cap, [], hcs, .inl rfl, rfl, by unfold maxLen; omega⟩
    have hlz : len ≤ zs.length := by rw [hz]; split <;> omega
    have hs := World.cell?_spot (hcell 0 (by omega))
    have hs' : x.spot = none := by simpa [Addr.add] using hs
    obtain ⟨b, off, sp⟩ := x
    simp only at hs'
    subst hs'
    have hc0 := hcell 0 (by omega)
    refine ⟨_, len, cap, zs.take len, hcs, .inr ⟨b, off, rfl, World.block_lt_of_cell? w ⟨b, off, none⟩ (by simpa [Addr.add] using hc0), fun i v hv => ?_⟩, by simp; omega, by omega⟩
    have hi : i < len := by have := (List.getElem?_eq_some_iff.1 hv).1; simp at this; omega
    have := hcell i (by omega)
    rw [List.getElem?_take, if_pos hi] at hv
    rw [List.getD_eq_getElem?_getD, hv, Option.getD_some, Addr.add_mid] at this
    exact this
/-- A step: its number, its bytes, where they lie. -/
structure DSt where
  n : Int
  A : Option Addr
  m : Nat
  c : Nat
  b : List Int
instance : Inhabited DSt := ⟨⟨0, none, 0, 0, []⟩⟩
def DStAt (w : World) (g o : Nat) (s : DSt) : Prop := w.cell? ⟨g, o + 1, none⟩ = some (.int .i64 s.n) ∧ w.cell? ⟨g, o + 2, none⟩ = some (.slice s.A s.m s.c) ∧ BytesAt w s.A s.b ∧ s.b.length = s.m ∧ s.m ≤ maxLen
def DStepsAt (w : World) (a : Option Addr) (len : Nat) (s : Nat → DSt) : Prop := len = 0 ∨ ∃ b off, a = some ⟨b, off, none⟩ ∧ b < w.heap.size ∧ ∀ i, i < len → DStAt w b (off + i * 5) (s i)
theorem DStAt.ext {w w' : World} {g o : Nat} {s : DSt} (h : DStAt w g o s) (hg : g < w.heap.size) (hb : Below w.heap.size w w') : DStAt w' g o s :=
  ⟨(hb.cell (p := ⟨g, o + 1, none⟩) hg).trans h.1, (hb.cell (p := ⟨g, o + 2, none⟩) hg).trans h.2.1, h.2.2.1.ext hb, h.2.2.2⟩
theorem DStepsAt.ext {w w' : World} {a : Option Addr} {len : Nat} {s : Nat → DSt} (h : DStepsAt w a len s) (hb : Below w.heap.size w w') : DStepsAt w' a len s := by
  rcases h with h | ⟨b, off, rfl, hlt, hc⟩
  · exact .inl h
  · exact .inr ⟨b, off, rfl, Nat.lt_of_lt_of_le hlt hb.size, fun i hi => (hc i hi).ext hlt hb⟩
end Go.Proofs.YthgniehfejklhaaGreat
