/-
  Opening []Step of package footbridgelaw2, with the bytes' capacity. No conditions.
-/
import Derived.Test.YthgniehfejklhaaGreatDoorBs35
namespace Go.Proofs.YthgniehfejklhaaGreatDoor
open Go Go.RowKit Go.ChangeShapes Go.WideShapes

theorem open_bytes2 {H : Type} {enc : TypeId × Value → H} {w : World} {spare : Nat → Bool} {held : Bool} {fuel : Nat} {v : Value} {x : DataW H × List MemPlace} (h : DataW.trod enc Tryz.prog w 0 spare held fuel 70 [v] = some x) :
    ∃ (A : Option Addr) (len cap : Nat) (xs : List Int), v = .slice A len cap ∧ BytesAt w A xs ∧ xs.length = len ∧ len ≤ cap ∧ cap ≤ maxLen := by
  rcases open_ints Tryz.underlying70 Tryz.underlying5 (by kernel_rfl) h with ⟨hcs, _⟩ | ⟨x, len, cap, zs, hcs, _, hl, hm, hz, _, hcell, _⟩
  · simp at hcs
    exact ⟨none, 0, 0, [], hcs, .inl rfl, rfl, Nat.le_refl _, by unfold maxLen; omega⟩
  · simp at hcs
    rcases Nat.eq_zero_or_pos len with h0 | h0
    · subst h0; exact ⟨some x, 0, cap, [], hcs, .inl rfl, rfl, by omega, by omega⟩
    have hlz : len ≤ zs.length := by rw [hz]; split <;> omega
    have hs := World.cell?_spot (hcell 0 (by omega))
    have hs' : x.spot = none := by simpa [Addr.add] using hs
    obtain ⟨b, off, sp⟩ := x
    simp only at hs'
    subst hs'
    have hc0 := hcell 0 (by omega)
    refine ⟨_, len, cap, zs.take len, hcs, .inr ⟨b, off, rfl, World.block_lt_of_cell? w ⟨b, off, none⟩ (by simpa [Addr.add] using hc0), fun i v hv => ?_⟩, by simp; omega, by omega, by omega⟩
    have hi : i < len := by have := (List.getElem?_eq_some_iff.1 hv).1; simp at this; omega
    have := hcell i (by omega)
    rw [List.getElem?_take, if_pos hi] at hv
    rw [List.getD_eq_getElem?_getD, hv, Option.getD_some, Addr.add_mid] at this
    exact this
def FStepsAt (w : World) (a : Option Addr) (len : Nat) (s : Nat → ESt) : Prop := len = 0 ∨ ∃ b off, a = some ⟨b, off, none⟩ ∧ b < w.heap.size ∧ ∀ i, i < len → EStAt w b (off + i * 5) (s i) ∧ (s i).m ≤ (s i).c ∧ (s i).c ≤ maxLen
theorem open_fsteps {H : Type} {enc : TypeId × Value → H} {w : World} {spare : Nat → Bool} {held : Bool} {a : Option Addr} {len cap : Nat} {d : DataW H} {p : List MemPlace} (h : DataW.Trod enc Tryz.prog w 0 spare held 66 (.slice a len cap) d p) : ∃ s, FStepsAt w a len s ∧ len ≤ cap ∧ cap ≤ maxLen := by
  obtain ⟨fuel, hf⟩ := h
  obtain ⟨hl, hm, h0 | ⟨b, off, rfl, hlt, n, hx⟩⟩ := open_structs Tryz.underlying66 Tryz.underlying72 (show Tryz.prog.cellsOf 72 = 5 by kernel_rfl) (by decide) (show DataW.trod enc Tryz.prog w 0 spare held fuel 66 [.slice a len cap] = _ from hf)
  · exact ⟨fun _ => default, .inl h0, hl, hm⟩
  · have each : ∀ i, i < len → ∃ q : ESt, EStAt w b (off + i * 5) q ∧ q.m ≤ q.c ∧ q.c ≤ maxLen := by
      intro i hi
      obtain ⟨cs, h1, h2, h3⟩ := hx i hi
      obtain ⟨c0, c1, c2, c3, c4, rfl⟩ := list5 h1
      obtain ⟨y0, g0⟩ := h3 0 _ rfl
      obtain ⟨y1, g1⟩ := h3 1 _ rfl
      obtain ⟨y2, g2⟩ := h3 2 _ rfl
      obtain ⟨y3, g3⟩ := h3 3 _ rfl
      obtain ⟨y4, g4⟩ := h3 4 _ rfl
      have cb : Tryz.prog.cellsOf 70 = 1 := by kernel_rfl
      have ci : Tryz.prog.cellsOf 32 = 1 := by kernel_rfl
      have ce : Tryz.prog.cellsOf 52 = 1 := by kernel_rfl
      simp [cellsInt, cb, ci, ce] at g0 g1 g2 g3 g4
      obtain ⟨x0, e0, _⟩ := DataW.trod_int Tryz.underlying3 g0
      obtain ⟨x1, e1, _, k1⟩ := DataW.trod_int Tryz.underlying3 g1
      obtain ⟨A, m, c, xs, e2, hB, hxl, hmc, hcm⟩ := open_bytes2 g2
      obtain ⟨KA, km, kc, kl, e3, hK, hkl, hkc, hkm, _⟩ := open_ints1 g3
      simp at e0 e1
      subst e0; subst e1; subst e2; subst e3
      refine ⟨⟨x0, x1, A, m, c, xs, KA, km, kc, kl⟩, ⟨by simpa using h2 0 _ rfl, h2 1 _ rfl, h2 2 _ rfl, h2 3 _ rfl, ?_, hB, hxl, Nat.le_trans hmc hcm, hK, hkl, Nat.le_trans hkc hkm, in64_of k1⟩, hmc, hcm⟩
      rcases Deep.open_slice Tryz.underlying52 g4 with ⟨hc, _⟩ | ⟨ad, len', cap', m', n', D, Pl, hc, _⟩
      · simp at hc; subst hc; exact ⟨_, _, _, h2 4 _ rfl⟩
      · simp at hc; subst hc; exact ⟨_, _, _, h2 4 _ rfl⟩
    obtain ⟨s, hs⟩ := Deep.choose_lt each
    exact ⟨s, .inr ⟨b, off, rfl, hlt, hs⟩, hl, hm⟩
end Go.Proofs.YthgniehfejklhaaGreatDoor
