/-
  Walk of store.Format at a new disk. Conditions: the disk lies as 'DAt' says, has 62 pages or more.
-/
import Derived.Test.YtenjblonepegfaaDoorSt7
namespace Go.Proofs.YtenjblonepegfaaDoor
open Go Go.RowKit
set_option linter.unusedVariables false

theorem DMoved.trans {w w1 w2 : World} {u u1 u2 : Dsk} (h1 : DMoved w u u1 w1) (h2 : DMoved w1 u1 u2 w2) : DMoved w u u2 w2 :=
  ⟨h2.1.trans h1.1, h1.2.1.trans h2.2.1 (fun k hk hf => by rcases h1.2.2 k hf with h | h; (· exact h); (· omega)), fun k hk => by
    rcases h2.2.2 k hk with h | h
    · exact h1.2.2 k h
    · right; have := h1.2.1.size; omega⟩
theorem DMoved.of_ext {w w1 : World} (u : Dsk) (h : Ext w w1) : DMoved w u u w1 := ⟨rfl, Chg.new h _, fun _ h => .inl h⟩
def FmD (n : Nat) : Nat → DK.D
  | 0 => DK.new n
  | 1 => wrTo n (DK.new n) 0 (hbs 0 0)
  | _ => wrTo n (wrTo n (DK.new n) 0 (hbs 0 0)) 1 []
theorem fm_err0 {n : Nat} (hn : 62 ≤ n) : wrErr n (FmD n 0) 0 (hbs 0 0) = none := by
  simp [wrErr, FmD, DK.new, DK.stopped, hbs]; omega
theorem fm_err1 {n : Nat} (hn : 62 ≤ n) : wrErr n (FmD n 1) 1 [] = none := by
  have h0 : ¬ n = 0 := by omega
  have h2 : ¬ ((n : Int) ≤ 1) := by omega
  have h3 : (FmD n 1).left = -1 ∧ (FmD n 1).down = false := by simp [FmD, wrTo, DK.new, DK.stopped, hbs, DK.write, DK.step, h0]; decide
  simp [wrErr, DK.stopped, h2, h3.1, h3.2]
end Go.Proofs.YtenjblonepegfaaDoor
