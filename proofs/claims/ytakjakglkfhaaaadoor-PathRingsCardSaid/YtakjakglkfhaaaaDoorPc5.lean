/-
  What Short leaves, by case. No conditions.
-/
import Derived.Test.YtakjakglkfhaaaaDoorPc3
namespace Go.Proofs.YtakjakglkfhaaaaDoor
open Go Go.RowKit
set_option linter.unusedVariables false

theorem natsV_ints {w : World} {A : Option Addr} {c : Nat} {p : List Nat} (h : w.ownsRow 0 3 1 (.slice A p.length c) p.length (natsV p)) : IntsAt w A (p.map fun (x : Nat) => (x : Int)) := by
  have : natsV p = (p.map fun (x : Nat) => (x : Int)).map (Value.int .i64) := by simp [natsV]
  rw [this] at h
  exact (IntsAt.of_own h).1
theorem ckF_err {n : Int} {l : List AK.Ed} {xs : List Int} (h : (edgF n l).2 ≠ 0) : ckF n l xs = (edgF n l).2 := by unfold ckF; rw [if_pos h]
theorem ckF_bad {n : Int} {l : List AK.Ed} {xs : List Int} (h : (edgF n l).2 = 0) (hb : xs.any (badN n) = true) : ckF n l xs = 1 := by unfold ckF; rw [if_neg (by simpa using h), if_pos hb]
theorem ckF_ok {n : Int} {l : List AK.Ed} {xs : List Int} (h : (edgF n l).2 = 0) (hb : xs.any (badN n) = false) : ckF n l xs = 0 := by unfold ckF; rw [if_neg (by simpa using h), if_neg (by rw [hb]; simp)]
theorem ShPost.err {w w' : World} {n a b : Int} {l : List AK.Ed} {e : Ending} {x : Int} (h : ShPost w n l a b e w') (hx : ckF n l [a, b] = x) (h0 : x ≠ 0) : e = .returned (.tuple #[.slice none 0 0, errOf x]) ∧ Ext w w' := by
  obtain ⟨h1, ⟨_, h2⟩ | ⟨k, x', y', d, h2, _⟩⟩ := h
  · exact ⟨by rw [h2, hx], h1⟩
  · rw [hx] at h2; exact absurd h2 h0
theorem ShPost.ok {w w' : World} {k x y : Nat} {l : List AK.Ed} {e : Ending} (h : ShPost w k l x y e w') (hx : ckF k l [(x : Int), (y : Int)] = 0) : Ext w w' ∧ ∃ d, PD.IsDist k l y d ∧
      ((PD.g d x < 0 ∧ e = .returned (.tuple #[.slice none 0 0, errOf 4])) ∨
       (0 ≤ PD.g d x ∧ ∃ A c p, e = .returned (.tuple #[.slice A p.length c, .nilIface]) ∧ PD.Way k l d x p ∧ w'.ownsRow 0 3 1 (.slice A p.length c) p.length (natsV p) ∧ p.length ≤ 100)) := by
  obtain ⟨h1, ⟨h2, _⟩ | ⟨k', x', y', d, h2, h3, h4, h5, h6, h7⟩⟩ := h
  · exact absurd hx h2
  · have e1 : k' = k := by omega
    have e2 : x' = x := by omega
    have e3 : y' = y := by omega
    subst e1; subst e2; subst e3; exact ⟨h1, d, h6, h7⟩
theorem DRw.ints {w wr : World} {n gd c : Nat} {d : List Int} (h : DRw w n gd c d wr) : IntsAt wr (some ⟨gd, 0, none⟩) d := (IntsAt.of_own h.row).1
end Go.Proofs.YtakjakglkfhaaaaDoor
