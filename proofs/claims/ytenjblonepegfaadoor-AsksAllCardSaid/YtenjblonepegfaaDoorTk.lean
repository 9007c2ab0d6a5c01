/-
  The edges that are there, as a list, in plain Lean: what the references keep. No program in sight.
-/
import Derived.Test.YtenjblonepegfaaDoorAk3
namespace Go.Proofs.YtenjblonepegfaaDoor
set_option linter.unusedVariables false
namespace AK
open UF
structure TOk (n : Int) (l : List Ev) (k : Nat) (th : List Ed) : Prop where
  nd : th.Nodup
  mem : ∀ x, x ∈ th ↔ there (l.take k) x = true
  len : th.length ≤ k
  inn : ∀ x ∈ th, 0 ≤ x.1 ∧ x.1 < n ∧ 0 ≤ x.2 ∧ x.2 < n
theorem TOk.zero (n : Int) (l : List Ev) : TOk n l 0 [] := ⟨by simp, by simp [there], by simp, by simp⟩
theorem bad_inv {n : Int} {t : Ed → Bool} {e : Ev} (h : bad n t e = none) : 1 ≤ e.w ∧ e.w ≤ 3 ∧ 0 ≤ e.a ∧ e.a < n ∧ 0 ≤ e.b ∧ e.b < n ∧ (e.w = 1 → t e.ed = false) ∧ (e.w = 2 → t e.ed = true) := by
  unfold bad at h
  split at h
  · cases h
  split at h
  · exact ⟨by omega, by omega, by omega, by omega, by omega, by omega, fun h => by omega, fun h => by omega⟩
  split at h
  · cases h
  split at h
  · cases h
  split at h
  · cases h
  rename_i h1 h2 h3 h4 h5
  exact ⟨by omega, by omega, by omega, by omega, by omega, by omega, fun hw => by cases hq : t e.ed with | false => rfl | true => exact absurd ⟨hw, hq⟩ h4, fun hw => by cases hq : t e.ed with | true => rfl | false => exact absurd ⟨hw, hq⟩ h5⟩
theorem ed_in {n : Int} {e : Ev} (h : 0 ≤ e.a ∧ e.a < n ∧ 0 ≤ e.b ∧ e.b < n) : 0 ≤ e.ed.1 ∧ e.ed.1 < n ∧ 0 ≤ e.ed.2 ∧ e.ed.2 < n := by
  unfold Ev.ed ek; simp only; omega
theorem TOk.ask {n : Int} {l : List Ev} {k : Nat} {th : List Ed} {e : Ev} (h : TOk n l k th) (he : l[k]? = some e) (hw : e.w = 3) : TOk n l (k + 1) th := by
  refine ⟨h.nd, fun x => ?_, by have := h.len; omega, h.inn⟩
  rw [take_next he, there_snoc, nxt, if_pos hw]; exact h.mem x
theorem TOk.add {n : Int} {l : List Ev} {k : Nat} {th : List Ed} {e : Ev} (h : TOk n l k th) (he : l[k]? = some e) (hb : bad n (there (l.take k)) e = none) (hw : e.w = 1) : TOk n l (k + 1) (th ++ [e.ed]) := by
  obtain ⟨_, _, b1, b2, b3, b4, b5, _⟩ := bad_inv hb
  have hf := b5 hw
  have hn : e.ed ∉ th := fun hm => by rw [(h.mem _).1 hm] at hf; cases hf
  refine ⟨?_, fun x => ?_, by have := h.len; simp; omega, fun x hx => ?_⟩
  · rw [List.nodup_append]; exact ⟨h.nd, by simp, fun a ha b hb => by simp at hb; subst hb; rintro rfl; exact hn ha⟩
  · rw [there_flip he (by omega), flip]
    by_cases hx : x = e.ed
    · subst hx; simp [hf]
    · rw [if_neg hx, ← h.mem x]; simp [hx]
  · rcases List.mem_append.1 hx with hx | hx
    · exact h.inn x hx
    · simp at hx; subst hx; exact ed_in ⟨b1, b2, b3, b4⟩
theorem TOk.drop {n : Int} {l : List Ev} {k i : Nat} {th : List Ed} {e : Ev} (h : TOk n l k th) (he : l[k]? = some e) (hb : bad n (there (l.take k)) e = none) (hw : e.w = 2) (hi : th[i]? = some e.ed) : TOk n l (k + 1) (th.eraseIdx i) := by
  have hf := (bad_inv hb).2.2.2.2.2.2.2 hw
  obtain ⟨hlt, hie⟩ := List.getElem?_eq_some_iff.1 hi
  have hmem : ∀ x, x ∈ th.eraseIdx i ↔ x ∈ th ∧ x ≠ e.ed := fun x => by
    rw [List.mem_eraseIdx_iff_getElem]
    constructor
    · rintro ⟨j, hj, hji, rfl⟩
      refine ⟨List.getElem_mem hj, fun hx => hji ?_⟩
      have hp := List.nodup_iff_pairwise_ne.1 h.nd
      rcases Nat.lt_trichotomy j i with hl | hl | hl
      · exact absurd (hx.trans hie.symm) (List.pairwise_iff_getElem.1 hp j i hj hlt hl)
      · exact hl
      · exact absurd (hie.trans hx.symm) (List.pairwise_iff_getElem.1 hp i j hlt hj hl)
    · rintro ⟨hx, hne⟩
      obtain ⟨j, hj, rfl⟩ := List.getElem_of_mem hx
      exact ⟨j, hj, fun hji => by subst hji; exact hne hie, rfl⟩
  refine ⟨h.nd.sublist (List.eraseIdx_sublist _ _), fun x => ?_, by have := h.len; rw [List.length_eraseIdx]; split <;> omega, fun x hx => h.inn x ((hmem x).1 hx).1⟩
  rw [hmem, there_flip he (by omega), flip]
  by_cases hx : x = e.ed
  · subst hx; simp [hf]
  · rw [if_neg hx, ← h.mem x]; simp [hx]
/-- What is answered at a place. -/
theorem ans_tells {n : Int} {l : List Ev} (h : Good n l) {t : Nat} {e : Ev} {th : List Ed} (he : l[t]? = some e) (hw : e.w = 3) (hth : TOk n l t th) : ansAt l t = true ↔ Con (th.map fun x => (x.1.toNat, x.2.toNat)) e.a.toNat e.b.toNat := by
  have ht : t < l.length := (List.getElem?_eq_some_iff.1 he).1
  unfold ansAt
  rw [List.getD_eq_getElem?_getD, he, Option.getD_some, beq_iff_eq, tells_joinAll]
  refine Con.congr fun p => ?_
  rw [alive_there h ht, take_next he, there_snoc, nxt, if_pos hw, List.mem_map]
  constructor
  · rintro ⟨x, hx, rfl⟩; exact ⟨x, (hth.mem x).2 hx, rfl⟩
  · rintro ⟨x, hx, rfl⟩; exact ⟨x, (hth.mem x).1 hx, rfl⟩
end AK
end Go.Proofs.YtenjblonepegfaaDoor
