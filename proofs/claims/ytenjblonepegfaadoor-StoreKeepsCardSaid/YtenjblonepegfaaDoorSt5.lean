/-
  Walk of bytes.Clone, whatever the bytes. Conditions: the bytes lie at an address.
-/
import Derived.Test.YtenjblonepegfaaDoorSt4
namespace Go.Proofs.YtenjblonepegfaaDoor
open Go Go.RowKit
set_option linter.unusedVariables false

/-- What Clone of bytes leaves, whatever the bytes. -/
def BRow (w : World) (p : List Int) (e : Ending) (w' : World) : Prop := ∃ v, e = .returned v ∧ w'.ownsRow 0 5 1 v p.length (DK.pgv p) ∧ Ext w w' ∧ ∀ k, v.ownBlock = some k → w.heap.size ≤ k
set_option maxRecDepth 100000 in
theorem bclone_row (w : World) (ad : Addr) (n c : Nat) (p : List Int) (hl : p.length = n) (hn2 : n ≤ 100000) (h : ∀ j u, (DK.pgv p)[j]? = some u → (w.alloc (.cells #[] 5)).cell? (ad.add j) = some u) :
    Calls Tryd.prog 66 #[.slice (some ad) n c] w (BRow w p) := by
  have HS : Hid (∀ x, some ad = some x → ∀ j u, (DK.pgv p)[j]? = some u → (w.alloc (.cells #[] 5)).cell? (x.add j) = some u) := fun x hx => by injection hx with hx; subst hx; exact h
  have HL : Hid ((DK.pgv p).length = n * 1) := by simp [DK.pgv, hl, Hid]
  have HO : Hid ((w.alloc (.cells #[] 5)).ownsRow 0 5 1 (.slice (some ⟨w.heap.size, 0, none⟩) 0 0) 0 []) := World.ownsRow_lit w #[] 0 (Nat.zero_le _) (by unfold maxLen; omega) (by simp)
  have HPL := Lib.hid hl
  clear h hl
  have u48 := fun w a n c n' c' => Lib.run_eql_slice_nil (P := Tryd.prog) w 33 5 a n c n' c' Tryd.underlying33
  go_enter Tryd.func66, Tryd.ntmps66
  go_wp2_with (at_builtin; refine wpList_append_rows _ rfl (.tmp 5) (.tmp 6) 33 rfl 5 _ 1 1 Tryd.underlying33 infoByte rfl (by decide) (.slice (some ⟨w.heap.size, 0, none⟩) 0 0) 0 [] rfl HO.out (some ad) n c (DK.pgv p) rfl HL.out (fun h => by cases h) HS.out pgv_one ⟨by omega, by omega⟩ ?_; intro A2 c2 w2 ho hc hg; have HO2 := Lib.hid ho; have HC2 := Lib.hid hc; have HG2 := Lib.hid hg; clear ho hc hg)
  go_ret
  have ho := HO2.out
  simp only [Nat.zero_add, List.nil_append] at ho
  refine ⟨_, rfl, by rw [HPL.out]; simpa using ho, ?_, fun k hk => ?_⟩
  · exact (((Chg.of_below (Below.refl w.heap.size w)).alloc (.cells #[] 5)).trans HC2.out (fun k _ hk => by simp [Value.ownBlock] at hk; omega)).below (Nat.le_refl _) (fun _ _ h => h)
  · rcases HG2.out k (by simpa using hk) with h | h
    · simp [Value.ownBlock] at h; omega
    · simp only [World.size_alloc] at h; omega
end Go.Proofs.YtenjblonepegfaaDoor
