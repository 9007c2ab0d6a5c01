/-
  Walks of path.Far, path.Short. Conditions: the edges lie in memory as 'EdsAt' says.
-/
import Derived.Test.YtenjblonepegfaaDoorPc1
import Derived.Test.YtenjblonepegfaaDoorBs2
namespace Go.Proofs.YtenjblonepegfaaDoor
open Go Go.RowKit
set_option linter.unusedVariables false

theorem ckF_zero {n : Int} {l : List AK.Ed} {xs : List Int} (h : ckF n l xs = 0) : ∃ k : Nat, n = (k : Int) ∧ 0 < k ∧ k ≤ 60 ∧ Fine k l ∧ (edgF n l).2 = 0 ∧ ∀ x ∈ xs, ∃ z : Nat, x = (z : Int) ∧ z < k := by
  unfold ckF at h
  by_cases h0 : (edgF n l).2 = 0
  · rw [if_neg (by simpa using h0)] at h
    obtain ⟨h1, h2, h3, h4⟩ := fine_of h0
    obtain ⟨k, rfl⟩ := Int.eq_ofNat_of_zero_le (show 0 ≤ n by omega)
    refine ⟨k, rfl, by omega, by omega, ⟨h3, h4⟩, h0, fun x hx => ?_⟩
    by_cases hb : badN k x = true
    · rw [if_pos (List.any_eq_true.2 ⟨x, hx, hb⟩)] at h; omega
    · simp [badN] at hb
      obtain ⟨z, hz⟩ := Int.eq_ofNat_of_zero_le hb.1
      exact ⟨z, hz, by omega⟩
  · rw [if_pos (by simpa using h0)] at h; exact absurd h h0
/-- What Far leaves. -/
def PFarPost (w : World) (n : Int) (l : List AK.Ed) (a : Int) (e : Ending) (w' : World) : Prop :=
  Ext w w' ∧ ((ckF n l [a] ≠ 0 ∧ e = .returned (.tuple #[.slice none 0 0, errOf (ckF n l [a])])) ∨
    ∃ k z : Nat, ckF n l [a] = 0 ∧ n = (k : Int) ∧ a = (z : Int) ∧ ∃ gd c d, e = .returned (.tuple #[.slice (some ⟨gd, 0, none⟩) k c, .nilIface]) ∧ PD.IsDist k l z d ∧ DRw w k gd c d w')
set_option maxHeartbeats 1000000 in
set_option maxRecDepth 100000 in
theorem pfar_any (w : World) (n : Int) (A : Option Addr) (m c : Nat) (l : List AK.Ed) (hl : l.length = m) (hlm : m ≤ 9223372036854775807) (h : EdsAt w A l) (a : Int) :
    Calls Tryd.prog 48 #[.int .i64 n, .slice A m c, .int .i64 a] w (PFarPost w n l a) := by
  have H := Lib.hid h
  have HL := Lib.hid hl
  have HI1 : Hid (IntsAt (w.alloc (.cells #[.int .i64 a] 3)) (some ⟨w.heap.size, 0, none⟩) [a]) := by
    refine .inr ⟨w.heap.size, 0, rfl, by simp, fun i v hv => ?_⟩
    match i, hv with
    | 0, hv => simp at hv; subst hv; exact cell_new1 rfl _ _
  clear h hl
  go_enter Tryd.func48, Tryd.ntmps48
  go_wp2_with fail
  refine (checked_any _ n A m c l HL.out hlm (H.out.ext (Ext.alloc w _)) (some ⟨w.heap.size, 0, none⟩) 1 1 [a] HI1.out rfl (by omega)).mono ?_
  rintro e w1 ⟨rfl, hx1⟩
  have HX1 : Hid (Ext w w1) := Ext.trans (Ext.alloc _ _) hx1
  clear hx1 HI1
  by_cases h0 : ckF n l [a] = 0
  · rw [h0, errOf_0]
    obtain ⟨k, rfl, hk0, hk60, hf, _, hz⟩ := ckF_zero h0
    obtain ⟨z, rfl, hzk⟩ := hz a (by simp)
    have HF := Lib.hid hf
    have H0 := Lib.hid h0
    clear hf hz h0
    go_wp2_with fail
    refine (beside_any w1 k A m c l HL.out (H.out.ext HX1.out) HF.out hk0 hk60).mono ?_
    rintro e w2 ⟨G, cG, N, rfl, hb, hN, _, hx2⟩
    have HX2 : Hid (Ext w w2) := Ext.trans HX1.out hx2
    have HB := Lib.hid hb
    have HN := Lib.hid hN
    clear hb hN hx2
    go_wp2_with fail
    refine (far_any w2 k z G cG l N HB.out HN.out hzk hk60).mono ?_
    rintro e w3 ⟨gd, cd, d, rfl, hd, hr⟩
    have HP : Hid (PFarPost w k l z (.returned (.tuple #[.slice (some ⟨gd, 0, none⟩) k cd, .nilIface])) w3) :=
      ⟨Ext.trans HX2.out hr.ext, .inr ⟨k, z, H0.out, rfl, rfl, gd, cd, d, rfl, hd, ⟨hr.row, Ext.trans HX2.out hr.ext, Nat.le_trans HX2.out.size hr.new⟩⟩⟩
    clear hd hr
    go_wp2
    go_ret2
    exact HP.out
  · rw [errOf_ne h0]
    have HP : Hid (PFarPost w n l a (.returned (.tuple #[.slice none 0 0, .iface 29 (.int .i64 (ckF n l [a]))])) w1) :=
      ⟨HX1.out, .inl ⟨h0, by rw [errOf_ne h0]⟩⟩
    go_wp2
    go_ret2
    exact HP.out
end Go.Proofs.YtenjblonepegfaaDoor
