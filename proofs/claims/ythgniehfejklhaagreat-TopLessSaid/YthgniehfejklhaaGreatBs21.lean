/-
  Walk of footbridgesame.Edges. Conditions: the edges lie in memory as 'EdsAt' says.
-/
import Derived.Test.YthgniehfejklhaaGreatBs7
import Derived.Test.YthgniehfejklhaaGreatBs6
import Derived.Test.YthgniehfejklhaaGreatBs2
namespace Go.Proofs.YthgniehfejklhaaGreat
open Go Go.RowKit
set_option linter.unusedVariables false

theorem eds_at {w : World} {A : Option Addr} {l : List AK.Ed} {i : Nat} (h : EdsAt w A l) (hi : i < l.length) : ∃ bs off, A = some ⟨bs, off, none⟩ ∧ bs < w.heap.size ∧ ∃ x, l[i]? = some x ∧ w.cell? ⟨bs, off + i * 2, none⟩ = some (.int .i64 x.1) ∧ w.cell? ⟨bs, off + i * 2 + 1, none⟩ = some (.int .i64 x.2) := by
  obtain ⟨x, hx⟩ : ∃ x, l[i]? = some x := ⟨_, List.getElem?_eq_getElem hi⟩
  rcases h with h | ⟨b, off, rfl, hb, hc⟩
  · subst h; simp at hi
  · exact ⟨b, off, rfl, hb, x, hx, (hc i x hx).1, (hc i x hx).2⟩
set_option maxHeartbeats 1000000 in
theorem sedges_any (w : World) (A B : Option Addr) (n m c d : Nat) (xs ys : List AK.Ed) (hx : EdsAt w A xs) (hy : EdsAt w B ys) (hn : xs.length = n) (hm : ys.length = m) (hnb : n ≤ 1000000) (hmb : m ≤ 1000000) (r : Bool) (hr : decide (xs = ys) = r) :
    Calls Tryz.prog 13 #[.slice A n c, .slice B m d] w (BoolPost w r) := by
  have HX := Lib.hid hx
  have HY := Lib.hid hy
  have HN := Lib.hid hn
  have HM := Lib.hid hm
  have HR := Lib.hid hr
  clear hx hy hn hm hr
  by_cases hnm : n = m
  · subst hnm
    go_enter Tryz.func13, Tryz.ntmps13
    go_wp2
    go_loopw [5] (fun v wr => ∃ k : Nat, k ≤ n ∧ v = .int .i64 k ∧ Hid (xs.take k = ys.take k ∧ Ext w wr)) (fun v _ => n - (intOf v).toNat)
    case atStart => exact ⟨0, Nat.zero_le _, rfl, rfl, Ext.refl _⟩
    case round =>
      obtain ⟨k, hk, rfl, hR⟩ := hrel
      by_cases hlt : k < n
      · obtain ⟨b, off, rfl, _, ⟨x1, x2⟩, hxx, c1, c2⟩ := eds_at (HX.out.ext hR.out.2) (show k < xs.length by rw [HN.out]; exact hlt)
        obtain ⟨b', off', rfl, _, ⟨y1, y2⟩, hyy, d1, d2⟩ := eds_at (HY.out.ext hR.out.2) (show k < ys.length by rw [HM.out]; exact hlt)
        simp only at c1 c2 d1 d2
        have HXX := Lib.hid hxx
        have HYY := Lib.hid hyy
        have z0 : (0 : Int) ≤ (k : Int) := by omega
        have z1 : (k : Int) < (n : Int) := by omega
        clear hxx hyy
        have no : Hid ((x1 ≠ y1 ∨ x2 ≠ y2) → false = r) := fun e => by
          rw [← HR.out]; symm; rw [decide_eq_false_iff_not]
          intro h
          have := HXX.out
          rw [h, HYY.out] at this
          injection this with this
          injection this with e1 e2
          omega
        by_cases e : x1 = y1
        · have q1 : (x1 != y1) = false := by simp [e]
          have HEq := Lib.hid e
          by_cases e2 : x2 = y2
          · have q2 : (x2 != y2) = false := by simp [e2]
            have HT : Hid (xs.take (k + 1) = ys.take (k + 1)) := by rw [Hid, take_snoc' HXX.out, take_snoc' HYY.out, hR.out.1, e, e2]
            clear e e2
            go_wp2
            go_quiet (fail)
            have HN2 : Hid (Ext w (wr.drewN nq)) := Ext.trans hR.out.2 (Ext.drewN _ _)
            go_wp2
            go_roundw
            case rel => exact ⟨k + 1, by omega, by go_num, HT.out, HN2.out⟩
            case measure => simp [intOf]; omega
          · have q2 : (x2 != y2) = true := by simpa using e2
            have HZ := Lib.hid (no.out (.inr e2))
            clear e e2
            go_wp2
            go_quiet (fail)
            have HN2 : Hid (Ext w (wr.drewN nq)) := Ext.trans hR.out.2 (Ext.drewN _ _)
            go_wp2
            go_ret
            exact ⟨ret_b' HZ.out, HN2.out⟩
        · have q1 : (x1 != y1) = true := by simpa using e
          have HZ := Lib.hid (no.out (.inl e))
          clear e
          go_wp2
          go_quiet (fail)
          have HN2 : Hid (Ext w (wr.drewN nq)) := Ext.trans hR.out.2 (Ext.drewN _ _)
          go_wp2
          go_ret
          exact ⟨ret_b' HZ.out, HN2.out⟩
      · have HT : Hid (true = r) := by
          rw [Hid, ← HR.out]; symm; rw [decide_eq_true_eq]
          have := hR.out.1
          have h1 := HN.out
          have h2 := HM.out
          rwa [List.take_of_length_le (by omega), List.take_of_length_le (by omega)] at this
        have HE := Lib.hid hR.out.2
        clear hR
        go_wp2
        go_ret
        exact ⟨ret_b' HT.out, HE.out⟩
  · have e2 : ((n : Int) != (m : Int)) = true := by simp; omega
    have e3 : (n != m) = true := by simp; omega
    have HE : Hid (false = r) := by
      unfold Hid
      rw [← HR.out]; symm; rw [decide_eq_false_iff_not]
      intro h; have := congrArg List.length h; rw [HN.out, HM.out] at this; exact hnm this
    clear hnm
    go_enter Tryz.func13, Tryz.ntmps13
    go_wp2
    go_ret
    exact ⟨ret_b' HE.out, Ext.refl _⟩
end Go.Proofs.YthgniehfejklhaaGreat
