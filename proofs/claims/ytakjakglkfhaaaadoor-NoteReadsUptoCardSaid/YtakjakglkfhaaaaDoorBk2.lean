/-
  Walk of the references' EdgesFault. Condition: the edges lie in memory as 'EdsAt' says.
-/
import Derived.Test.YtakjakglkfhaaaaDoorBk1
import Derived.Test.YtakjakglkfhaaaaDoorRf1
namespace Go.Proofs.YtakjakglkfhaaaaDoor
open Go Go.RowKit
set_option linter.unusedVariables false

def EgPost (w : World) (r : Int × Int) (e : Ending) (w' : World) : Prop := e = .returned (.tuple #[.int .i64 r.1, .int .i64 r.2]) ∧ Ext w w'
set_option maxHeartbeats 4000000 in
set_option maxRecDepth 100000 in
theorem edgesFault_any (w : World) (n : Int) (A : Option Addr) (len c : Nat) (l : List AK.Ed) (hl : l.length = len) (hlm : len ≤ 9223372036854775807) (h : EdsAt w A l) :
    Calls Tryd.prog 8 #[.int .i64 n, .slice A len c] w (EgPost w (edgF n l)) := by
  have H := Lib.hid h
  have HL := Lib.hid hl
  clear h hl
  by_cases h1 : n < 1 ∨ 60 < n
  · have hp : Hid (edgF n l = (0, 1)) := by unfold Hid edgF; rw [if_pos h1]
    have hn : nodesF n = 1 := by unfold nodesF; rw [if_pos h1]
    clear h1
    go_enter Tryd.func8, Tryd.ntmps8
    go_wp2_with fail
    refine (nodesFault_any w n).mono ?_
    rintro e w' ⟨rfl, rfl⟩
    rw [hn]
    go_wp2
    go_ret2
    exact ⟨by rw [hp.out]; rfl, Ext.refl _⟩
  have hn : nodesF n = 0 := by unfold nodesF; rw [if_neg h1]
  by_cases h3 : 200 < len
  · have hp : Hid (edgF n l = (0, 3)) := by unfold Hid edgF; rw [if_neg h1, HL.out, if_pos h3]
    have h3' : (200 : Int) < (len : Int) := by omega
    clear h1
    go_enter Tryd.func8, Tryd.ntmps8
    go_wp2_with fail
    refine (nodesFault_any w n).mono ?_
    rintro e w' ⟨rfl, rfl⟩
    rw [hn]
    go_wp2
    go_ret2
    exact ⟨by rw [hp.out]; rfl, Ext.refl _⟩
  have hp : Hid (edgF n l = efGo (eCode n l) len 0) := by unfold Hid edgF; rw [if_neg h1, HL.out, if_neg h3]
  have h3' : ¬ (200 : Int) < (len : Int) := by omega
  clear h3 h1
  go_enter Tryd.func8, Tryd.ntmps8
  go_wp2_with fail
  refine (nodesFault_any w n).mono ?_
  rintro e w' ⟨rfl, rfl⟩
  rw [hn]
  go_wp2
  go_loopw [7] (fun v wr => ∃ i : Nat, i ≤ len ∧ v = .int .i64 i ∧ Hid (Ext w wr ∧ edgF n l = efGo (eCode n l) (len - i) i)) (fun v _ => len - (intOf v).toNat)
  case atStart => exact ⟨0, by omega, rfl, Ext.refl _, hp.out⟩
  case round =>
    obtain ⟨i, hi, rfl, hR⟩ := hrel
    clear hp
    have HE : Hid (Ext w wr) := hR.out.1
    have HF : Hid (edgF n l = efGo (eCode n l) (len - i) i) := hR.out.2
    clear hR
    by_cases hil : i < len
    · have hil' : (i : Int) < (len : Int) := by omega
      have hi0 : (0 : Int) ≤ (i : Int) := by omega
      obtain ⟨f, hf⟩ : ∃ f, len - i = f + 1 := ⟨len - i - 1, by omega⟩
      rw [hf] at HF
      obtain ⟨x, hx⟩ : ∃ x, l[i]? = some x := ⟨_, List.getElem?_eq_getElem (by rw [HL.out]; exact hil)⟩
      obtain ⟨bs, off, rfl, hbs, hcs⟩ : ∃ b off, A = some ⟨b, off, none⟩ ∧ b < w.heap.size ∧ ∀ (i : Nat) (x : AK.Ed), l[i]? = some x → w.cell? ⟨b, off + i * 2, none⟩ = some (.int .i64 x.1) ∧ w.cell? ⟨b, off + i * 2 + 1, none⟩ = some (.int .i64 x.2) := by
        rcases H.out with h0 | h0
        · rw [h0] at hx; simp at hx
        · exact h0
      have a0 := (HE.out.cell (p := ⟨bs, off + i * 2, none⟩) hbs).trans (hcs i x hx).1
      have a1 := (HE.out.cell (p := ⟨bs, off + i * 2 + 1, none⟩) hbs).trans (hcs i x hx).2
      have HX := Lib.hid hx
      have HCS := Lib.hid hcs
      obtain ⟨x1, x2⟩ := x
      simp only at a0 a1
      clear hx hcs
      by_cases c1 : x1 < 0
      · have HP : Hid (edgF n l = ((i : Int), 1)) := by rw [Hid, HF.out]; exact efGo_bad (eCode_bad HX.out (.inl c1)) (by decide)
        have kc1 : decide (x1 < 0) = true := by simpa using c1
        clear HF
        go_wp2
        go_quiet (fail)
        have HN2 : Hid (Ext w (wr.drewN nq)) := Ext.trans HE.out (Ext.drewN _ _)
        go_wp2
        go_ret2
        exact ⟨by rw [HP.out]; rfl, HN2.out⟩
      have kc1 : decide (x1 < 0) = false := by simpa using c1
      by_cases c2 : x2 ≤ x1
      · have HP : Hid (edgF n l = ((i : Int), 1)) := by rw [Hid, HF.out]; exact efGo_bad (eCode_bad HX.out (.inr (.inl c2))) (by decide)
        have kc2 : decide (x2 ≤ x1) = true := by simpa using c2
        clear HF
        go_wp2
        go_quiet (fail)
        have HN2 : Hid (Ext w (wr.drewN nq)) := Ext.trans HE.out (Ext.drewN _ _)
        go_wp2
        go_ret2
        exact ⟨by rw [HP.out]; rfl, HN2.out⟩
      have kc2 : decide (x2 ≤ x1) = false := by simpa using c2
      by_cases c3 : n ≤ x2
      · have HP : Hid (edgF n l = ((i : Int), 1)) := by rw [Hid, HF.out]; exact efGo_bad (eCode_bad HX.out (.inr (.inr c3))) (by decide)
        have kc3 : decide (n ≤ x2) = true := by simpa using c3
        clear HF
        go_wp2
        go_quiet (fail)
        have HN2 : Hid (Ext w (wr.drewN nq)) := Ext.trans HE.out (Ext.drewN _ _)
        go_wp2
        go_ret2
        exact ⟨by rw [HP.out]; rfl, HN2.out⟩
      have kc3 : decide (n ≤ x2) = false := by simpa using c3
      have HOK : Hid (¬ (x1 < 0 ∨ x2 ≤ x1 ∨ n ≤ x2)) := by unfold Hid; omega
      go_wp2
      go_quiet (fail)
      have HN1 : Hid (Ext w (wr.drewN nq)) := Ext.trans HE.out (Ext.drewN _ _)
      have a0' : (wr.drewN nq).cell? ⟨bs, off + i * 2, none⟩ = some (.int .i64 x1) := a0
      have a1' : (wr.drewN nq).cell? ⟨bs, off + i * 2 + 1, none⟩ = some (.int .i64 x2) := a1
      generalize wr.drewN nq = w2 at HN1 a0' a1' ⊢
      clear a0 a1
      by_cases hz : i = 0
      · subst hz
        have b0 : w2.cell? ⟨bs, off, none⟩ = some (.int .i64 x1) := by simpa using a0'
        have b1 : w2.cell? ⟨bs, off + 1, none⟩ = some (.int .i64 x2) := by simpa using a1'
        have HP : Hid (edgF n l = efGo (eCode n l) f (0 + 1)) := by rw [Hid, HF.out]; exact efGo_ok (eCode_0 HX.out HOK.out)
        clear HF a0' a1'
        go_wp2
        go_quiet (fail)
        have HN2 : Hid (Ext w (w2.drewN nq)) := Ext.trans HN1.out (Ext.drewN _ _)
        go_wp2
        go_roundw
        case rel => exact ⟨1, by omega, by rfl, HN2.out, by rw [HP.out, show len - 1 = f by omega]⟩
        case measure => simp [intOf]; omega
      · obtain ⟨j, hj⟩ : ∃ j, j = i - 1 := ⟨_, rfl⟩
        have hji : i = j + 1 := by omega
        obtain ⟨y, hy⟩ : ∃ y, l[j]? = some y := ⟨_, List.getElem?_eq_getElem (by rw [HL.out]; omega)⟩
        have p0 := (HN1.out.cell (p := ⟨bs, off + j * 2, none⟩) hbs).trans (HCS.out j y hy).1
        have p1 := (HN1.out.cell (p := ⟨bs, off + j * 2 + 1, none⟩) hbs).trans (HCS.out j y hy).2
        have hbr : bs < w2.heap.size := Nat.lt_of_lt_of_le hbs HN1.out.size
        have HY := Lib.hid hy
        obtain ⟨y1, y2⟩ := y
        simp only at p0 p1
        have hip : decide (0 < i) = true := by simp; omega
        have hij : (i : Int) - 1 = (j : Int) := by omega
        have hjl : (j : Int) < (len : Int) := by omega
        have hwj : IntKind.i64.wrap ((i : Int) - 1) = (j : Int) := (IntWalk.i64_in _ (by omega)).trans hij
        have HXI : Hid (l[j + 1]? = some (x1, x2)) := by rw [Hid, ← hji]; exact HX.out
        have HJI := Lib.hid hji
        clear hy hj hji
        by_cases d1 : x1 < y1
        · have HP : Hid (edgF n l = ((i : Int), 2)) := by rw [Hid, HF.out]; exact efGo_bad (by rw [HJI.out]; exact eCode_2 HXI.out HY.out HOK.out (.inl d1)) (by decide)
          have e1 : decide (x1 < y1) = true := by simpa using d1
          clear HF
          go_wp2
          go_quiet (fail)
          have HN2 : Hid (Ext w (w2.drewN nq)) := Ext.trans HN1.out (Ext.drewN _ _)
          go_wp2
          go_ret2
          exact ⟨by rw [HP.out]; rfl, HN2.out⟩
        have e1 : decide (x1 < y1) = false := by simpa using d1
        by_cases d2 : x1 = y1
        · have e2 : decide (x1 = y1) = true := by simpa using d2
          by_cases d3 : x2 ≤ y2
          · have HP : Hid (edgF n l = ((i : Int), 2)) := by rw [Hid, HF.out]; exact efGo_bad (by rw [HJI.out]; exact eCode_2 HXI.out HY.out HOK.out (.inr ⟨d2, d3⟩)) (by decide)
            clear HF
            subst d2
            go_wp2
            go_quiet (fail)
            have HN2 : Hid (Ext w (w2.drewN nq)) := Ext.trans HN1.out (Ext.drewN _ _)
            go_wp2
            go_ret2
            exact ⟨by rw [HP.out]; rfl, HN2.out⟩
          · have HP : Hid (edgF n l = efGo (eCode n l) f (i + 1)) := by rw [Hid, HF.out]; exact efGo_ok (by rw [HJI.out]; exact eCode_ok HXI.out HY.out HOK.out (by simp only at *; omega))
            clear HF
            subst d2
            go_wp2
            go_quiet (fail)
            have HN2 : Hid (Ext w (w2.drewN nq)) := Ext.trans HN1.out (Ext.drewN _ _)
            go_wp2
            go_roundw
            case rel => exact ⟨i + 1, by omega, by go_num, HN2.out, by rw [HP.out, show len - (i + 1) = f by omega]⟩
            case measure => simp [intOf]; omega
        · have e2 : decide (x1 = y1) = false := by simpa using d2
          have e3 : (x1 == y1) = false := by simpa using d2
          have HP : Hid (edgF n l = efGo (eCode n l) f (i + 1)) := by rw [Hid, HF.out]; exact efGo_ok (by rw [HJI.out]; exact eCode_ok HXI.out HY.out HOK.out (by simp only at *; omega))
          clear HF
          go_wp2
          go_quiet (fail)
          have HN2 : Hid (Ext w (w2.drewN nq)) := Ext.trans HN1.out (Ext.drewN _ _)
          go_wp2
          go_roundw
          case rel => exact ⟨i + 1, by omega, by go_num, HN2.out, by rw [HP.out, show len - (i + 1) = f by omega]⟩
          case measure => simp [intOf]; omega
    · have e : i = len := by omega
      subst e
      have HP : Hid (edgF n l = (0, 0)) := by rw [Hid, HF.out, Nat.sub_self]; rfl
      clear HF
      go_wp2
      go_ret2
      exact ⟨by rw [HP.out]; rfl, HE.out⟩
end Go.Proofs.YtakjakglkfhaaaaDoor
