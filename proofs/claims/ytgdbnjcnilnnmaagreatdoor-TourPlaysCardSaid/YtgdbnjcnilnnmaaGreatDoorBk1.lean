/-
  The faults of edges, in plain Lean; walk of bridge.Check. Condition: the edges lie in memory as 'EdsAt' says.
-/
import Derived.Test.YtgdbnjcnilnnmaaGreatDoorRf0
import Derived.Test.YtgdbnjcnilnnmaaGreatDoorMem3
import Derived.Test.YtgdbnjcnilnnmaaGreatDoorInts
import Derived.BigQuiet
import Derived.Deep.CutBlock
import Derived.Deep.DeepCutAuto
import Derived.StillTailTactics
namespace Go.Proofs.YtgdbnjcnilnnmaaGreatDoor
open Go Go.RowKit
set_option linter.unusedVariables false

/-- What is wrong with the edge at a place. -/
def eCode (n : Int) (l : List AK.Ed) (i : Nat) : Int := match l[i]? with
  | none => 0
  | some x => if x.1 < 0 ∨ x.2 ≤ x.1 ∨ n ≤ x.2 then 1 else match i with
    | 0 => 0
    | j + 1 => match l[j]? with
      | none => 0
      | some y => if x.1 < y.1 ∨ (x.1 = y.1 ∧ x.2 ≤ y.2) then 2 else 0
def efGo (c : Nat → Int) : Nat → Nat → Int × Int
  | 0, _ => (0, 0)
  | f + 1, i => if c i = 0 then efGo c f (i + 1) else ((i : Int), c i)
/-- What is wrong with edges: the place, the fault. -/
def edgF (n : Int) (l : List AK.Ed) : Int × Int := if n < 1 ∨ 60 < n then (0, 1) else if 200 < l.length then (0, 3) else efGo (eCode n l) l.length 0
theorem efGo_ok {c : Nat → Int} {f i : Nat} (h : c i = 0) : efGo c (f + 1) i = efGo c f (i + 1) := by simp [efGo, h]
theorem efGo_bad {c : Nat → Int} {f i : Nat} {x : Int} (h : c i = x) (hx : x ≠ 0) : efGo c (f + 1) i = ((i : Int), x) := by simp [efGo, h, hx]
def errOf (x : Int) : Value := if x = 0 then .nilIface else .iface 23 (.int .i64 x)
theorem eCode_bad {n : Int} {l : List AK.Ed} {i : Nat} {x : AK.Ed} (hx : l[i]? = some x) (h : x.1 < 0 ∨ x.2 ≤ x.1 ∨ n ≤ x.2) : eCode n l i = 1 := by simp only [eCode, hx]; rw [if_pos h]
theorem eCode_0 {n : Int} {l : List AK.Ed} {x : AK.Ed} (hx : l[0]? = some x) (h : ¬ (x.1 < 0 ∨ x.2 ≤ x.1 ∨ n ≤ x.2)) : eCode n l 0 = 0 := by simp only [eCode, hx]; rw [if_neg h]
theorem eCode_2 {n : Int} {l : List AK.Ed} {j : Nat} {x y : AK.Ed} (hx : l[j + 1]? = some x) (hy : l[j]? = some y) (h : ¬ (x.1 < 0 ∨ x.2 ≤ x.1 ∨ n ≤ x.2)) (h2 : x.1 < y.1 ∨ (x.1 = y.1 ∧ x.2 ≤ y.2)) : eCode n l (j + 1) = 2 := by simp only [eCode, hx, hy]; rw [if_neg h, if_pos h2]
theorem eCode_ok {n : Int} {l : List AK.Ed} {j : Nat} {x y : AK.Ed} (hx : l[j + 1]? = some x) (hy : l[j]? = some y) (h : ¬ (x.1 < 0 ∨ x.2 ≤ x.1 ∨ n ≤ x.2)) (h2 : ¬ (x.1 < y.1 ∨ (x.1 = y.1 ∧ x.2 ≤ y.2))) : eCode n l (j + 1) = 0 := by simp only [eCode, hx, hy]; rw [if_neg h, if_neg h2]
def CkPost (w : World) (r : Int × Int) (e : Ending) (w' : World) : Prop := e = .returned (.tuple #[.int .i64 r.1, errOf r.2]) ∧ Ext w w'
set_option maxHeartbeats 4000000 in
set_option maxRecDepth 100000 in
theorem check_any (w : World) (n : Int) (A : Option Addr) (len c : Nat) (l : List AK.Ed) (hl : l.length = len) (hlm : len ≤ 9223372036854775807) (h : EdsAt w A l) :
    Calls Tryz.prog 93 #[.int .i64 n, .slice A len c] w (CkPost w (edgF n l)) := by
  have H := Lib.hid h
  have HL := Lib.hid hl
  clear h hl
  by_cases h1 : n < 1
  · have hp : Hid (edgF n l = (0, 1)) := by unfold Hid edgF; rw [if_pos (.inl h1)]
    go_enter Tryz.func93, Tryz.ntmps93
    go_wp2
    go_ret2
    exact ⟨by rw [hp.out]; rfl, Ext.refl _⟩
  by_cases h2 : 60 < n
  · have hp : Hid (edgF n l = (0, 1)) := by unfold Hid edgF; rw [if_pos (.inr h2)]
    go_enter Tryz.func93, Tryz.ntmps93
    go_wp2
    go_ret2
    exact ⟨by rw [hp.out]; rfl, Ext.refl _⟩
  by_cases h3 : 200 < len
  · have hp : Hid (edgF n l = (0, 3)) := by unfold Hid edgF; rw [if_neg (by omega), HL.out, if_pos h3]
    have h3' : (200 : Int) < (len : Int) := by omega
    go_enter Tryz.func93, Tryz.ntmps93
    go_wp2
    go_ret2
    exact ⟨by rw [hp.out]; rfl, Ext.refl _⟩
  have hp : Hid (edgF n l = efGo (eCode n l) len 0) := by unfold Hid edgF; rw [if_neg (by omega), HL.out, if_neg h3]
  have h3' : ¬ (200 : Int) < (len : Int) := by omega
  clear h3
  go_enter Tryz.func93, Tryz.ntmps93
  go_wp2
  go_loopw [21] (fun v wr => ∃ i : Nat, i ≤ len ∧ v = .int .i64 i ∧ Hid (Ext w wr ∧ edgF n l = efGo (eCode n l) (len - i) i)) (fun v _ => len - (intOf v).toNat)
  case atStart => exact ⟨0, by omega, rfl, Ext.refl _, hp.out⟩
  case round =>
    obtain ⟨i, hi, rfl, hR⟩ := hrel
    clear hp
    have HE : Hid (Ext w wr) := hR.out.1
    have HF : Hid (edgF n l = efGo (eCode n l) (len - i) i) := hR.out.2
    clear hR
    by_cases hil : i < len
    · have hil' : (i : Int) < (len : Int) := by omega
      have hi0 : (0 : Int) ≤ (i : Int) := by omega
      obtain ⟨f, hf⟩ : ∃ f, len - i = f + 1 := ⟨len - i - 1, by omega⟩
      rw [hf] at HF
      obtain ⟨x, hx⟩ : ∃ x, l[i]? = some x := ⟨_, List.getElem?_eq_getElem (by rw [HL.out]; exact hil)⟩
      obtain ⟨bs, off, rfl, hbs, hcs⟩ : ∃ b off, A = some ⟨b, off, none⟩ ∧ b < w.heap.size ∧ ∀ (i : Nat) (x : AK.Ed), l[i]? = some x → w.cell? ⟨b, off + i * 2, none⟩ = some (.int .i64 x.1) ∧ w.cell? ⟨b, off + i * 2 + 1, none⟩ = some (.int .i64 x.2) := by
        rcases H.out with h0 | h0
        · rw [h0] at hx; simp at hx
        · exact h0
      have a0 := (HE.out.cell (p := ⟨bs, off + i * 2, none⟩) hbs).trans (hcs i x hx).1
      have a1 := (HE.out.cell (p := ⟨bs, off + i * 2 + 1, none⟩) hbs).trans (hcs i x hx).2
      have HX := Lib.hid hx
      have HCS := Lib.hid hcs
      have HN : Hid (Ext w (wr.alloc (.cells #[.int .i64 x.1, .int .i64 x.2] 93))) := Ext.trans HE.out (Ext.alloc _ _)
      obtain ⟨x1, x2⟩ := x
      simp only at a0 a1 HN
      clear hx hcs
      by_cases c1 : x1 < 0
      · have HP : Hid (edgF n l = ((i : Int), 1)) := by rw [Hid, HF.out]; exact efGo_bad (eCode_bad HX.out (.inl c1)) (by decide)
        clear HF
        go_wp2
        go_ret2
        exact ⟨by rw [HP.out]; rfl, HN.out⟩
      by_cases c2 : x2 ≤ x1
      · have HP : Hid (edgF n l = ((i : Int), 1)) := by rw [Hid, HF.out]; exact efGo_bad (eCode_bad HX.out (.inr (.inl c2))) (by decide)
        clear HF
        go_wp2
        go_ret2
        exact ⟨by rw [HP.out]; rfl, HN.out⟩
      by_cases c3 : n ≤ x2
      · have HP : Hid (edgF n l = ((i : Int), 1)) := by rw [Hid, HF.out]; exact efGo_bad (eCode_bad HX.out (.inr (.inr c3))) (by decide)
        clear HF
        go_wp2
        go_ret2
        exact ⟨by rw [HP.out]; rfl, HN.out⟩
      have HOK : Hid (¬ (x1 < 0 ∨ x2 ≤ x1 ∨ n ≤ x2)) := by unfold Hid; omega
      by_cases hz : i = 0
      · subst hz
        have b0 : wr.cell? ⟨bs, off, none⟩ = some (.int .i64 x1) := by simpa using a0
        have b1 : wr.cell? ⟨bs, off + 1, none⟩ = some (.int .i64 x2) := by simpa using a1
        have HP : Hid (edgF n l = efGo (eCode n l) f (0 + 1)) := by rw [Hid, HF.out]; exact efGo_ok (eCode_0 HX.out HOK.out)
        clear HF a0 a1
        go_wp2
        go_quiet (fail)
        have HN2 : Hid (Ext w ((wr.alloc (.cells #[.int .i64 x1, .int .i64 x2] 93)).drewN nq)) := Ext.trans HN.out (Ext.drewN _ _)
        go_wp2
        go_roundw
        case rel => exact ⟨1, by omega, by rfl, HN2.out, by rw [HP.out, show len - 1 = f by omega]⟩
        case measure => simp [intOf]; omega
      · obtain ⟨j, hj⟩ : ∃ j, j = i - 1 := ⟨_, rfl⟩
        have hji : i = j + 1 := by omega
        obtain ⟨y, hy⟩ : ∃ y, l[j]? = some y := ⟨_, List.getElem?_eq_getElem (by rw [HL.out]; omega)⟩
        have p0 := (HE.out.cell (p := ⟨bs, off + j * 2, none⟩) hbs).trans (HCS.out j y hy).1
        have p1 := (HE.out.cell (p := ⟨bs, off + j * 2 + 1, none⟩) hbs).trans (HCS.out j y hy).2
        have hbr : bs < wr.heap.size := Nat.lt_of_lt_of_le hbs HE.out.size
        have p0 := fun o => ((Ext.alloc wr o).cell (p := ⟨bs, off + j * 2, none⟩) hbr).trans p0
        have p1 := fun o => ((Ext.alloc wr o).cell (p := ⟨bs, off + j * 2 + 1, none⟩) hbr).trans p1
        have HY := Lib.hid hy
        obtain ⟨y1, y2⟩ := y
        simp only at p0 p1
        have hip : decide (0 < i) = true := by simp; omega
        have hij : (i : Int) - 1 = (j : Int) := by omega
        have hjl : (j : Int) < (len : Int) := by omega
        have hwj : IntKind.i64.wrap ((i : Int) - 1) = (j : Int) := (IntWalk.i64_in _ (by omega)).trans hij
        have HXI : Hid (l[j + 1]? = some (x1, x2)) := by rw [Hid, ← hji]; exact HX.out
        have HJI := Lib.hid hji
        clear hy hj hji
        by_cases d1 : x1 < y1
        · have HP : Hid (edgF n l = ((i : Int), 2)) := by rw [Hid, HF.out]; exact efGo_bad (by rw [HJI.out]; exact eCode_2 HXI.out HY.out HOK.out (.inl d1)) (by decide)
          have e1 : decide (x1 < y1) = true := by simpa using d1
          clear HF
          go_wp2
          go_quiet (fail)
          have HN2 : Hid (Ext w ((wr.alloc (.cells #[.int .i64 x1, .int .i64 x2] 93)).drewN nq)) := Ext.trans HN.out (Ext.drewN _ _)
          go_wp2
          go_ret2
          exact ⟨by rw [HP.out]; rfl, HN2.out⟩
        have e1 : decide (x1 < y1) = false := by simpa using d1
        by_cases d2 : x1 = y1
        · have e2 : decide (x1 = y1) = true := by simpa using d2
          by_cases d3 : x2 ≤ y2
          · have HP : Hid (edgF n l = ((i : Int), 2)) := by rw [Hid, HF.out]; exact efGo_bad (by rw [HJI.out]; exact eCode_2 HXI.out HY.out HOK.out (.inr ⟨d2, d3⟩)) (by decide)
            clear HF
            subst d2
            go_wp2
            go_quiet (fail)
            have HN2 : Hid (Ext w ((wr.alloc (.cells #[.int .i64 x1, .int .i64 x2] 93)).drewN nq)) := Ext.trans HN.out (Ext.drewN _ _)
            go_wp2
            go_ret2
            exact ⟨by rw [HP.out]; rfl, HN2.out⟩
          · have HP : Hid (edgF n l = efGo (eCode n l) f (i + 1)) := by rw [Hid, HF.out]; exact efGo_ok (by rw [HJI.out]; exact eCode_ok HXI.out HY.out HOK.out (by simp only at *; omega))
            clear HF
            subst d2
            go_wp2
            go_quiet (fail)
            have HN2 : Hid (Ext w ((wr.alloc (.cells #[.int .i64 x1, .int .i64 x2] 93)).drewN nq)) := Ext.trans HN.out (Ext.drewN _ _)
            go_wp2
            go_roundw
            case rel => exact ⟨i + 1, by omega, by go_num, HN2.out, by rw [HP.out, show len - (i + 1) = f by omega]⟩
            case measure => simp [intOf]; omega
        · have e2 : decide (x1 = y1) = false := by simpa using d2
          have e3 : (x1 == y1) = false := by simpa using d2
          have HP : Hid (edgF n l = efGo (eCode n l) f (i + 1)) := by rw [Hid, HF.out]; exact efGo_ok (by rw [HJI.out]; exact eCode_ok HXI.out HY.out HOK.out (by simp only at *; omega))
          clear HF
          go_wp2
          go_quiet (fail)
          have HN2 : Hid (Ext w ((wr.alloc (.cells #[.int .i64 x1, .int .i64 x2] 93)).drewN nq)) := Ext.trans HN.out (Ext.drewN _ _)
          go_wp2
          go_roundw
          case rel => exact ⟨i + 1, by omega, by go_num, HN2.out, by rw [HP.out, show len - (i + 1) = f by omega]⟩
          case measure => simp [intOf]; omega
    · have e : i = len := by omega
      subst e
      have HP : Hid (edgF n l = (0, 0)) := by rw [Hid, HF.out, Nat.sub_self]; rfl
      clear HF
      go_wp2
      go_ret2
      exact ⟨by rw [HP.out]; rfl, HE.out⟩
theorem efGo_zero {c : Nat → Int} : ∀ {f i : Nat}, (efGo c f i).2 = 0 → ∀ j, i ≤ j → j < i + f → c j = 0
  | 0, i, _, j, h1, h2 => by omega
  | f + 1, i, h, j, h1, h2 => by
    by_cases h0 : c i = 0
    · rw [efGo_ok h0] at h
      by_cases e : j = i
      · rw [e]; exact h0
      · exact efGo_zero h j (by omega) (by omega)
    · rw [efGo_bad rfl h0] at h
      exact absurd h h0
theorem fine_of {n : Int} {l : List AK.Ed} (h : (edgF n l).2 = 0) : 1 ≤ n ∧ n ≤ 60 ∧ l.length ≤ 200 ∧ ∀ (i : Nat) (x : AK.Ed), l[i]? = some x → 0 ≤ x.1 ∧ x.1 < x.2 ∧ x.2 < n := by
  unfold edgF at h
  by_cases h1 : n < 1 ∨ 60 < n
  · rw [if_pos h1] at h; simp at h
  · rw [if_neg h1] at h
    by_cases h2 : 200 < l.length
    · rw [if_pos h2] at h; simp at h
    · rw [if_neg h2] at h
      refine ⟨by omega, by omega, by omega, fun i x hx => ?_⟩
      have hi := (List.getElem?_eq_some_iff.1 hx).1
      have hc := efGo_zero h i (Nat.zero_le _) (by omega)
      by_cases hb : x.1 < 0 ∨ x.2 ≤ x.1 ∨ n ≤ x.2
      · rw [eCode_bad hx hb] at hc; omega
      · omega
theorem errOf_0 : errOf 0 = .nilIface := rfl
theorem errOf_ne {x : Int} (h : x ≠ 0) : errOf x = .iface 23 (.int .i64 x) := by simp [errOf, h]
end Go.Proofs.YtgdbnjcnilnnmaaGreatDoor
