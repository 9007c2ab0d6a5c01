/-
  span.Check: what is wrong with edges that weigh something. Condition: the edges lie in memory as 'HvAt' says.
-/
import Derived.Test.YtckcbfnffmohgaaDoorHv0
import Derived.Test.YtckcbfnffmohgaaDoorUn1
import Derived.Test.YtckcbfnffmohgaaDoorInts
import Derived.BigQuiet
import Derived.Deep.QuietTactic
namespace Go.Proofs.YtckcbfnffmohgaaDoor
open Go Go.RowKit NK
set_option linter.unusedVariables false

def errH (x : Int) : Value := if x = 0 then .nilIface else errVU x
theorem errH_ne {x : Int} (h : x ≠ 0) : errH x = errVU x := by simp [errH, h]
/-- What is wrong with the edge at a place. -/
def hBad (n : Int) (x : He) : Prop := x.1.1 < 0 ∨ x.1.2 ≤ x.1.1 ∨ n ≤ x.1.2 ∨ x.2 < 0 ∨ 1000000 < x.2
instance (n : Int) (x : He) : Decidable (hBad n x) := by unfold hBad; infer_instance
def hfGo (n : Int) : List He → Nat → Int × Int
  | [], _ => (0, 0)
  | x :: L, i => if hBad n x then ((i : Int), 1) else hfGo n L (i + 1)
/-- What is wrong with edges: the place, the fault. -/
def hvF (n : Int) (L : List He) : Int × Int := if n < 1 ∨ 60 < n then (0, 1) else if 200 < L.length then (0, 3) else hfGo n L 0
theorem hfGo_ok {n : Int} {L : List He} {i : Nat} {x : He} (hx : L[i]? = some x) (h : ¬ hBad n x) : hfGo n (L.drop i) i = hfGo n (L.drop (i + 1)) (i + 1) := by
  obtain ⟨hi, he⟩ := List.getElem?_eq_some_iff.1 hx
  rw [List.drop_eq_getElem_cons hi, he, hfGo, if_neg h]
theorem hfGo_bad {n : Int} {L : List He} {i : Nat} {x : He} (hx : L[i]? = some x) (h : hBad n x) : hfGo n (L.drop i) i = ((i : Int), 1) := by
  obtain ⟨hi, he⟩ := List.getElem?_eq_some_iff.1 hx
  rw [List.drop_eq_getElem_cons hi, he, hfGo, if_pos h]
theorem hfGo_zero {n : Int} : ∀ {L : List He} {i : Nat}, (hfGo n L i).2 = 0 → ∀ x ∈ L, ¬ hBad n x
  | [], _, _, x, hx => by cases hx
  | y :: L, i, h, x, hx => by
    rw [hfGo] at h
    by_cases c : hBad n y
    · rw [if_pos c] at h; simp at h
    · rw [if_neg c] at h
      rcases List.mem_cons.1 hx with rfl | hx
      · exact c
      · exact hfGo_zero h x hx
theorem hfGo_all {n : Int} : ∀ {L : List He} {i : Nat}, (∀ x ∈ L, ¬ hBad n x) → hfGo n L i = (0, 0)
  | [], _, _ => rfl
  | y :: L, i, h => by rw [hfGo, if_neg (h y (List.mem_cons_self ..)), hfGo_all fun x hx => h x (List.mem_cons_of_mem _ hx)]
/-- No fault just if they may be. -/
theorem okH_of {n : Int} {L : List He} : (hvF n L).2 = 0 ↔ OkH n L := by
  unfold hvF
  constructor
  · intro h
    by_cases h1 : n < 1 ∨ 60 < n
    · rw [if_pos h1] at h; simp at h
    rw [if_neg h1] at h
    by_cases h2 : 200 < L.length
    · rw [if_pos h2] at h; simp at h
    rw [if_neg h2] at h
    refine ⟨by omega, by omega, by omega, fun x hx => ?_⟩
    have := hfGo_zero h x hx
    unfold hBad at this
    omega
  · intro h
    have := h.n1; have := h.n2; have := h.len
    rw [if_neg (by omega), if_neg (by omega), hfGo_all]
    intro x hx
    have := h.ok x hx
    unfold hBad
    omega
theorem hvF_ok {n : Int} {L : List He} (h : OkH n L) : hvF n L = (0, 0) := by
  have := h.n1; have := h.n2; have := h.len
  unfold hvF
  rw [if_neg (by omega), if_neg (by omega), hfGo_all]
  intro x hx
  have := h.ok x hx
  unfold hBad
  omega
def HcPost (w : World) (r : Int × Int) (e : Ending) (w' : World) : Prop := e = .returned (.tuple #[.int .i64 r.1, errH r.2]) ∧ Ext w w'
set_option maxHeartbeats 4000000 in
set_option maxRecDepth 100000 in
theorem scheck_any (w : World) (n : Int) (A : Option Addr) (len c : Nat) (L : List He) (hl : L.length = len) (hlm : len ≤ 9223372036854775807) (h : HvAt w A L) :
    Calls Tryd.prog 5 #[.int .i64 n, .slice A len c] w (HcPost w (hvF n L)) := by
  have H := Lib.hid h
  have HL := Lib.hid hl
  clear h hl
  by_cases h1 : n < 1
  · have hp : Hid (hvF n L = (0, 1)) := by unfold Hid hvF; rw [if_pos (.inl h1)]
    go_enter Tryd.func5, Tryd.ntmps5
    go_wp2
    go_ret2
    exact ⟨by rw [hp.out]; rfl, Ext.refl _⟩
  by_cases h2 : 60 < n
  · have hp : Hid (hvF n L = (0, 1)) := by unfold Hid hvF; rw [if_pos (.inr h2)]
    go_enter Tryd.func5, Tryd.ntmps5
    go_wp2
    go_ret2
    exact ⟨by rw [hp.out]; rfl, Ext.refl _⟩
  by_cases h3 : 200 < len
  · have hp : Hid (hvF n L = (0, 3)) := by unfold Hid hvF; rw [if_neg (by omega), HL.out, if_pos h3]
    have h3' : (200 : Int) < (len : Int) := by omega
    go_enter Tryd.func5, Tryd.ntmps5
    go_wp2
    go_ret2
    exact ⟨by rw [hp.out]; rfl, Ext.refl _⟩
  have hp : Hid (hvF n L = hfGo n (L.drop 0) 0) := by unfold Hid hvF; rw [if_neg (by omega), HL.out, if_neg h3]; rfl
  have h3' : ¬ (200 : Int) < (len : Int) := by omega
  clear h3
  go_enter Tryd.func5, Tryd.ntmps5
  go_wp2
  go_loopw [21] (fun v wr => ∃ i : Nat, i ≤ len ∧ v = .int .i64 i ∧ Hid (Ext w wr ∧ hvF n L = hfGo n (L.drop i) i)) (fun v _ => len - (intOf v).toNat)
  case atStart => exact ⟨0, by omega, rfl, Ext.refl _, hp.out⟩
  case round =>
    obtain ⟨i, hi, rfl, hR⟩ := hrel
    clear hp
    have HE : Hid (Ext w wr) := hR.out.1
    have HF : Hid (hvF n L = hfGo n (L.drop i) i) := hR.out.2
    clear hR
    by_cases hil : i < len
    · have hil' : (i : Int) < (len : Int) := by omega
      have hi0 : (0 : Int) ≤ (i : Int) := by omega
      obtain ⟨bs, off, x, rfl, hbs, hx, a0, a1, a2⟩ := (H.out.ext HE.out).at_ (i := i) (by rw [HL.out]; exact hil)
      have HX := Lib.hid hx
      obtain ⟨⟨x1, x2⟩, x3⟩ := x
      have HN : Hid (Ext w (wr.alloc (.cells #[.int .i64 x1, .int .i64 x2, .int .i64 x3] 36))) := Ext.trans HE.out (Ext.alloc _ _)
      simp only at a0 a1 a2
      clear hx
      by_cases c1 : x1 < 0
      · have HP : Hid (hvF n L = ((i : Int), 1)) := by rw [Hid, HF.out]; exact hfGo_bad HX.out (.inl c1)
        clear HF
        go_wp2
        go_ret2
        exact ⟨by rw [HP.out]; rfl, HN.out⟩
      by_cases c2 : x2 ≤ x1
      · have HP : Hid (hvF n L = ((i : Int), 1)) := by rw [Hid, HF.out]; exact hfGo_bad HX.out (.inr (.inl c2))
        clear HF
        go_wp2
        go_ret2
        exact ⟨by rw [HP.out]; rfl, HN.out⟩
      by_cases c3 : n ≤ x2
      · have HP : Hid (hvF n L = ((i : Int), 1)) := by rw [Hid, HF.out]; exact hfGo_bad HX.out (.inr (.inr (.inl c3)))
        clear HF
        go_wp2
        go_ret2
        exact ⟨by rw [HP.out]; rfl, HN.out⟩
      by_cases c4 : x3 < 0
      · have HP : Hid (hvF n L = ((i : Int), 1)) := by rw [Hid, HF.out]; exact hfGo_bad HX.out (.inr (.inr (.inr (.inl c4))))
        clear HF
        go_wp2
        go_ret2
        exact ⟨by rw [HP.out]; rfl, HN.out⟩
      by_cases c5 : 1000000 < x3
      · have HP : Hid (hvF n L = ((i : Int), 1)) := by rw [Hid, HF.out]; exact hfGo_bad HX.out (.inr (.inr (.inr (.inr c5))))
        clear HF
        go_wp2
        go_ret2
        exact ⟨by rw [HP.out]; rfl, HN.out⟩
      have HP : Hid (hvF n L = hfGo n (L.drop (i + 1)) (i + 1)) := by
        rw [Hid, HF.out]
        refine hfGo_ok HX.out ?_
        unfold hBad
        simp only
        omega
      clear HF
      go_wp2
      go_roundw
      case rel => exact ⟨i + 1, by omega, by go_num, HN.out, HP.out⟩
      case measure => simp [intOf]; omega
    · have e : i = len := by omega
      have HP : Hid (hvF n L = (0, 0)) := by
        rw [Hid, HF.out, e, ← HL.out, List.drop_length]; rfl
      subst e
      clear HF
      go_wp2
      go_ret2
      exact ⟨by rw [HP.out]; rfl, HE.out⟩
end Go.Proofs.YtckcbfnffmohgaaDoor
