/-
  Walks of the references' HeavyFault; what two rows of edges that are read from heavy ones join. Condition: the edges lie in memory as 'HvAt' says.
-/
import Derived.Test.YtckcbfnffmohgaaDoorSn0
import Derived.Test.YtckcbfnffmohgaaDoorNk2
import Derived.Test.YtckcbfnffmohgaaDoorRf1
import Derived.Test.YtckcbfnffmohgaaDoorRf2
import Derived.Test.YtckcbfnffmohgaaDoorGrw
namespace Go.Proofs.YtckcbfnffmohgaaDoor
open Go Go.RowKit Go.Lib NK
set_option linter.unusedVariables false

def HrPost (w : World) (r : Int × Int) (e : Ending) (w' : World) : Prop := e = .returned (.tuple #[.int .i64 r.1, .int .i64 r.2]) ∧ Ext w w'
set_option maxHeartbeats 4000000 in
set_option maxRecDepth 100000 in
theorem rheavy_any (w : World) (n : Int) (A : Option Addr) (len c : Nat) (L : List He) (hl : L.length = len) (hlm : len ≤ 9223372036854775807) (h : HvAt w A L) :
    Calls Tryd.prog 4 #[.int .i64 n, .slice A len c] w (HrPost w (hvF n L)) := by
  have H := Lib.hid h
  have HL := Lib.hid hl
  clear h hl
  by_cases h1 : n < 1 ∨ 60 < n
  · have hp : Hid (hvF n L = (0, 1)) := by unfold Hid hvF; rw [if_pos h1]
    have hn : nodesF n = 1 := by unfold nodesF; rw [if_pos h1]
    clear h1
    go_enter Tryd.func4, Tryd.ntmps4
    go_wp2_with fail
    refine (nodesFault_any w n).mono ?_
    rintro e w' ⟨rfl, rfl⟩
    rw [hn]
    go_wp2
    go_ret2
    exact ⟨by rw [hp.out]; rfl, Ext.refl _⟩
  have hn : nodesF n = 0 := by unfold nodesF; rw [if_neg h1]
  by_cases h3 : 200 < len
  · have hp : Hid (hvF n L = (0, 3)) := by unfold Hid hvF; rw [if_neg h1, HL.out, if_pos h3]
    have h3' : (200 : Int) < (len : Int) := by omega
    clear h1
    go_enter Tryd.func4, Tryd.ntmps4
    go_wp2_with fail
    refine (nodesFault_any w n).mono ?_
    rintro e w' ⟨rfl, rfl⟩
    rw [hn]
    go_wp2
    go_ret2
    exact ⟨by rw [hp.out]; rfl, Ext.refl _⟩
  have hp : Hid (hvF n L = hfGo n (L.drop 0) 0) := by unfold Hid hvF; rw [if_neg h1, HL.out, if_neg h3]; rfl
  have h3' : ¬ (200 : Int) < (len : Int) := by omega
  clear h3 h1
  go_enter Tryd.func4, Tryd.ntmps4
  go_wp2_with fail
  refine (nodesFault_any w n).mono ?_
  rintro e w' ⟨rfl, rfl⟩
  rw [hn]
  go_wp2
  go_loopw [7] (fun v wr => ∃ i : Nat, i ≤ len ∧ v = .int .i64 i ∧ Hid (Ext w wr ∧ hvF n L = hfGo n (L.drop i) i)) (fun v _ => len - (intOf v).toNat)
  case atStart => exact ⟨0, by omega, rfl, Ext.refl _, hp.out⟩
  case round =>
    obtain ⟨i, hi, rfl, hR⟩ := hrel
    clear hp
    have HE : Hid (Ext w wr) := hR.out.1
    have HF : Hid (hvF n L = hfGo n (L.drop i) i) := hR.out.2
    clear hR
    by_cases hil : i < len
    · have hil' : (i : Int) < (len : Int) := by omega
      have hi0 : (0 : Int) ≤ (i : Int) := by omega
      obtain ⟨bs, off, x, rfl, hbs, hx, a0, a1, a2⟩ := (H.out.ext HE.out).at_ (i := i) (by rw [HL.out]; exact hil)
      have HX := Lib.hid hx
      obtain ⟨⟨x1, x2⟩, x3⟩ := x
      have HN : Hid (Ext w (wr.alloc (.cells #[.int .i64 x1, .int .i64 x2, .int .i64 x3] 36))) := Ext.trans HE.out (Ext.alloc _ _)
      simp only at a0 a1 a2
      clear hx
      by_cases c1 : x1 < 0
      · have HP : Hid (hvF n L = ((i : Int), 1)) := by rw [Hid, HF.out]; exact hfGo_bad HX.out (.inl c1)
        clear HF
        go_wp2
        go_ret2
        exact ⟨by rw [HP.out]; rfl, HN.out⟩
      by_cases c2 : x2 ≤ x1
      · have HP : Hid (hvF n L = ((i : Int), 1)) := by rw [Hid, HF.out]; exact hfGo_bad HX.out (.inr (.inl c2))
        clear HF
        go_wp2
        go_ret2
        exact ⟨by rw [HP.out]; rfl, HN.out⟩
      by_cases c3 : n ≤ x2
      · have HP : Hid (hvF n L = ((i : Int), 1)) := by rw [Hid, HF.out]; exact hfGo_bad HX.out (.inr (.inr (.inl c3)))
        clear HF
        go_wp2
        go_ret2
        exact ⟨by rw [HP.out]; rfl, HN.out⟩
      by_cases c4 : x3 < 0
      · have HP : Hid (hvF n L = ((i : Int), 1)) := by rw [Hid, HF.out]; exact hfGo_bad HX.out (.inr (.inr (.inr (.inl c4))))
        clear HF
        go_wp2
        go_ret2
        exact ⟨by rw [HP.out]; rfl, HN.out⟩
      by_cases c5 : 1000000 < x3
      · have HP : Hid (hvF n L = ((i : Int), 1)) := by rw [Hid, HF.out]; exact hfGo_bad HX.out (.inr (.inr (.inr (.inr c5))))
        clear HF
        go_wp2
        go_ret2
        exact ⟨by rw [HP.out]; rfl, HN.out⟩
      have HP : Hid (hvF n L = hfGo n (L.drop (i + 1)) (i + 1)) := by
        rw [Hid, HF.out]
        refine hfGo_ok HX.out ?_
        unfold hBad
        simp only
        omega
      clear HF
      go_wp2
      go_roundw
      case rel => exact ⟨i + 1, by omega, by go_num, HN.out, HP.out⟩
      case measure => simp [intOf]; omega
    · have e : i = len := by omega
      have HP : Hid (hvF n L = (0, 0)) := by
        rw [Hid, HF.out, e, ← HL.out, List.drop_length]; rfl
      subst e
      clear HF
      go_wp2
      go_ret2
      exact ⟨by rw [HP.out]; rfl, HE.out⟩
/-- The edges of the numbers up to k that are wanted. -/
def edsUp (L : List He) (P : Nat → Bool) (k : Nat) : List AK.Ed := ((List.range k).filter P).map fun j : Nat => (L.getD j ((0, 0), 0)).1
theorem edsUp_succ (L : List He) (P : Nat → Bool) (k : Nat) : edsUp L P (k + 1) = edsUp L P k ++ if P k then [(L.getD k ((0, 0), 0)).1] else [] := by
  unfold edsUp
  rw [List.range_succ, List.filter_append, List.map_append]
  congr 1
  simp only [List.filter_cons, List.filter_nil]
  split <;> rfl
theorem edsUp_len (L : List He) (P : Nat → Bool) (k : Nat) : (edsUp L P k).length ≤ k := by
  unfold edsUp
  rw [List.length_map]
  exact Nat.le_trans (List.length_filter_le _ _) (by simp)
theorem edsUp_inn {n : Nat} {L : List He} (h : OkH n L) (P : Nat → Bool) : Inn n (edsUp L P L.length) := fun x hx => by
  unfold edsUp at hx
  obtain ⟨j, hj, rfl⟩ := List.mem_map.1 hx
  have hj2 : j < L.length := by have := (List.mem_filter.1 hj).1; simpa using this
  have := h.ok L[j] (List.getElem_mem hj2)
  rw [List.getD_eq_getElem?_getD, List.getElem?_eq_getElem hj2]
  simp only [Option.getD_some]
  omega
theorem edsUp_mem {L : List He} {P : Nat → Bool} {p : Nat × Nat} : p ∈ prs (edsUp L P L.length) ↔ ∃ j : Nat, j < L.length ∧ P j = true ∧ ndH L (j : Int) = p := by
  unfold prs edsUp ndH prH
  simp only [List.map_map, List.mem_map, List.mem_filter, List.mem_range, Function.comp_apply, Int.toNat_natCast]
  constructor
  · rintro ⟨j, ⟨h1, h2⟩, h3⟩; exact ⟨j, h1, h2, h3⟩
  · rintro ⟨j, h1, h2, h3⟩; exact ⟨j, ⟨h1, h2⟩, h3⟩
/-- What the references reckon by: the edges ahead of number i; those that weigh t at most. -/
theorem con_ah {L : List He} {i x y : Nat} : UF.Con (prs (edsUp L (ahB L i) L.length)) x y ↔ UF.Con (ahH L i) x y := by
  constructor
  · refine fun c => c.mono fun x y hm => ?_
    obtain ⟨j, h1, h2, h3⟩ := edsUp_mem.1 hm
    exact .edge (mem_ahH.2 ⟨j, h1, ahB_iff.1 h2, h3⟩)
  · refine fun c => c.mono fun x y hm => ?_
    obtain ⟨j, h1, h2, h3⟩ := mem_ahH.1 hm
    exact .edge (edsUp_mem.2 ⟨j, h1, ahB_iff.2 h2, h3⟩)
def leB (L : List He) (t : Int) (j : Nat) : Bool := decide (wtH L j ≤ t)
theorem con_le {L : List He} {t : Int} {x y : Nat} : UF.Con (prs (edsUp L (leB L t) L.length)) x y ↔ UF.Con (leH L t) x y := by
  constructor
  · refine fun c => c.mono fun x y hm => ?_
    obtain ⟨j, h1, h2, h3⟩ := edsUp_mem.1 hm
    exact .edge (mem_leH.2 ⟨j, h1, of_decide_eq_true h2, h3⟩)
  · refine fun c => c.mono fun x y hm => ?_
    obtain ⟨j, h1, h2, h3⟩ := mem_leH.1 hm
    exact .edge (edsUp_mem.2 ⟨j, h1, decide_eq_true h2, h3⟩)
end Go.Proofs.YtckcbfnffmohgaaDoor
