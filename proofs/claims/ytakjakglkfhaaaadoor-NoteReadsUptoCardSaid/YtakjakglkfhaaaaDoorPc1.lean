/-
  Walks of path.checked, the references' Node; what edges without a fault are. Conditions: the edges lie in memory as 'EdsAt' says, the nodes as 'IntsAt'.
-/
import Derived.Test.YtakjakglkfhaaaaDoorQw
namespace Go.Proofs.YtakjakglkfhaaaaDoor
open Go Go.RowKit
set_option linter.unusedVariables false

def badN (n : Int) (x : Int) : Bool := decide (x < 0 ∨ n ≤ x)
/-- What is wrong with edges and nodes. -/
def ckF (n : Int) (l : List AK.Ed) (xs : List Int) : Int := if (edgF n l).2 ≠ 0 then (edgF n l).2 else if xs.any (badN n) then 1 else 0
def ErrPost (w : World) (x : Int) (e : Ending) (w' : World) : Prop := e = .returned (errOf x) ∧ Ext w w'
set_option maxHeartbeats 1000000 in
set_option maxRecDepth 100000 in
theorem checked_any (w : World) (n : Int) (A : Option Addr) (m c : Nat) (l : List AK.Ed) (hl : l.length = m) (hlm : m ≤ 9223372036854775807) (h : EdsAt w A l) (NA : Option Addr) (k kc : Nat) (xs : List Int) (hx : IntsAt w NA xs) (hk : xs.length = k) (hk4 : k ≤ 4) :
    Calls Tryd.prog 50 #[.int .i64 n, .slice A m c, .slice NA k kc] w (ErrPost w (ckF n l xs)) := by
  have H := Lib.hid h
  have HX := Lib.hid hx
  have HK := Lib.hid hk
  have HL := Lib.hid hl
  clear h hx hk hl
  go_enter Tryd.func50, Tryd.ntmps50
  go_wp2_with fail
  refine (check_any w n A m c l HL.out hlm H.out).mono ?_
  rintro e w1 ⟨rfl, hx1⟩
  have HX1 := Lib.hid hx1
  clear hx1
  by_cases h0 : (edgF n l).2 = 0
  · have HC : Hid (ckF n l xs = if xs.any (badN n) then 1 else 0) := by unfold Hid ckF; rw [if_neg (by simpa using h0)]
    rw [h0, errOf_0]
    clear h0
    go_wp2
    have HR0 : Hid (Ext w w1 ∧ ∀ j x, j < 0 → xs[j]? = some x → badN n x = false) := ⟨HX1.out, fun j x hj => by omega⟩
    go_loopw [22] (fun v wr => ∃ i : Nat, i ≤ k ∧ v = .int .i64 i ∧ Hid (Ext w wr ∧ ∀ j x, j < i → xs[j]? = some x → badN n x = false)) (fun v _ => k - (intOf v).toNat)
    case atStart => exact ⟨0, by omega, rfl, HR0.out⟩
    case round =>
      obtain ⟨i, hi, rfl, hR⟩ := hrel
      clear HR0
      by_cases hik : i < k
      · have hik' : (i : Int) < (k : Int) := by omega
        have hi0 : (0 : Int) ≤ (i : Int) := by omega
        obtain ⟨x, hxi⟩ : ∃ x, xs[i]? = some x := ⟨_, List.getElem?_eq_getElem (by rw [HK.out]; exact hik)⟩
        obtain ⟨nb, no, rfl, c0⟩ : ∃ nb no, NA = some ⟨nb, no, none⟩ ∧ wr.cell? ⟨nb, no + i, none⟩ = some (.int .i64 x) := by
          rcases HX.out.ext hR.out.1 with h | ⟨nb, no, h, hlt, hc⟩
          · rw [h] at hxi; simp at hxi
          · exact ⟨nb, no, h, hc i x hxi⟩
        have HXI := Lib.hid hxi
        have HE := Lib.hid hR.out.1
        clear hxi
        by_cases c1 : x < 0
        · have HC2 : Hid (ckF n l xs = 1) := by
            rw [Hid, HC.out, if_pos]
            rw [List.any_eq_true]
            exact ⟨x, List.mem_of_getElem? HXI.out, by simp [badN, c1]⟩
          clear hR HC
          go_wp2
          go_ret
          exact ⟨by rw [HC2.out]; rfl, HE.out⟩
        by_cases c2 : n ≤ x
        · have HC2 : Hid (ckF n l xs = 1) := by
            rw [Hid, HC.out, if_pos]
            rw [List.any_eq_true]
            exact ⟨x, List.mem_of_getElem? HXI.out, by simp [badN, c2]⟩
          clear hR HC
          go_wp2
          go_ret
          exact ⟨by rw [HC2.out]; rfl, HE.out⟩
        have HN : Hid (Ext w wr ∧ ∀ j y, j < i + 1 → xs[j]? = some y → badN n y = false) := ⟨HE.out, fun j y hj hy => by
          by_cases e : j = i
          · subst e; rw [HXI.out] at hy; injection hy with hy; subst hy; simp [badN]; omega
          · exact hR.out.2 j y (by omega) hy⟩
        clear hR
        go_wp2
        go_roundw
        case rel => exact ⟨i + 1, by omega, by go_num, HN.out⟩
        case measure => simp [intOf]; omega
      · have e : i = k := by omega
        have HC2 : Hid (ckF n l xs = 0) := by
          rw [Hid, HC.out, if_neg]
          rw [List.any_eq_true]
          rintro ⟨x, hx, hb⟩
          obtain ⟨j, hj⟩ := List.getElem?_of_mem hx
          have := hR.out.2 j x (by rw [e, ← HK.out]; exact (List.getElem?_eq_some_iff.1 hj).1) hj
          rw [this] at hb; simp at hb
        have HE := Lib.hid hR.out.1
        subst e
        clear hR HC
        go_wp2
        go_ret
        exact ⟨by rw [HC2.out]; rfl, HE.out⟩
  · have HC : Hid (ckF n l xs = (edgF n l).2) := by unfold Hid ckF; rw [if_pos h0]
    rw [errOf_ne h0]
    go_wp2
    go_ret
    exact ⟨by rw [HC.out, errOf_ne h0]; rfl, HX1.out⟩
theorem rnode_any (w : World) (n a : Int) : Calls Tryd.prog 36 #[.int .i64 n, .int .i64 a] w fun e w' => e = .returned (.bool (!badN n a)) ∧ w = w' := by
  by_cases c1 : a < 0
  · have HB : Hid (badN n a = true) := by unfold Hid; simp [badN, c1]
    have c1' : ¬ (0 : Int) ≤ a := by omega
    go_enter Tryd.func36, Tryd.ntmps36
    go_wp2
    go_ret
    exact ⟨by rw [HB.out]; rfl, rfl⟩
  · by_cases c2 : n ≤ a
    · have HB : Hid (badN n a = true) := by unfold Hid; simp [badN, c2]
      have c3 : decide (a < n) = false := by simp; omega
      go_enter Tryd.func36, Tryd.ntmps36
      go_wp2
      go_ret
      exact ⟨by rw [HB.out]; rfl, rfl⟩
    · have HB : Hid (badN n a = false) := by unfold Hid; simp [badN]; omega
      have c3 : decide (a < n) = true := by simp; omega
      go_enter Tryd.func36, Tryd.ntmps36
      go_wp2
      go_ret
      exact ⟨by rw [HB.out]; rfl, rfl⟩
end Go.Proofs.YtakjakglkfhaaaaDoor
