/-
  The rest of package seq and of the laws about it: At, digits, Pick. Condition: the rows lie in memory as 'SeqAt' says.
-/
import Derived.Test.YtenjblonepegfaaDoorSqr
import Derived.Test.YtenjblonepegfaaDoorArg3
import Derived.Deep.LoopGhost
namespace Go.Proofs.YtenjblonepegfaaDoor
open Go Go.RowKit SQ
set_option linter.unusedVariables false

/-- Steps of the way to a place. -/
theorem at_low {l r : T} {x : Int} {i : Nat} (h : i < l.size) : (T.node l x r).list[i]? = l.list[i]? := by
  rw [T.list, List.getElem?_append_left (by rw [T.len]; exact h)]
theorem at_mid {l r : T} {x : Int} {i : Nat} (h : i = l.size) : (T.node l x r).list[i]? = some x := by
  subst h; rw [T.list, List.getElem?_append_right (by rw [T.len]; exact Nat.le_refl _), T.len]; simp
theorem at_high {l r : T} {x : Int} {i : Nat} (h : l.size < i) : (T.node l x r).list[i]? = r.list[i - l.size - 1]? := by
  rw [T.list, List.getElem?_append_right (by rw [T.len]; omega), T.len]
  obtain ⟨j, rfl⟩ : ∃ j, i = l.size + 1 + j := ⟨i - l.size - 1, by omega⟩
  rw [show l.size + 1 + j - l.size = j + 1 by omega, List.getElem?_cons_succ]
  congr 1

set_option maxHeartbeats 1000000 in
theorem at_no (w : World) (p : Option Addr) (t : T) (i : Int) (ht : SeqAt w p t) (hi : i < 0 ∨ (t.size : Int) ≤ i) :
    Calls Tryd.prog 26 #[.pointer p, .int .i64 i] w fun e w' => e = .returned (.tuple #[.int .i64 0, errV 1]) ∧ w = w' := by
  have HT := Lib.hid ht
  clear ht
  by_cases h0 : i < 0
  · go_enter Tryd.func26, Tryd.ntmps26
    go_wp2
    go_ret2
    exact ⟨rfl, rfl⟩
  · have h1 : (t.size : Int) ≤ i := by omega
    clear hi
    go_enter Tryd.func26, Tryd.ntmps26
    go_wp2_with fail
    refine (len_any w p t HT.out).mono ?_
    rintro e w' ⟨rfl, rfl⟩
    go_wp2
    go_ret2
    exact ⟨rfl, rfl⟩
set_option maxHeartbeats 2000000 in
theorem at_yes (w : World) (p : Option Addr) (t : T) (i : Nat) (r : Int) (ht : SeqAt w p t) (hz : t.size ≤ 1000) (hi : t.list[i]? = some r) :
    Calls Tryd.prog 26 #[.pointer p, .int .i64 i] w fun e w' => e = .returned (.tuple #[.int .i64 r, .nilIface]) ∧ w = w' := by
  have hlt : i < t.size := by have := (List.getElem?_eq_some_iff.1 hi).1; rwa [T.len] at this
  have HT := Lib.hid ht
  have HI := Lib.hid hi
  have hd1 : decide (t.size ≤ i) = false := by simp; omega
  have hd2 : decide ((i : Int) < 0) = false := by simp
  have hi1000 : i ≤ 1000 := by omega
  clear ht hi hlt
  go_enter Tryd.func26, Tryd.ntmps26
  go_wp2_with fail
  refine (len_any w p t HT.out).mono ?_
  rintro e w' ⟨rfl, rfl⟩
  go_wp2
  go_loopg [0, 1] t.size (fun g s0 s1 wr => ∃ (p : Option Addr) (t : T) (i : Nat), s0 = .pointer p ∧ s1 = .int .i64 i ∧ g = t.size ∧ w = wr ∧ i ≤ 1000 ∧ t.size ≤ 1000 ∧ Hid (SeqAt w p t ∧ t.list[i]? = some r))
  case atStart => exact ⟨p, t, i, rfl, rfl, rfl, rfl, hi1000, hz, HT.out, HI.out⟩
  case round =>
    obtain ⟨p, t, i, rfl, rfl, rfl, rfl, hi, hz, HR⟩ := hrel
    cases t with
    | nil => have := HR.out.2; simp [T.list] at this
    | node l x r' =>
      obtain ⟨b, lp, rp, rfl, _, c0, c1, c2, _, hl, hr⟩ := seqCells w HR.out.1
      have HL := Lib.hid hl
      have HRR := Lib.hid hr
      have hsz : l.size + r'.size < 1000 := by simp only [T.size] at hz; omega
      have HLT : Hid (l.size < (T.node l x r').size ∧ r'.size < (T.node l x r').size) := ⟨by simp only [T.size]; omega, by simp only [T.size]; omega⟩
      clear hl hr
      go_wp2_with fail
      refine (len_any w lp l HL.out).mono ?_
      rintro e w' ⟨rfl, rfl⟩
      rcases Nat.lt_trichotomy i l.size with h | h | h
      · have HX := Lib.hid (at_low (r := r') (x := x) h ▸ HR.out.2)
        go_wp2
        go_roundg l.size
        case measure => exact HLT.out.1
        case rel => exact ⟨lp, l, i, rfl, rfl, rfl, rfl, hi, by omega, HL.out, HX.out⟩
      · have hx := HR.out.2
        rw [at_mid h] at hx
        injection hx with hx
        subst hx
        have h1 : ¬ (i : Int) < (l.size : Int) := by omega
        have h2 : ¬ (i : Int) > (l.size : Int) := by omega
        clear h
        go_wp2
        go_ret2
        exact ⟨rfl, rfl⟩
      · have HX := Lib.hid (at_high (l := l) (r := r') (x := x) h ▸ HR.out.2)
        go_wp2
        go_roundg r'.size
        case measure => exact HLT.out.2
        case rel => exact ⟨rp, r', i - l.size - 1, rfl, by go_num, rfl, rfl, by omega, by omega, HRR.out, HX.out⟩
theorem pick_any (w : World) (c : Int) (n : Nat) (hc : in64 c) (h0 : 0 < n) (hn : n ≤ 100000) : Calls Tryd.prog 22 #[.int .i64 c, .int .i64 n] w fun e w' => ∃ d : Nat, e = .returned (.int .i64 d) ∧ d < n ∧ w = w' := by
  unfold in64 at hc
  by_cases h : c < 0
  · obtain ⟨k, rfl⟩ : ∃ k : Nat, c = -(k : Int) - 1 := ⟨(-c - 1).toNat, by omega⟩
    have hp : -(k : Int) - 1 + 1 = -(k : Int) := by omega
    have hr : (k : Int).tmod (n : Int) = ((k % n : Nat) : Int) := by rw [Int.tmod_eq_emod_of_nonneg (by omega)]; rfl
    have hnz : ¬ (n : Int) = 0 := by omega
    go_enter Tryd.func22, Tryd.ntmps22
    go_wp2
    go_ret
    exact ⟨k % n, by first | rfl | (simp only [hr]), Nat.mod_lt _ h0, rfl⟩
  · obtain ⟨k, rfl⟩ := Int.eq_ofNat_of_zero_le (show 0 ≤ c by omega)
    have hr : (k : Int).tmod (n : Int) = ((k % n : Nat) : Int) := by rw [Int.tmod_eq_emod_of_nonneg (by omega)]; rfl
    have hnz : ¬ (n : Int) = 0 := by omega
    go_enter Tryd.func22, Tryd.ntmps22
    go_wp2
    go_ret
    exact ⟨k % n, by first | rfl | (simp only [hr]), Nat.mod_lt _ h0, rfl⟩
end Go.Proofs.YtenjblonepegfaaDoor
