/-
  slices.swapRangeCmpFunc and slices.rotateCmpFunc at rows of ints: two stretches exchanged; two stretches beside each other change places. Conditions: the row is its own block's (Row1, SW: the kit's words), the places lie within it.
-/
import Derived.Test.YtckcbfnffmohgaaDoorSs2
import Derived.Test.YtckcbfnffmohgaaDoorProg
import Derived.Shelf.SlSortCmp.Kit1
import Derived.Sort.WalkA
import Derived.Sort.WalkB2
import Derived.Sort.WalkB12
import Derived.Deep.LoopGhost
import Derived.Lib.Hide
namespace Go.Proofs.YtckcbfnffmohgaaDoor
open Go Go.Shelf Go.RowKit Go.Lib Go.Sort SS
set_option linter.unusedVariables false

/-- Ints: as they are within the numbers 0 .. n-1; what is none of these is 0 (so that a compare by them may be asked of whatever two). -/
def cl (n : Nat) (x : Int) : Int := if 0 ≤ x ∧ x < (n : Int) then x else 0
abbrev eN (n : Nat) : Int → Value := fun x => Value.int .i64 (cl n x)
variable {nn : Nat}

set_option maxHeartbeats 4000000 in
set_option maxRecDepth 100000 in
theorem swr_any (w0 : World) (d0 : Array Int) (blk off cap a b n : Nat) (d : Array Int) (w : World) (cf : Value) (R : Row1 (eN nn) w0 blk off d0) (hs : d0.size = d.size) (S : SW (eN nn) w0 blk off d w) (hab : a + n ≤ b) (hb : b + n ≤ d.size) (hsz : d.size < 100000) :
    Calls Tryd.prog 61 #[.slice (some ⟨blk, off, none⟩) d.size cap, .int .i64 a, .int .i64 b, .int .i64 n, cf] w fun e w' => e = .returned (.tuple #[]) ∧ ∃ d' : Array Int, d'.size = d.size ∧ vw d' = swr (vw d) a b n ∧ SW (eN nn) w0 blk off d' w' := by
  have S0 : Hid (SW (eN nn) w0 blk off d w) := S
  clear S
  go_enter Tryd.func61, Tryd.ntmps61
  go_wp2
  go_loopw [10] (fun vi wr => ∃ (i : Nat) (di : Array Int), i ≤ n ∧ vi = .int .i64 i ∧ di.size = d.size ∧ Hid (vw di = swr (vw d) a b i) ∧ Hid (SW (eN nn) w0 blk off di wr)) (fun vi _ => n - (intOf vi).toNat)
  case atStart => exact ⟨0, d, Nat.zero_le _, rfl, rfl, (swr_zero _ _ _).symm, S0.out⟩
  case round =>
    clear S0
    obtain ⟨i, di, hi, rfl, hsd, HV, HS⟩ := hrel
    by_cases c : i < n
    · obtain ⟨p, hp⟩ : ∃ p, a + i = p := ⟨_, rfl⟩
      obtain ⟨q, hq⟩ : ∃ q, b + i = q := ⟨_, rfl⟩
      have rp : IntKind.i64.wrap ((a : Int) + (i : Int)) = (p : Int) := (IntWalk.i64_in _ (by omega)).trans (by omega)
      have rq : IntKind.i64.wrap ((b : Int) + (i : Int)) = (q : Int) := (IntWalk.i64_in _ (by omega)).trans (by omega)
      have bp : (p : Int) < (d.size : Int) := by omega
      have bq : (q : Int) < (d.size : Int) := by omega
      have c1 := HS.out.c1 R (by omega) p (by omega)
      have c2 := HS.out.c1 R (by omega) q (by omega)
      have f1 := HS.out.f1 R (by omega) p (by omega)
      have f2 := HS.out.f1 R (by omega) q (by omega)
      obtain ⟨u3, c3⟩ := HS.out.c2 R (by omega) p q (by omega) (by omega) ((eN nn) di[q]!)
      have HX : Hid (SW (eN nn) w0 blk off (swp di p q) ((wr.setCell ⟨blk, off + p, none⟩ ((eN nn) di[q]!)).setCell ⟨blk, off + q, none⟩ ((eN nn) di[p]!)).drew) := HS.out.swapped R p q (by omega) (by omega)
      have HW : Hid (vw (swp di p q) = swr (vw d) a b (i + 1)) := by
        funext k
        rw [vw_swp di (by omega) (by omega), swr_step (by omega), ← HV.out, hp, hq]
      generalize di[p]! = x at c1 c3 HX
      generalize di[q]! = y at c2 c3 HX
      simp only [eN] at c1 c2 c3 HX
      have hlt : (i : Int) < (n : Int) := by omega
      clear HV HS hp hq
      go_wp2_with fail
      go_big_region
      clear c1 c2 c3 f1 f2
      generalize ((wr.setCell ⟨blk, off + p, none⟩ (.int .i64 (cl nn y))).setCell ⟨blk, off + q, none⟩ (.int .i64 (cl nn x))).drew = w3 at HX ⊢
      go_wp2
      go_roundw
      case rel => exact ⟨i + 1, swp di p q, by omega, by go_num, by rw [size_swp]; exact hsd, HW, HX⟩
      case measure => simp [intOf]; omega
    · obtain rfl : i = n := by omega
      go_wp2
      go_end0
      exact ⟨rfl, di, hsd, HV.out, HS.out⟩
set_option maxHeartbeats 600000 in
set_option maxRecDepth 100000 in
theorem rot_any (w0 : World) (d0 : Array Int) (blk off cap a m b : Nat) (d : Array Int) (w : World) (cf : Value) (R : Row1 (eN nn) w0 blk off d0) (hs : d0.size = d.size) (S : SW (eN nn) w0 blk off d w) (ham : a < m) (hmb : m < b) (hb : b ≤ d.size) (hsz : d.size < 100000) :
    Calls Tryd.prog 60 #[.slice (some ⟨blk, off, none⟩) d.size cap, .int .i64 a, .int .i64 m, .int .i64 b, cf] w fun e w' => e = .returned (.tuple #[]) ∧ ∃ d' : Array Int, d'.size = d.size ∧ vw d' = rot (vw d) a m b ∧ SW (eN nn) w0 blk off d' w' := by
  have S0 : Hid (SW (eN nn) w0 blk off d w) := S
  clear S
  obtain ⟨i0, hi0⟩ : ∃ i0, a + i0 = m := ⟨m - a, by omega⟩
  obtain ⟨j0, hj0⟩ : ∃ j0, m + j0 = b := ⟨b - m, by omega⟩
  have r1 : IntKind.i64.wrap ((m : Int) - (a : Int)) = (i0 : Int) := (IntWalk.i64_in _ (by omega)).trans (by omega)
  have r2 : IntKind.i64.wrap ((b : Int) - (m : Int)) = (j0 : Int) := (IntWalk.i64_in _ (by omega)).trans (by omega)
  go_enter Tryd.func60, Tryd.ntmps60
  go_wp2
  go_loopw [10, 11] (fun vi vj wr => ∃ (i j : Nat) (di : Array Int), vi = .int .i64 i ∧ vj = .int .i64 j ∧ 1 ≤ i ∧ i ≤ i0 ∧ 1 ≤ j ∧ j ≤ j0 ∧ di.size = d.size ∧ Hid (rot (vw di) (m - i) m (m + j) = rot (vw d) a m b) ∧ Hid (SW (eN nn) w0 blk off di wr)) (fun vi vj _ => (intOf vi).toNat + (intOf vj).toNat)
  case atStart => exact ⟨i0, j0, d, rfl, rfl, by omega, by omega, by omega, by omega, rfl, by rw [Hid, show m - i0 = a by omega, hj0], S0.out⟩
  case round =>
    clear S0
    obtain ⟨i, j, di, rfl, rfl, hi1, hi2, hj1, hj2, hsd, HV, HS⟩ := hrel
    obtain ⟨p, hp⟩ : ∃ p, p + i = m := ⟨m - i, by omega⟩
    have rp : IntKind.i64.wrap ((m : Int) - (i : Int)) = (p : Int) := (IntWalk.i64_in _ (by omega)).trans (by omega)
    have hpm : m - i = p := by omega
    by_cases c : i = j
    · subst c
      have HC := Lib.hid (fun W (hW : SW (eN nn) w0 blk off di W) => swr_any w0 d0 blk off cap p m i di W cf R (by omega) hW (by omega) (by omega) (by omega))
      rw [hsd] at HC
      have HR : Hid (swr (vw di) p m i = rot (vw d) a m b) := by
        have := rot_end (f := vw di) (m := m) (i := i) (by omega)
        rw [hpm] at this
        rw [Hid, this, ← HV.out, hpm]
      clear HV
      go_wp2_with fail
      refine (HC.out wr HS.out).mono ?_
      rintro e w2 ⟨rfl, d2, q1, q2, q3⟩
      go_wp2
      go_end0
      exact ⟨rfl, d2, by omega, by rw [q2]; exact HR.out, q3⟩
    · have e1 : ((i : Int) == (j : Int)) = false := by rw [beq_eq_false_iff_ne]; omega
      have e2 : (i == j) = false := by rw [beq_eq_false_iff_ne]; exact c
      have e3 : ¬ (i : Int) = (j : Int) := by omega
      have e4 : ((i : Int) != (j : Int)) = true := by rw [bne, e1]; rfl
      have e5 : (i != j) = true := by rw [bne, e2]; rfl
      by_cases h : j < i
      · have hz : (j : Int) < (i : Int) := by omega
        obtain ⟨i2, hi3⟩ : ∃ i2, i2 + j = i := ⟨i - j, by omega⟩
        have rs : IntKind.i64.wrap ((i : Int) - (j : Int)) = (i2 : Int) := (IntWalk.i64_in _ (by omega)).trans (by omega)
        have HC := Lib.hid (fun W (hW : SW (eN nn) w0 blk off di W) => swr_any w0 d0 blk off cap p m j di W cf R (by omega) hW (by omega) (by omega) (by omega))
        rw [hsd] at HC
        have HR : Hid (rot (swr (vw di) p m j) (m - i2) m (m + j) = rot (vw d) a m b) := by
          have := rot_left (f := vw di) (m := m) (i := i) (j := j) (by omega) h
          rw [hpm, show i - j = i2 by omega] at this
          rw [Hid, this, ← HV.out, hpm]
        clear HV
        go_wp2_with fail
        refine (HC.out wr HS.out).mono ?_
        rintro e w2 ⟨rfl, d2, q1, q2, q3⟩
        have Q2 : Hid (rot (vw d2) (m - i2) m (m + j) = rot (vw d) a m b) := by rw [Hid, q2]; exact HR.out
        have Q3 : Hid (SW (eN nn) w0 blk off d2 w2) := q3
        clear q2 q3 HR HC HS
        go_wp2
        go_roundw
        case rel => exact ⟨i2, j, d2, rfl, rfl, by omega, by omega, hj1, hj2, by omega, Q2, Q3⟩
        case measure => simp [intOf]; omega
      · have hz : ¬ (j : Int) < (i : Int) := by omega
        obtain ⟨j2, hj3⟩ : ∃ j2, j2 + i = j := ⟨j - i, by omega⟩
        have rs : IntKind.i64.wrap ((j : Int) - (i : Int)) = (j2 : Int) := (IntWalk.i64_in _ (by omega)).trans (by omega)
        obtain ⟨s1, hs1⟩ : ∃ s1, m + j = s1 := ⟨_, rfl⟩
        obtain ⟨s2, hs2⟩ : ∃ s2, s2 + i = s1 := ⟨s1 - i, by omega⟩
        have ra : IntKind.i64.wrap ((m : Int) + (j : Int)) = (s1 : Int) := (IntWalk.i64_in _ (by omega)).trans (by omega)
        have rb : IntKind.i64.wrap ((s1 : Int) - (i : Int)) = (s2 : Int) := (IntWalk.i64_in _ (by omega)).trans (by omega)
        have HC := Lib.hid (fun W (hW : SW (eN nn) w0 blk off di W) => swr_any w0 d0 blk off cap p s2 i di W cf R (by omega) hW (by omega) (by omega) (by omega))
        rw [hsd] at HC
        have HR : Hid (rot (swr (vw di) p s2 i) (m - i) m (m + j2) = rot (vw d) a m b) := by
          have := rot_right (f := vw di) (m := m) (i := i) (j := j) (by omega) (by omega)
          rw [hpm, show j - i = j2 by omega, show m + j - i = s2 by omega] at this
          rw [Hid, hpm, this, ← HV.out, hpm]
        clear HV
        go_wp2_with fail
        refine (HC.out wr HS.out).mono ?_
        rintro e w2 ⟨rfl, d2, q1, q2, q3⟩
        have Q2 : Hid (rot (vw d2) (m - i) m (m + j2) = rot (vw d) a m b) := by rw [Hid, q2]; exact HR.out
        have Q3 : Hid (SW (eN nn) w0 blk off d2 w2) := q3
        clear q2 q3 HR HC HS
        go_wp2
        go_roundw
        case rel => exact ⟨i, j2, d2, rfl, rfl, hi1, hi2, by omega, by omega, by omega, Q2, Q3⟩
        case measure => simp [intOf]; omega
end Go.Proofs.YtckcbfnffmohgaaDoor
