/-
  slices.stableCmpFunc and slices.SortStableFunc at rows of ints, by span.light's closure: stable where the numbers rise. Conditions: as in Ss4.
-/
import Derived.Test.YtckcbfnffmohgaaDoorSs7
namespace Go.Proofs.YtckcbfnffmohgaaDoor
open Go Go.Shelf Go.RowKit Go.Lib Go.Sort SS
set_option linter.unusedVariables false
variable {nn : Nat}

set_option maxHeartbeats 1000000 in
set_option maxRecDepth 100000 in
theorem stable_any (wt : Int → Int) (w0 : World) (d0 : Array Int) (blk off cap n : Nat) (d : Array Int) (w : World) (cb : Array Value) (hC : CmpLays1 Tryd.prog 35 cb (eN nn) (cfW wt) blk off d0.size w0) (R : Row1 (eN nn) w0 blk off d0) (hs : d0.size = d.size) (S : SW (eN nn) w0 blk off d w) (hn : d.size = n) (hsz : n < 50000) (hu : Up (vw d) 0 n) :
    Calls Tryd.prog 50 #[.slice (some ⟨blk, off, none⟩) n cap, .int .i64 n, .func (.func 35) #[] cb] w fun e w' => e = .returned (.tuple #[]) ∧ ∃ d' : Array Int, d'.size = n ∧ So wt (vw d') 0 n ∧ Sm (vw d) (vw d') 0 n ∧ SW (eN nn) w0 blk off d' w' := by
  have S0 : Hid (SW (eN nn) w0 blk off d w) := S
  have HC := Lib.hid hC
  have HI := Lib.hid (Ins20.start wt (vw d) n 20)
  have HINS := Lib.hid (fun (da : Array Int) (W : World) (a b : Nat) (h1 : da.size = n) (hW : SW (eN nn) w0 blk off da W) (hab : a ≤ b) (hb : b ≤ n) (hu : Up (vw da) a b) => by
    have := ins_any wt w0 d0 blk off cap a b da W cb hC R (by omega) hW hab (by omega) (by omega) hu
    rw [h1] at this; exact this)
  have HSYM := Lib.hid (fun (da : Array Int) (W : World) (a m b : Nat) (h1 : da.size = n) (hW : SW (eN nn) w0 blk off da W) (h2 : a < m) (h3 : m < b) (h4 : b ≤ n) (hx : So wt (vw da) a m) (hy : So wt (vw da) m b) (hc : Cr (vw da) a m b) => by
    have := sym_all wt w0 d0 blk off cb hC R (by omega) (b - a) cap a m b da W (Nat.le_refl _) h2 h3 (by omega) (by omega) hW hx hy hc
    rw [h1] at this; exact this)
  clear S hC
  go_enter Tryd.func50, Tryd.ntmps50
  go_wp2
  go_loopw [7, 8] (fun va vb wr => ∃ (a : Nat) (da : Array Int), va = .int .i64 a ∧ vb = .int .i64 ((a : Int) + 20) ∧ a ≤ n ∧ da.size = n ∧ Hid (Ins20 wt (vw d) (vw da) n 20 a) ∧ Hid (SW (eN nn) w0 blk off da wr)) (fun va _ _ => n - (intOf va).toNat)
  case atStart => exact ⟨0, d, rfl, rfl, Nat.zero_le _, hn, HI.out, S0.out⟩
  case round =>
    clear S0 HI
    obtain ⟨a, da, rfl, rfl, han, hsd, HP, HS⟩ := hrel
    by_cases c : a + 20 ≤ n
    · have hlt : (a : Int) + 20 ≤ (n : Int) := by omega
      have hm : min (a + 20) n = a + 20 := by omega
      have HI2 := Lib.hid (HINS.out da · a (a + 20) hsd · (by omega) c (HP.out.up hu c))
      have e20 : ((a + 20 : Nat) : Int) = (a : Int) + 20 := by omega
      have r20 : IntKind.i64.wrap ((a : Int) + 20 + 20) = (a : Int) + 20 + 20 := IntWalk.i64_in _ (by omega)
      rw [e20] at HI2
      clear e20
      go_wp2_with fail
      go_at_call 57
      refine (HI2.out _ HS.out).mono ?_
      rintro e w2 ⟨rfl, d2, q1, q2, q3, q4, q5⟩
      have HP2 : Hid (Ins20 wt (vw d) (vw d2) n 20 (a + 20)) := HP.out.step (by rw [hm]; exact q2) (by rw [hm]; exact q3) (by rw [hm]; exact q4)
      have Q5 := Lib.hid q5
      clear q2 q3 q4 q5 HI2 HS HP
      go_wp2
      go_roundw
      case rel => exact ⟨a + 20, d2, by go_num, by go_num, c, by omega, HP2, Q5⟩
      case measure => simp [intOf]; omega
    · have hlt : ¬ (a : Int) + 20 ≤ (n : Int) := by omega
      have hm : min (a + 20) n = n := by omega
      have HI2 := Lib.hid (HINS.out da · a n hsd · han (Nat.le_refl _) (HP.out.up hu (Nat.le_refl _)))
      go_wp2_with fail
      go_at_call 57
      refine (HI2.out _ HS.out).mono ?_
      rintro e w2 ⟨rfl, d2, q1, q2, q3, q4, q5⟩
      have HP2 : Hid (Pas wt (vw d) (vw d2) n 20 0) := (HP.out.step (by rw [hm]; exact q2) (by rw [hm]; exact q3) (by rw [hm]; exact q4)).pas (by omega)
      have Q5 := Lib.hid q5
      clear q2 q3 q4 q5 HI2 HS HP
      go_wp2
      go_loopw [6] (fun vs ws => ∃ (bs : Nat) (db : Array Int), vs = .int .i64 bs ∧ 20 ≤ bs ∧ bs ≤ 100000 ∧ db.size = n ∧ Hid (Pas wt (vw d) (vw db) n bs 0) ∧ Hid (SW (eN nn) w0 blk off db ws)) (fun vs _ => n - (intOf vs).toNat)
      case atStart => exact ⟨20, d2, rfl, by omega, by omega, by omega, HP2, Q5⟩
      case round =>
        clear Q5 HP2
        obtain ⟨bs, db, rfl, hb1, hb2, hsb, HB, HT⟩ := hrel
        by_cases c2 : bs < n
        · have hz2 : (bs : Int) < (n : Int) := by omega
          have r2 : IntKind.i64.wrap (2 * (bs : Int)) = 2 * (bs : Int) := IntWalk.i64_in _ (by omega)
          have r3 : IntKind.i64.wrap ((bs : Int) * 2) = 2 * (bs : Int) := (IntWalk.i64_in _ (by omega)).trans (by omega)
          go_wp2
          go_loopw [7, 8] (fun va vb wr => ∃ (a : Nat) (da : Array Int), va = .int .i64 a ∧ vb = .int .i64 ((a : Int) + 2 * (bs : Int)) ∧ a ≤ n ∧ da.size = n ∧ Hid (Pas wt (vw d) (vw da) n bs a) ∧ Hid (SW (eN nn) w0 blk off da wr)) (fun va _ _ => n - (intOf va).toNat)
          case atStart => exact ⟨0, db, rfl, by simp, Nat.zero_le _, hsb, HB.out, HT.out⟩
          case round =>
            clear HB HT
            obtain ⟨a, da, rfl, rfl, han, hsd, HP, HS⟩ := hrel
            have ra : IntKind.i64.wrap ((a : Int) + (bs : Int)) = ((a + bs : Nat) : Int) := (IntWalk.i64_in _ (by omega)).trans (by omega)
            by_cases c3 : a + 2 * bs ≤ n
            · have hlt : (a : Int) + 2 * (bs : Int) ≤ (n : Int) := by omega
              have hm : min (a + 2 * bs) n = a + 2 * bs := by omega
              have hm1 : min (a + bs) n = a + bs := by omega
              have hm2 : a + bs + bs = a + 2 * bs := by omega
              have B2 := HP.out.two (by omega)
              rw [hm2] at B2
              have CR := B2.1.cr hu B2.2 (by omega)
              have s1 := B2.1.so; have s2 := B2.2.so
              rw [hm1] at s1
              rw [hm] at s2 CR
              have HI2 := Lib.hid (HSYM.out da · a (a + bs) (a + 2 * bs) hsd · (by omega) (by omega) c3 s1 s2 CR)
              have e20 : ((a + 2 * bs : Nat) : Int) = (a : Int) + 2 * (bs : Int) := by omega
              have r20 : IntKind.i64.wrap ((a : Int) + 2 * (bs : Int) + 2 * (bs : Int)) = (a : Int) + 2 * (bs : Int) + 2 * (bs : Int) := IntWalk.i64_in _ (by omega)
              rw [e20] at HI2
              clear e20 s1 s2 CR B2 hm2
              go_wp2_with fail
              go_at_call 58
              refine (HI2.out _ HS.out).mono ?_
              rintro e w3 ⟨rfl, d3, q1, q2, q3, q4, q5⟩
              have HP3 : Hid (Pas wt (vw d) (vw d3) n bs (a + 2 * bs)) := HP.out.step (by omega) (by rw [hm]; exact q2) (by rw [hm]; exact q3) (by rw [hm]; exact q4)
              have Q5 := Lib.hid q5
              clear q2 q3 q4 q5 HI2 HS HP
              go_wp2
              go_roundw
              case rel => exact ⟨a + 2 * bs, d3, by go_num, by go_num, c3, by omega, HP3, Q5⟩
              case measure => simp [intOf]; omega
            · have hlt : ¬ (a : Int) + 2 * (bs : Int) ≤ (n : Int) := by omega
              by_cases c4 : a + bs < n
              · have hlt4 : ((a + bs : Nat) : Int) < (n : Int) := by omega
                have hm : min (a + 2 * bs) n = n := by omega
                have hm1 : min (a + bs) n = a + bs := by omega
                have hm2 : a + bs + bs = a + 2 * bs := by omega
                have B2 := HP.out.two c4
                rw [hm2] at B2
                have CR := B2.1.cr hu B2.2 (by omega)
                have s1 := B2.1.so; have s2 := B2.2.so
                rw [hm1] at s1
                rw [hm] at s2 CR
                have HI2 := Lib.hid (HSYM.out da · a (a + bs) n hsd · (by omega) c4 (Nat.le_refl _) s1 s2 CR)
                clear s1 s2 CR B2 hm2
                go_wp2_with fail
                go_at_call 58
                refine (HI2.out _ HS.out).mono ?_
                rintro e w3 ⟨rfl, d3, q1, q2, q3, q4, q5⟩
                have HP3 : Hid (Pas wt (vw d) (vw d3) n (2 * bs) 0) := (HP.out.step c4 (by rw [hm]; exact q2) (by rw [hm]; exact q3) (by rw [hm]; exact q4)).over (by omega)
                have Q5 := Lib.hid q5
                clear q2 q3 q4 q5 HI2 HS HP
                go_wp2
                go_roundw
                case rel => exact ⟨2 * bs, d3, by go_num, by omega, by omega, by omega, HP3, Q5⟩
                case measure => simp [intOf]; omega
              · have hlt4 : ¬ ((a + bs : Nat) : Int) < (n : Int) := by omega
                have HP3 : Hid (Pas wt (vw d) (vw da) n (2 * bs) 0) := HP.out.over (by omega)
                clear HP
                go_wp2
                go_roundw
                case rel => exact ⟨2 * bs, da, by go_num, by omega, by omega, by omega, HP3, HS.out⟩
                case measure => simp [intOf]; omega
        · have hz2 : ¬ (bs : Int) < (n : Int) := by omega
          go_wp2
          go_end0
          obtain ⟨z1, z2⟩ := HB.out.all (by omega)
          exact ⟨rfl, db, hsb, z1, z2, HT.out⟩

theorem stable_nil (fv : Value) (w : World) : Calls Tryd.prog 50 #[.slice none 0 0, .int .i64 0, fv] w fun e w' => e = .returned (.tuple #[]) ∧ w' = w := by
  have HI := Lib.hid (ins_nil fv w)
  go_enter Tryd.func50, Tryd.ntmps50
  go_wp2
  refine wp_loop_rounds 1 ?_
  rw [rounds_succ]
  go_wp2_with fail
  go_at_call 57
  refine HI.out.mono ?_
  rintro e w' ⟨rfl, rfl⟩
  go_wp2
  refine wp_loop_rounds 1 ?_
  rw [rounds_succ]
  go_wp2
  go_end0
  exact ⟨rfl, rfl⟩
end Go.Proofs.YtckcbfnffmohgaaDoor
