/-
  DiskPlays' walk. Conditions: the script is read as 'EStepsAt' says; errors.errorType's cell.
-/
import Derived.Test.YtenjblonepegfaaDoorDp5
import Derived.Test.YtenjblonepegfaaDoorDp6
import Derived.Deep.CutBlock
import Derived.Deep.DeepCutAuto
import Derived.StillTailTactics
namespace Go.Proofs.YtenjblonepegfaaDoor
open Go Go.RowKit
set_option linter.unusedVariables false

theorem dp_start {W w1 w2 : World} {n : Nat} {u : Dsk} {r : RD} (hu : DAt w1 u n (DK.new n)) (hu2 : ∀ k, u.fp k → W.heap.size ≤ k) (hb : Below W.heap.size W w1) (hr : RAt w2 r n (freshD n)) (he : Ext w1 w2) (hr2 : ∀ k, r.fp k → w1.heap.size ≤ k) : DpR W n (freshD n) (freshD n) u.g r.g none w2 :=
  ⟨u, r, rfl, rfl, hu.ext he, hr, hb.trans (he.mono hb.size), hu2, fun k hk => Nat.le_trans hb.size (hr2 k hk), fun _ _ h => by cases h⟩
def DpRel (W : World) (n gu gr k : Nat) (w : World) : Prop := ∃ d, d.ws.length ≤ k ∧ DpR W n d d gu gr none w
set_option maxRecDepth 100000 in
set_option maxHeartbeats 4000000 in
theorem dp_walk (pages : Int) (a : Option Addr) (n cap : Nat) (s : Nat → ESt) (w : World) (hd : Td.Door w) (hs : EStepsAt w a n s ∧ n ≤ cap ∧ cap ≤ maxLen) :
    Calls Tryd.prog 3 #[.int .i64 pages, .slice a n cap] w fun e w' => e = .returned (.bool true) ∧ Below w.heap.size w w' := by
  obtain ⟨hs, hnc, hcm⟩ := hs
  unfold maxLen at hcm
  have HS := Lib.hid hs
  have HD := Lib.hid hd
  clear hs hd
  by_cases hbad : pages < 1 ∨ 80 < pages
  · have HBAD := Lib.hid hbad
    rcases (show pages < 1 ∨ (¬ pages < 1 ∧ 80 < pages) by omega) with g1 | ⟨g1, g2⟩
    all_goals
      clear hbad
      go_enter Tryd.func3, Tryd.ntmps3
      go_wp2_with fail
      refine (dnew_no w pages HBAD.out).mono ?_
      rintro e w1 ⟨rfl, hb1⟩
      have HB1 := Lib.hid hb1
      clear hb1
      go_wp2_with fail
      refine (same_errno w1 1 1 (HD.out.new HB1.out) true rfl).mono ?_
      rintro e w2 ⟨rfl, hb2⟩
      have HB2 : Hid (Ext w w2) := HB1.out.trans (hb2.mono HB1.out.size)
      clear hb2
      go_wp2
      go_ret
      exact ⟨rfl, HB2.out⟩
  obtain ⟨P, rfl⟩ := Int.eq_ofNat_of_zero_le (show 0 ≤ pages by omega)
  have hP1 : 0 < P := by omega
  have hP2 : P ≤ 80 := by omega
  have g1 : ¬ ((P : Int) < 1) := by omega
  have g2 : ¬ ((80 : Int) < P) := by omega
  clear hbad
  go_enter Tryd.func3, Tryd.ntmps3
  go_wp2_with fail
  refine (dnew_yes w P hP1 hP2).mono ?_
  rintro e w1 ⟨u, rfl, hu, hb1, hu2⟩
  have HU := Lib.hid hu
  have HU2 := Lib.hid hu2
  have HB1 := Lib.hid hb1
  clear hu hb1 hu2
  go_wp2_with fail
  refine (dpages_any w1 u P _ HU.out).mono ?_
  rintro e w1' ⟨rfl, rfl⟩
  go_wp2_with fail
  refine (rnew_any w1 P hP1 hP2).mono ?_
  rintro e w2 ⟨r, rfl, hr, he, hr2⟩
  have HR0 : Hid (DpRel w P u.g r.g 0 w2) := ⟨_, by simp [freshD], dp_start HU.out HU2.out HB1.out hr he hr2⟩
  generalize u.g = gu at HR0 ⊢
  generalize r.g = gr at HR0 ⊢
  clear hr he hr2 HU HU2 HB1
  go_wp2
  go_loopw [8] (fun v8 wr => ∃ k : Nat, k ≤ 50 ∧ k ≤ n ∧ v8 = .int .i64 k ∧ Hid (DpRel w P gu gr k wr)) (fun v8 _ => 50 - (intOf v8).toNat)
  case atStart => exact ⟨0, by omega, by omega, rfl, HR0.out⟩
  case round =>
    obtain ⟨k, hk50, hkn, rfl, HR⟩ := hrel
    by_cases hkl : k < n
    · by_cases hk : k < 50
      · obtain ⟨d, hws, hR⟩ := HR.out
        have HP := Lib.hid hR
        clear hR HR
        rcases HS.out with h0 | ⟨bs, off, rfl, hbl, hev⟩
        · omega
        have hst := hev k hkl
        generalize s k = st at hst
        obtain ⟨t, x, A, m, c, b, KA, km, kc, kl⟩ := st
        obtain ⟨t0, t1, t2, t3, ⟨EA, el, ec, t4⟩, hB, hbl2, hbm, hI, hkl2, hkm, hx64⟩ := hst
        simp only at t0 t1 t2 t3 t4 hB hbl2 hbm hI hkl2 hkm hx64
        have t0 := (HP.out.bel.cell (p := ⟨bs, off + k * 5, none⟩) hbl).trans t0
        have t1 := (HP.out.bel.cell (p := ⟨bs, off + k * 5 + 1, none⟩) hbl).trans t1
        have t2 := (HP.out.bel.cell (p := ⟨bs, off + k * 5 + 2, none⟩) hbl).trans t2
        have t3 := (HP.out.bel.cell (p := ⟨bs, off + k * 5 + 3, none⟩) hbl).trans t3
        have t4 := (HP.out.bel.cell (p := ⟨bs, off + k * 5 + 4, none⟩) hbl).trans t4
        have HBY := Lib.hid hB
        have HBL := Lib.hid hbl2
        have HBM := Lib.hid hbm
        have HI := Lib.hid hI
        have HKL := Lib.hid hkl2
        have HKM := Lib.hid hkm
        have HX := Lib.hid hx64
        have z0 : (0 : Int) ≤ (k : Int) := by omega
        have z1 : (k : Int) < (n : Int) := by omega
        have z2 : (k : Int) < 50 := by omega
        clear hev hB hbl2 hbm hI hkl2 hkm hx64
        have DD := Lib.hid (Blk.new wr 37 #[.int .i64 t, .int .i64 x, .slice A m c, .slice KA km kc, .slice EA el ec])
        have HP1 := Lib.hid ((HP.out.ext ((Below.refl _ _).alloc (Nat.le_refl _) (.cells #[.int .i64 t, .int .i64 x, .slice A m c, .slice KA km kc, .slice EA el ec] 37))).boxed DD.out)
        go_upto_block 2 with fail
        generalize wr.alloc (.cells #[.int .i64 t, .int .i64 x, .slice A m c, .slice KA km kc, .slice EA el ec] 37) = w1 at DD HP1 ⊢
        generalize wr.heap.size = gs at DD HP1 ⊢
        clear t0 t1 t2 t3 t4 DD
        refine dsw_any _ _ _ _ _ _ _ _ _ _ _ _ _ _ _ _ _ _ _ _ _ _ _ _ _ _ _ _ _ _ _ _ _ _ _ _ _ _ _ _ _ _ _ _ _ _ _ _ _ _ _ _ _ _ _ _ _ _ _ _ _ _ _ _ _ _ _ _ _ _ _ _ _ _ _ _ _ _ _ _ _ _ _ _ _ _ _ _ _ _ _ _ _ _ _ _ _ _ _ _ _ _ _ _ _ _ _ _ _ _ _ _ _ _ _ _ _ _ _ _ _ _ _ _ _ _ _ _ _ _ _ _ _ _ _ _ _ _ _ _ _ _ _ _ _ _ _ _ _ _ _ _ _ _ _ w w1 P d gu gr gs k t x A m c b KA km kc kl (.slice EA el ec) HP1.out HD.out HBY.out HBL.out HBM.out HI.out HKL.out HKM.out HX.out hws hk50 _ _ ?_
        intro v11 v12 v61 v62 v63 v64 v65 v66 v67 v68 v69 v70 v71 v72 v73 v74 v75 v76 v77 v78 v79 v80 v81 v82 v83 v84 v85 v86 v87 v88 v89 v90 v91 v92 v93 v94 v95 v96 v97 v98 v99 v100 v101 v102 v103 v104 v105 v106 v107 v108 v109 v110 v111 v112 w2 d2 h2 hws2
        have H2 := Lib.hid h2.bare
        clear h2
        go_upto_block 3 with fail
        refine dpin_any _ _ _ _ _ _ _ _ _ _ _ _ _ _ _ _ _ _ _ _ _ _ _ _ _ _ _ _ _ _ _ _ _ _ _ _ _ _ _ _ _ _ _ _ _ _ _ _ _ _ _ _ _ _ _ _ _ _ _ _ _ _ _ _ _ _ _ _ _ _ _ _ _ _ _ _ _ _ _ _ _ _ _ _ _ _ _ _ _ _ _ _ _ _ _ _ _ _ _ _ _ _ _ _ _ _ _ _ _ _ _ _ _ _ _ _ _ _ _ _ _ _ _ _ _ _ _ _ _ _ _ _ _ _ _ _ _ _ _ _ _ _ _ _ _ _ _ _ _ _ _ _ _ _ _ _ _ _ w w2 P d2 gu gr H2.out hP2 _ _ ?_
        intro x4 x13 x14 x15 x115 x116 x117 x118 x119 x120 x121 x122 x123 x124 x125 x126 x127 x128 x129 x130 x131 x132 x133 x134 x135 x136 x137 x138 x139 x140 w3 h3
        have H3 := Lib.hid h3
        clear h3
        have n1 : ¬ ((0 : Int) ≤ -1) := by omega
        go_wp2_with fail
        refine (dp_dreadno H3.out (-1) (.inl (by omega))).mono ?_
        rintro e w4 ⟨rfl, h4⟩
        have H4 := Lib.hid (H3.out.ext h4)
        clear h4
        go_wp2_with fail
        refine (dp_dreadno H4.out P (.inr (by omega))).mono ?_
        rintro e w5 ⟨rfl, h5⟩
        have H5 := Lib.hid (H4.out.ext h5)
        clear h5
        go_wp2_with fail
        refine (same_errno w5 1 1 (HD.out.new H5.out.bel) true rfl).mono ?_
        rintro e w6 ⟨rfl, h6⟩
        have H6 := Lib.hid (H5.out.ext h6)
        clear h6
        go_wp2_with fail
        refine (same_errno w6 1 1 (HD.out.new H6.out.bel) true rfl).mono ?_
        rintro e w7 ⟨rfl, h7⟩
        have H7 := Lib.hid (H6.out.ext h7)
        clear h7
        go_wp2
        go_roundw
        case rel => exact ⟨k + 1, by omega, by omega, by go_num, d2, hws2, H7.out⟩
        case measure => simp [intOf]; omega
      · have z1 : (k : Int) < (n : Int) := by omega
        have h50 : k = 50 := by omega
        subst h50
        go_wp2
        go_ret
        obtain ⟨d, _, hR⟩ := HR.out
        exact ⟨rfl, hR.bel⟩
    · have z1 : ¬ (k : Int) < (n : Int) := by omega
      go_wp2
      go_ret
      obtain ⟨d, _, hR⟩ := HR.out
      exact ⟨rfl, hR.bel⟩
end Go.Proofs.YtenjblonepegfaaDoor
