/-
  Any trees that are linked and cut: the walk of TourPlays. Conditions: the steps are read as 'QStepsAt' says; the door.
-/
import Derived.Test.YtgdbnjcnilnnmaaGreatDoorTp1
namespace Go.Proofs.YtgdbnjcnilnnmaaGreatDoor
open Go Go.RowKit SQ TR DF PD PT
set_option linter.unusedVariables false

set_option maxHeartbeats 4000000 in
set_option maxRecDepth 100000 in
theorem tp_walk (n : Int) (a1 : Option Addr) (len1 cap1 : Nat) (s1 : Nat → QSt) (w : World) (hd : Td.Door w) (hs : QStepsAt w a1 len1 s1 ∧ len1 ≤ cap1 ∧ cap1 ≤ maxLen) :
    Calls Tryz.prog 3 #[.int .i64 n, .slice a1 len1 cap1] w fun e w' => e = .returned (.bool true) ∧ Below w.heap.size w w' := by
  obtain ⟨hs, hlc, hcm⟩ := hs
  unfold maxLen at hcm
  have HSt := Lib.hid hs
  have HD : Hid (∀ W, Ext w W → Td.Door W) := fun W hW => hd.new hW
  clear hs hd
  by_cases hn : n < 1 ∨ 60 < n
  · have hf : nodesF n = 1 := by unfold nodesF; rw [if_pos hn]
    have hnf := nodesFault_any w n
    rw [hf] at hnf
    have HNF := Lib.hid hnf
    clear hf hnf
    go_enter Tryz.func3, Tryz.ntmps3
    go_wp2_with fail
    refine HNF.out.mono ?_
    rintro e w1 ⟨rfl, rfl⟩
    go_wp2_with fail
    refine (tnew_no w n hn).mono ?_
    rintro e w1 ⟨rfl, rfl⟩
    go_wp2_with fail
    refine (same_errno w 1 1 (HD.out w (Ext.refl w)) true (by decide)).mono ?_
    rintro e w2 ⟨rfl, hx2⟩
    have HX := Lib.hid hx2
    clear hx2
    go_wp2
    go_ret
    exact ⟨rfl, HX.out⟩
  · obtain ⟨n, rfl⟩ := Int.eq_ofNat_of_zero_le (show 0 ≤ n by omega)
    have hn2 : 1 ≤ n ∧ n ≤ 60 := by omega
    have hf : nodesF n = 0 := by unfold nodesF; rw [if_neg hn]
    have hnf := nodesFault_any w n
    rw [hf] at hnf
    have HNF := Lib.hid hnf
    clear hf hnf hn
    go_enter Tryz.func3, Tryz.ntmps3
    go_wp2_with fail
    refine HNF.out.mono ?_
    rintro e w1 ⟨rfl, rfl⟩
    go_wp2_with fail
    refine (tnew_ok w n hn2).mono ?_
    rintro e w1 ⟨F, rfl, hf1, hx1, hn1⟩
    have H1 : Hid (TcS w w1 F n n []) := ⟨hf1, hx1, hn1⟩
    clear hf1 hx1 hn1 HNF
    go_wp2_with fail
    refine (same_nil w1 0 true (by decide)).mono ?_
    rintro e w2 ⟨rfl, hx2⟩
    have H2 : Hid (TpS w w2 F n n [] none 0) := ⟨H1.out.moved hx2, .inl rfl, fun h => absurd rfl h, by simp [maxLen]⟩
    clear hx2 H1
    go_wp2
    go_loopw [9, 10] (fun v9 v10 wr => ∃ (k : Nat) (E : List AK.Ed) (A : Option Addr) (c : Nat), k ≤ len1 ∧ k ≤ 60 ∧ v10 = .int .i64 k ∧ v9 = .slice A E.length c ∧ Hid (TpS w wr F n (n + 2 * k) E A c)) (fun _ v10 _ => len1 - (intOf v10).toNat)
    case atStart => exact ⟨0, [], none, 0, Nat.zero_le _, Nat.zero_le _, rfl, rfl, H2.out⟩
    case round =>
      clear H2
      obtain ⟨k, E, A, c, hk, hk6, rfl, rfl, HR⟩ := hrel
      by_cases c0 : k < len1 ∧ k < 60
      · obtain ⟨c1, c2⟩ := c0
        have hEn : E.length ≤ n := HR.out.s.at_.fo.len
        rcases HSt.out.ext HR.out.s.ext with h0 | ⟨b, off, rfl, hlt, hc⟩
        · omega
        obtain ⟨p0, p1, p2, p3, _⟩ := hc k c1
        obtain ⟨t, ht⟩ : ∃ t, (s1 k).t = t := ⟨_, rfl⟩
        obtain ⟨x, hx⟩ : ∃ x, (s1 k).a = x := ⟨_, rfl⟩
        obtain ⟨y, hy⟩ : ∃ y, (s1 k).b = y := ⟨_, rfl⟩
        rw [ht] at p0
        rw [hx] at p1
        rw [hy] at p2
        generalize (s1 k).A = sA at p3
        generalize (s1 k).m = sm at p3
        generalize (s1 k).c = sc at p3
        have z0 : (0 : Int) ≤ (k : Int) := by omega
        have z1 : (k : Int) < (len1 : Int) := by omega
        have hG1 : ¬ F.S wr.heap.size := fun hk => by have := HR.out.s.at_.lt.2 _ hk; omega
        clear hc ht hx hy
        have HP : Hid (∃ p, PT.IsParts n (prs E) p) := by
          obtain ⟨p, hp⟩ := PT.exists_parts n (prs E) (fun x y h => by have := adj_in HR.out.s.at_.fo.ok ((fo_prs HR.out.s.at_.fo x y).2 (.inl h)); exact ⟨this.1, this.2.1⟩)
          exact ⟨p, hp⟩
        by_cases hv : (0 ≤ x ∧ x < (n : Int)) ∧ (0 ≤ y ∧ y < (n : Int))
        · obtain ⟨x, rfl⟩ := Int.eq_ofNat_of_zero_le hv.1.1
          obtain ⟨y, rfl⟩ := Int.eq_ofNat_of_zero_le hv.2.1
          have hxn : x < n := by omega
          have hyn : y < n := by omega
          clear hv
          go_wp2_with fail
          have BG := Lib.hid (Blk.new wr 34 #[.int .i64 t, .int .i64 (x : Nat), .int .i64 (y : Nat), .slice sA sm sc])
          have H3 := Lib.hid (HR.out.moved (Ext.alloc wr (.cells #[.int .i64 t, .int .i64 (x : Nat), .int .i64 (y : Nat), .slice sA sm sc] 34)))
          obtain ⟨G, hGe⟩ : ∃ G, wr.heap.size = G := ⟨_, rfl⟩
          rw [hGe] at BG hG1 ⊢
          clear hGe
          generalize wr.alloc (.cells #[.int .i64 t, .int .i64 (x : Nat), .int .i64 (y : Nat), .slice sA sm sc] 34) = w3 at BG H3 ⊢
          have HG := Lib.hid hG1
          clear HR hG1 p0 p1 p2 p3
          have g1 : w3.cell? ⟨G, 1, none⟩ = some (.int .i64 (x : Nat)) := BG.out.cell 1
          have g2 : w3.cell? ⟨G, 2, none⟩ = some (.int .i64 (y : Nat)) := BG.out.cell 2
          refine (rnode_any w3 n (x : Nat) true (by simp; omega)).mono ?_
          rintro e w' ⟨rfl, rfl⟩
          go_wp2_with fail
          refine (rnode_any w3 n (y : Nat) true (by simp; omega)).mono ?_
          rintro e w' ⟨rfl, rfl⟩
          go_wp2_with fail
          refine (parts_any w3 A n E.length c E rfl hn2.1 (by omega) (by omega) H3.out.ed (fo_inn H3.out.s.at_.fo)).mono ?_
          rintro e w4 ⟨p, gp, cp, rfl, hrow, hparts, hx4, hgp⟩
          have H4 := Lib.hid (H3.out.moved hx4)
          have BG4 := Lib.hid (BG.out.chg (Chg.of_below hx4) (by have := BG.out.lt; omega))
          have NR := Lib.hid hrow
          have PP := Lib.hid hparts
          have g1 : w4.cell? ⟨G, 1, none⟩ = some (.int .i64 (x : Nat)) := BG4.out.cell 1
          have g2 : w4.cell? ⟨G, 2, none⟩ = some (.int .i64 (y : Nat)) := BG4.out.cell 2
          clear hrow hparts hx4 hgp H3 BG HP
          go_wp2_with fail
          refine (place_any w4 A E.length c E (x : Nat) (y : Nat) rfl (by omega) H4.out.ed).mono ?_
          rintro e w5 ⟨rfl, hx5⟩
          generalize hkv : RF.placeV (RF.place E (AK.ek (x : Nat) (y : Nat))) = kv
          have HKV := Lib.hid hkv
          have H5 := Lib.hid (H4.out.moved hx5)
          have BG5 := Lib.hid (BG4.out.chg (Chg.of_below hx5) (by have := BG4.out.lt; omega))
          have NR5 : Hid (NRow w5 (.slice (some ⟨gp, 0, none⟩) n cp) n p) := own_chg NR.out (Chg.of_below hx5) (fun j hj => by have := own_lt NR.out hj; omega)
          have g0 : w5.cell? ⟨G, 0, none⟩ = some (.int .i64 t) := BG5.out.cell 0
          have g1 : w5.cell? ⟨G, 1, none⟩ = some (.int .i64 (x : Nat)) := BG5.out.cell 1
          have g2 : w5.cell? ⟨G, 2, none⟩ = some (.int .i64 (y : Nat)) := BG5.out.cell 2
          clear hx5 H4 BG4 NR hkv
          go_upto_block 2 with fail
          go_cut [8, 9] (fun s8 s9 wx => s8 = .bool true ∧ ∃ (E' : List AK.Ed) (A' : Option Addr) (c' : Nat), s9 = .slice A' E'.length c' ∧ TpS w wx F n (n + 2 * (k + 1)) E' A' c' ∧ Blk wx G 34 #[.int .i64 t, .int .i64 (x : Nat), .int .i64 (y : Nat), .slice sA sm sc])
          case first =>
            obtain ⟨px, hpx⟩ := parts_len PP.out x hxn
            obtain ⟨py, hpy⟩ := parts_len PP.out y hyn
            have hT : t = 0 ∨ t = 1 ∨ t = 2 ∨ t = 3 ∨ ((t == 0) = false ∧ (t == 1) = false ∧ (t == 2) = false ∧ (t == 3) = false) := by
              by_cases h0 : t = 0
              · exact .inl h0
              by_cases h1 : t = 1
              · exact .inr (.inl h1)
              by_cases h2 : t = 2
              · exact .inr (.inr (.inl h2))
              by_cases h3 : t = 3
              · exact .inr (.inr (.inr (.inl h3)))
              exact .inr (.inr (.inr (.inr ⟨by simpa using h0, by simpa using h1, by simpa using h2, by simpa using h3⟩)))

            rcases hT with rfl | rfl | rfl | rfl | hT
            · as_aux_lemma =>
                by_cases hcn : Cn (adj E) x y
                · have e1 := nrow_cell NR5.out hpx hxn
                  have e2 := nrow_cell NR5.out hpy hyn
                  have hpp : px = py := (parts_cn H5.out.s.at_.fo PP.out hpx hpy).2 hcn
                  subst hpp
                  have LK := Lib.hid (fun W hW => tlink_clash (w := W) (H5.out.moved hW).s.at_ x y hxn hyn hcn)
                  have zx : (x : Int) < (n : Int) := by omega
                  have zy : (y : Int) < (n : Int) := by omega
                  clear hcn hpx hpy
                  go_wp2
                  go_quiet (fail)
                  have g1 : (w5.drewN nq).cell? ⟨G, 1, none⟩ = some (.int .i64 (x : Nat)) := g1
                  have g2 : (w5.drewN nq).cell? ⟨G, 2, none⟩ = some (.int .i64 (y : Nat)) := g2
                  go_wp2_with fail
                  refine (LK.out _ (Ext.drewN w5 nq)).mono ?_
                  rintro e w6 ⟨rfl, hx6⟩
                  have X6 : Hid (Ext w5 w6) := (Ext.drewN w5 nq).trans hx6
                  clear hx6 LK
                  go_wp2_with fail
                  refine (same_errno w6 6 6 (HD.out _ (H5.out.s.ext.trans X6.out)) true (by decide)).mono ?_
                  rintro e w7 ⟨rfl, hx7⟩
                  have X7 : Hid (Ext w5 w7) := X6.out.trans hx7
                  clear hx7 X6
                  go_wp2
                  go_meet
                  exact ⟨rfl, E, A, c, rfl, (H5.out.moved X7.out).mono (by omega), BG5.out.chg (Chg.of_below X7.out) (by have := BG5.out.lt; omega)⟩
                · have e1 := nrow_cell NR5.out hpx hxn
                  have e2 := nrow_cell NR5.out hpy hyn
                  have hpp : ((px : Int) == (py : Int)) = false := by
                    rw [beq_eq_false_iff_ne]
                    exact fun e => hcn ((parts_cn H5.out.s.at_.fo PP.out hpx hpy).1 (by omega))
                  have HC := Lib.hid hcn
                  have zx : (x : Int) < (n : Int) := by omega
                  have zy : (y : Int) < (n : Int) := by omega
                  clear hcn hpx hpy
                  go_wp2
                  go_quiet (fail)
                  have g1 : (w5.drewN nq).cell? ⟨G, 1, none⟩ = some (.int .i64 (x : Nat)) := g1
                  have g2 : (w5.drewN nq).cell? ⟨G, 2, none⟩ = some (.int .i64 (y : Nat)) := g2
                  go_wp2_with fail
                  refine (rput_any (w5.drewN nq) A E.length c E (x : Int) (y : Int) rfl (by omega) (H5.out.ed.ext (Ext.drewN w5 nq))).mono ?_
                  rintro e w6 ⟨A6, c6, rfl, hd6, hx6, hn6⟩
                  have X6 : Hid (Ext w5 w6) := (Ext.drewN w5 nq).trans hx6
                  have D6 : Hid (DRow w6 (.slice A6 (putE (AK.ek x y) E).length c6) (putE (AK.ek x y) E) ∧ ∀ j, (Value.slice A6 (putE (AK.ek x y) E).length c6).ownBlock = some j → w5.heap.size ≤ j) := ⟨hd6, fun j hj => hn6 j hj⟩
                  have BG6 := Lib.hid (BG5.out.chg (Chg.of_below X6.out) (by have := BG5.out.lt; omega))
                  have g1 : w6.cell? ⟨G, 1, none⟩ = some (.int .i64 (x : Nat)) := BG6.out.cell 1
                  have g2 : w6.cell? ⟨G, 2, none⟩ = some (.int .i64 (y : Nat)) := BG6.out.cell 2
                  clear hd6 hx6 hn6
                  go_wp2_with fail
                  refine (tlink_ok (H5.out.moved X6.out).s.at_ (by omega) x y hxn hyn HC.out).mono ?_
                  rintro e w7 ⟨rfl, hf7, hc7⟩
                  have H7 := Lib.hid (H5.out.put X6.out D6.out.1 D6.out.2 hf7 hc7)
                  have BG7 := Lib.hid (BG6.out.chg hc7 HG.out)
                  clear hf7 hc7 D6 X6 BG6
                  go_wp2_with fail
                  refine (same_nil w7 0 true (by decide)).mono ?_
                  rintro e w8 ⟨rfl, hx8⟩
                  have X8 : Hid (Ext w7 w8) := hx8
                  clear hx8
                  go_wp2
                  go_meet
                  exact ⟨rfl, _, A6, c6, rfl, (H7.out.moved X8.out).mono (by omega), BG7.out.chg (Chg.of_below X8.out) (by have := BG7.out.lt; omega)⟩
            · as_aux_lemma =>
                by_cases hcn : Cn (adj E) x y
                · have e1 := nrow_cell NR5.out hpx hxn
                  have e2 := nrow_cell NR5.out hpy hyn
                  have hpp : px = py := (parts_cn H5.out.s.at_.fo PP.out hpx hpy).2 hcn
                  subst hpp
                  have LK := Lib.hid (fun W hW => tlink_clash (w := W) (H5.out.moved hW).s.at_ x y hxn hyn hcn)
                  have zx : (x : Int) < (n : Int) := by omega
                  have zy : (y : Int) < (n : Int) := by omega
                  clear hcn hpx hpy
                  go_wp2
                  go_quiet (fail)
                  have g1 : (w5.drewN nq).cell? ⟨G, 1, none⟩ = some (.int .i64 (x : Nat)) := g1
                  have g2 : (w5.drewN nq).cell? ⟨G, 2, none⟩ = some (.int .i64 (y : Nat)) := g2
                  go_wp2_with fail
                  refine (LK.out _ (Ext.drewN w5 nq)).mono ?_
                  rintro e w6 ⟨rfl, hx6⟩
                  have X6 : Hid (Ext w5 w6) := (Ext.drewN w5 nq).trans hx6
                  clear hx6 LK
                  go_wp2_with fail
                  refine (same_errno w6 6 6 (HD.out _ (H5.out.s.ext.trans X6.out)) true (by decide)).mono ?_
                  rintro e w7 ⟨rfl, hx7⟩
                  have X7 : Hid (Ext w5 w7) := X6.out.trans hx7
                  clear hx7 X6
                  go_wp2
                  go_meet
                  exact ⟨rfl, E, A, c, rfl, (H5.out.moved X7.out).mono (by omega), BG5.out.chg (Chg.of_below X7.out) (by have := BG5.out.lt; omega)⟩
                · have e1 := nrow_cell NR5.out hpx hxn
                  have e2 := nrow_cell NR5.out hpy hyn
                  have hpp : ((px : Int) == (py : Int)) = false := by
                    rw [beq_eq_false_iff_ne]
                    exact fun e => hcn ((parts_cn H5.out.s.at_.fo PP.out hpx hpy).1 (by omega))
                  have HC := Lib.hid hcn
                  have zx : (x : Int) < (n : Int) := by omega
                  have zy : (y : Int) < (n : Int) := by omega
                  clear hcn hpx hpy
                  go_wp2
                  go_quiet (fail)
                  have g1 : (w5.drewN nq).cell? ⟨G, 1, none⟩ = some (.int .i64 (x : Nat)) := g1
                  have g2 : (w5.drewN nq).cell? ⟨G, 2, none⟩ = some (.int .i64 (y : Nat)) := g2
                  go_wp2_with fail
                  refine (rput_any (w5.drewN nq) A E.length c E (x : Int) (y : Int) rfl (by omega) (H5.out.ed.ext (Ext.drewN w5 nq))).mono ?_
                  rintro e w6 ⟨A6, c6, rfl, hd6, hx6, hn6⟩
                  have X6 : Hid (Ext w5 w6) := (Ext.drewN w5 nq).trans hx6
                  have D6 : Hid (DRow w6 (.slice A6 (putE (AK.ek x y) E).length c6) (putE (AK.ek x y) E) ∧ ∀ j, (Value.slice A6 (putE (AK.ek x y) E).length c6).ownBlock = some j → w5.heap.size ≤ j) := ⟨hd6, fun j hj => hn6 j hj⟩
                  have BG6 := Lib.hid (BG5.out.chg (Chg.of_below X6.out) (by have := BG5.out.lt; omega))
                  have g1 : w6.cell? ⟨G, 1, none⟩ = some (.int .i64 (x : Nat)) := BG6.out.cell 1
                  have g2 : w6.cell? ⟨G, 2, none⟩ = some (.int .i64 (y : Nat)) := BG6.out.cell 2
                  clear hd6 hx6 hn6
                  go_wp2_with fail
                  refine (tlink_ok (H5.out.moved X6.out).s.at_ (by omega) x y hxn hyn HC.out).mono ?_
                  rintro e w7 ⟨rfl, hf7, hc7⟩
                  have H7 := Lib.hid (H5.out.put X6.out D6.out.1 D6.out.2 hf7 hc7)
                  have BG7 := Lib.hid (BG6.out.chg hc7 HG.out)
                  clear hf7 hc7 D6 X6 BG6
                  go_wp2_with fail
                  refine (same_nil w7 0 true (by decide)).mono ?_
                  rintro e w8 ⟨rfl, hx8⟩
                  have X8 : Hid (Ext w7 w8) := hx8
                  clear hx8
                  go_wp2
                  go_meet
                  exact ⟨rfl, _, A6, c6, rfl, (H7.out.moved X8.out).mono (by omega), BG7.out.chg (Chg.of_below X8.out) (by have := BG7.out.lt; omega)⟩
            · as_aux_lemma =>
                by_cases hcn : Cn (adj E) x y
                · have e1 := nrow_cell NR5.out hpx hxn
                  have e2 := nrow_cell NR5.out hpy hyn
                  have hpp : px = py := (parts_cn H5.out.s.at_.fo PP.out hpx hpy).2 hcn
                  subst hpp
                  have LK := Lib.hid (fun W hW => tlink_clash (w := W) (H5.out.moved hW).s.at_ x y hxn hyn hcn)
                  have zx : (x : Int) < (n : Int) := by omega
                  have zy : (y : Int) < (n : Int) := by omega
                  clear hcn hpx hpy
                  go_wp2
                  go_quiet (fail)
                  have g1 : (w5.drewN nq).cell? ⟨G, 1, none⟩ = some (.int .i64 (x : Nat)) := g1
                  have g2 : (w5.drewN nq).cell? ⟨G, 2, none⟩ = some (.int .i64 (y : Nat)) := g2
                  go_wp2_with fail
                  refine (LK.out _ (Ext.drewN w5 nq)).mono ?_
                  rintro e w6 ⟨rfl, hx6⟩
                  have X6 : Hid (Ext w5 w6) := (Ext.drewN w5 nq).trans hx6
                  clear hx6 LK
                  go_wp2_with fail
                  refine (same_errno w6 6 6 (HD.out _ (H5.out.s.ext.trans X6.out)) true (by decide)).mono ?_
                  rintro e w7 ⟨rfl, hx7⟩
                  have X7 : Hid (Ext w5 w7) := X6.out.trans hx7
                  clear hx7 X6
                  go_wp2
                  go_meet
                  exact ⟨rfl, E, A, c, rfl, (H5.out.moved X7.out).mono (by omega), BG5.out.chg (Chg.of_below X7.out) (by have := BG5.out.lt; omega)⟩
                · have e1 := nrow_cell NR5.out hpx hxn
                  have e2 := nrow_cell NR5.out hpy hyn
                  have hpp : ((px : Int) == (py : Int)) = false := by
                    rw [beq_eq_false_iff_ne]
                    exact fun e => hcn ((parts_cn H5.out.s.at_.fo PP.out hpx hpy).1 (by omega))
                  have HC := Lib.hid hcn
                  have zx : (x : Int) < (n : Int) := by omega
                  have zy : (y : Int) < (n : Int) := by omega
                  clear hcn hpx hpy
                  go_wp2
                  go_quiet (fail)
                  have g1 : (w5.drewN nq).cell? ⟨G, 1, none⟩ = some (.int .i64 (x : Nat)) := g1
                  have g2 : (w5.drewN nq).cell? ⟨G, 2, none⟩ = some (.int .i64 (y : Nat)) := g2
                  go_wp2_with fail
                  refine (rput_any (w5.drewN nq) A E.length c E (x : Int) (y : Int) rfl (by omega) (H5.out.ed.ext (Ext.drewN w5 nq))).mono ?_
                  rintro e w6 ⟨A6, c6, rfl, hd6, hx6, hn6⟩
                  have X6 : Hid (Ext w5 w6) := (Ext.drewN w5 nq).trans hx6
                  have D6 : Hid (DRow w6 (.slice A6 (putE (AK.ek x y) E).length c6) (putE (AK.ek x y) E) ∧ ∀ j, (Value.slice A6 (putE (AK.ek x y) E).length c6).ownBlock = some j → w5.heap.size ≤ j) := ⟨hd6, fun j hj => hn6 j hj⟩
                  have BG6 := Lib.hid (BG5.out.chg (Chg.of_below X6.out) (by have := BG5.out.lt; omega))
                  have g1 : w6.cell? ⟨G, 1, none⟩ = some (.int .i64 (x : Nat)) := BG6.out.cell 1
                  have g2 : w6.cell? ⟨G, 2, none⟩ = some (.int .i64 (y : Nat)) := BG6.out.cell 2
                  clear hd6 hx6 hn6
                  go_wp2_with fail
                  refine (tlink_ok (H5.out.moved X6.out).s.at_ (by omega) x y hxn hyn HC.out).mono ?_
                  rintro e w7 ⟨rfl, hf7, hc7⟩
                  have H7 := Lib.hid (H5.out.put X6.out D6.out.1 D6.out.2 hf7 hc7)
                  have BG7 := Lib.hid (BG6.out.chg hc7 HG.out)
                  clear hf7 hc7 D6 X6 BG6
                  go_wp2_with fail
                  refine (same_nil w7 0 true (by decide)).mono ?_
                  rintro e w8 ⟨rfl, hx8⟩
                  have X8 : Hid (Ext w7 w8) := hx8
                  clear hx8
                  go_wp2
                  go_meet
                  exact ⟨rfl, _, A6, c6, rfl, (H7.out.moved X8.out).mono (by omega), BG7.out.chg (Chg.of_below X8.out) (by have := BG7.out.lt; omega)⟩
            · as_aux_lemma =>
                by_cases hm : AK.ek (x : Int) y ∈ E
                · have hxy : x ≠ y := fun e => by
                    subst e
                    have := H5.out.s.at_.fo.ok _ hm
                    unfold AK.ek at this; simp only at this; omega
                  have hadj : adj E x y := (adj_ek (a := x) (b := y) H5.out.s.at_.fo.lt hxy).1 hm
                  obtain ⟨i, hi⟩ : ∃ i, RF.place E (AK.ek x y) = some i := by
                    cases hp : RF.place E (AK.ek x y) with
                    | none => exact absurd hm (RF.place_mem.1 hp)
                    | some i => exact ⟨i, rfl⟩
                  have hget := RF.place_get hi
                  have hil : i < E.length := (List.getElem?_eq_some_iff.1 hget).1
                  have HOC := Lib.hid (out_cut H5.out.s.at_.fo.up hget)
                  have HADJ := Lib.hid hadj
                  have hpv : kv = (i : Int) := by have hh := HKV.out; rw [hi] at hh; exact hh.symm
                  subst hpv
                  have q0 : ¬ (i : Int) < 0 := by omega
                  clear hm hadj hi hget hpx hpy
                  go_wp2_with fail
                  refine (rout_any w5 A E.length c E i rfl (by omega) H5.out.cap.1 H5.out.cap.2 hil H5.out.ed).mono ?_
                  rintro e w6 ⟨A6, c6, rfl, hd6, hx6, hn6⟩
                  rw [HOC.out] at hd6 hn6 ⊢
                  have X6 : Hid (Ext w5 w6) := hx6
                  have D6 : Hid (DRow w6 (.slice A6 (cutE (AK.ek x y) E).length c6) (cutE (AK.ek x y) E) ∧ ∀ j, (Value.slice A6 (cutE (AK.ek x y) E).length c6).ownBlock = some j → w5.heap.size ≤ j) := ⟨hd6, hn6⟩
                  have BG6 := Lib.hid (BG5.out.chg (Chg.of_below X6.out) (by have := BG5.out.lt; omega))
                  have g1 : w6.cell? ⟨G, 1, none⟩ = some (.int .i64 (x : Nat)) := BG6.out.cell 1
                  have g2 : w6.cell? ⟨G, 2, none⟩ = some (.int .i64 (y : Nat)) := BG6.out.cell 2
                  clear hd6 hx6 hn6
                  go_wp2_with fail
                  refine (tcut_ok (H5.out.moved X6.out).s.at_ (by omega) x y HADJ.out).mono ?_
                  rintro e w7 ⟨rfl, hf7, hc7⟩
                  have H7 := Lib.hid (H5.out.put X6.out D6.out.1 D6.out.2 hf7 hc7)
                  have BG7 := Lib.hid (BG6.out.chg hc7 HG.out)
                  clear hf7 hc7 D6 X6 BG6
                  go_wp2_with fail
                  refine (same_nil w7 0 true (by decide)).mono ?_
                  rintro e w8 ⟨rfl, hx8⟩
                  have X8 : Hid (Ext w7 w8) := hx8
                  clear hx8
                  go_wp2
                  go_meet
                  exact ⟨rfl, _, A6, c6, rfl, (H7.out.moved X8.out).mono (by omega), BG7.out.chg (Chg.of_below X8.out) (by have := BG7.out.lt; omega)⟩
                · have hpv : kv = -1 := by have hh := HKV.out; rw [RF.place_mem.2 hm] at hh; exact hh.symm
                  subst hpv
                  have HM := Lib.hid hm
                  clear hm hpx hpy
                  go_wp2_with fail
                  refine (tcut_none H5.out.s.at_ x y hxn hyn HM.out).mono ?_
                  rintro e w6 ⟨rfl, hx6⟩
                  have X6 : Hid (Ext w5 w6) := hx6
                  clear hx6
                  go_wp2_with fail
                  refine (same_errno w6 4 4 (HD.out _ (H5.out.s.ext.trans X6.out)) true (by decide)).mono ?_
                  rintro e w7 ⟨rfl, hx7⟩
                  have X7 : Hid (Ext w5 w7) := X6.out.trans hx7
                  clear hx7 X6
                  go_wp2
                  go_meet
                  exact ⟨rfl, E, A, c, rfl, (H5.out.moved X7.out).mono (by omega), BG5.out.chg (Chg.of_below X7.out) (by have := BG5.out.lt; omega)⟩
            · as_aux_lemma =>
                obtain ⟨q0, q1, q2, q3⟩ := hT
                have e1 := nrow_cell NR5.out hpx hxn
                have e2 := nrow_cell NR5.out hpy hyn
                obtain ⟨tb, htb⟩ : ∃ tb, ((px : Int) == (py : Int)) = tb := ⟨_, rfl⟩
                have HTB : Hid (tb = true ↔ Cn (adj E) x y) := by
                  rw [Hid, ← parts_cn H5.out.s.at_.fo PP.out hpx hpy, ← htb, beq_iff_eq]
                  omega
                have zx : (x : Int) < (n : Int) := by omega
                have zy : (y : Int) < (n : Int) := by omega
                clear hpx hpy
                have SM := Lib.hid (fun W hW => tsame_ok (w := W) (H5.out.moved hW).s.at_ x y hxn hyn tb HTB.out)
                clear HTB
                go_wp2
                go_quiet (fail)
                have g1 : (w5.drewN nq).cell? ⟨G, 1, none⟩ = some (.int .i64 (x : Nat)) := g1
                have g2 : (w5.drewN nq).cell? ⟨G, 2, none⟩ = some (.int .i64 (y : Nat)) := g2
                go_wp2_with fail
                refine (SM.out _ (Ext.drewN w5 nq)).mono ?_
                rintro e w6 ⟨rfl, hx6⟩
                have X6 : Hid (Ext w5 w6) := (Ext.drewN w5 nq).trans hx6
                clear hx6 SM
                go_wp2_with fail
                refine (same_nil w6 0 true (by decide)).mono ?_
                rintro e w7 ⟨rfl, hx7⟩
                have X7 : Hid (Ext w5 w7) := X6.out.trans hx7
                clear hx7 X6 htb
                cases tb
                all_goals
                  go_wp2
                  go_meet
                  exact ⟨rfl, E, A, c, rfl, (H5.out.moved X7.out).mono (by omega), BG5.out.chg (Chg.of_below X7.out) (by have := BG5.out.lt; omega)⟩
          case rest => as_aux_lemma =>
            clear H5 BG5 NR5 PP g0 g1 g2 HKV
            obtain ⟨rfl, E', A', c', rfl, hR', hB'⟩ := hcut
            have HR := Lib.hid hR'
            have BG := Lib.hid hB'
            have hEn' : E'.length ≤ n := hR'.s.at_.fo.len
            clear hR' hB' hEn
            go_wp2_with fail
            refine (parts_any _ A' n E'.length c' E' rfl hn2.1 (by omega) (by omega) HR.out.ed (fo_inn HR.out.s.at_.fo)).mono ?_
            rintro e w4 ⟨p, gp, cp, rfl, hrow, hparts, hx4, hgp⟩
            have H4 := Lib.hid (HR.out.moved hx4)
            have BG4 := Lib.hid (BG.out.chg (Chg.of_below hx4) (by have := BG.out.lt; omega))
            have NR := Lib.hid hrow
            have PP := Lib.hid hparts
            have HGP : Hid (w.heap.size ≤ gp) := Nat.le_trans HR.out.s.ext.size hgp
            clear hrow hparts hx4 hgp HR BG

            obtain ⟨px, hpx⟩ := parts_len PP.out x hxn
            have HPX := Lib.hid hpx
            clear hpx
            go_wp2
            go_loopw [20, 21] (fun v20 v21 wr2 => ∃ (j : Nat) (A2 : Option Addr) (c2 : Nat), j ≤ n ∧ v21 = .int .i64 j ∧ v20 = .slice A2 (compTo E' x j).length c2 ∧ Hid (wr2.ownsRow 0 3 1 (.slice A2 (compTo E' x j).length c2) (compTo E' x j).length (intsV (compTo E' x j)) ∧ Ext w4 wr2 ∧ ∀ i, (Value.slice A2 (compTo E' x j).length c2).ownBlock = some i → w4.heap.size ≤ i)) (fun _ v21 _ => n - (intOf v21).toNat)
            case atStart => exact ⟨0, none, 0, Nat.zero_le _, rfl, rfl, World.ownsRow_nil _ _ _ _, Ext.refl _, fun i hi => by simp [Value.ownBlock] at hi⟩
            case round =>
              obtain ⟨j, A2, c2, hj, rfl, rfl, HW⟩ := hrel
              have B4 := Lib.hid (BG4.out.chg (Chg.of_below HW.out.2.1) (by have := BG4.out.lt; omega))
              have g1 : wr.cell? ⟨G, 1, none⟩ = some (.int .i64 (x : Nat)) := B4.out.cell 1
              by_cases hjn : j < n
              · obtain ⟨pj, hpj⟩ := parts_len PP.out j hjn
                have hNR : NRow wr (.slice (some ⟨gp, 0, none⟩) n cp) n p := own_chg NR.out (Chg.of_below HW.out.2.1) (fun i hi => by have := own_lt NR.out hi; omega)
                have e1 := nrow_cell hNR hpj hjn
                have e2 := nrow_cell hNR HPX.out hxn
                have hcn := parts_cn H4.out.s.at_.fo PP.out hpj HPX.out
                have zj : (j : Int) < (n : Int) := by omega
                have zj0 : (0 : Int) ≤ (j : Int) := by omega
                have zx : (x : Int) < (n : Int) := by omega
                have hlj := compTo_len E' x j
                by_cases e : pj = px
                · have q : ((pj : Int) == (px : Int)) = true := by rw [beq_iff_eq]; omega
                  have HY := Lib.hid (compTo_yes (E := E') (a := x) (j := j) (hcn.1 e).symm)
                  clear e hcn hpj hNR
                  go_wp2
                  go_quiet (fail)
                  go_wp2_with (at_builtin; refine wpList_push _ rfl (.tmp 194) (.tmp 196) 32 rfl 3 (.int .i64 0) 8 Tryz.underlying32 infoI rfl (.slice A2 (compTo E' x j).length c2) (compTo E' x j).length (intsV (compTo E' x j)) rfl (own_chg HW.out.1 (((Chg.refl (fun _ => False) wr).drewN nq).alloc _) (fun _ _ h => h)) ⟨by omega, by omega⟩ (.int .i64 j) wr.heap.size rfl (cell_new1 rfl _ _) rfl ?_; intro g5 c5 w5 ho5 hc5 hat5 _; have HP := Lib.hid (comp_push HW.out HY.out ho5 hc5 hat5); clear ho5 hc5 hat5)
                  go_roundw
                  case rel => exact ⟨j + 1, some ⟨g5, 0, none⟩, c5, by omega, by go_num, by rw [HY.out]; simp, HP.out⟩
                  case measure => simp [intOf]; omega
                · have q : ((pj : Int) == (px : Int)) = false := by rw [beq_eq_false_iff_ne]; omega
                  have HY := Lib.hid (compTo_no (E := E') (a := x) (j := j) (fun c => e (hcn.2 c.symm)))
                  clear e hcn hpj hNR
                  go_wp2
                  go_quiet (fail)
                  go_wp2
                  go_roundw
                  case rel => exact ⟨j + 1, A2, c2, by omega, by go_num, by rw [HY.out], by rw [HY.out]; exact ⟨own_drewN HW.out.1 nq, HW.out.2.1.trans (Ext.drewN wr nq), HW.out.2.2⟩⟩
                  case measure => simp [intOf]; omega
              · obtain rfl : j = n := by omega
                have HW2 : Hid (IntsAt wr A2 (comp j E' x) ∧ Ext w4 wr) := ⟨(IntsAt.of_own HW.out.1).1, HW.out.2.1⟩
                have hcl : (compTo E' x j).length = (comp j E' x).length := rfl
                have hcl2 := compTo_len E' x j
                rw [hcl] at hcl2 ⊢
                have H6 := Lib.hid (H4.out.moved HW.out.2.1)
                clear HW H4 NR PP HPX BG4
                go_wp2_with fail
                refine (tmembers_ok H6.out.s.at_ x hxn).mono ?_
                rintro e w7 ⟨A7, c7, rfl, ho7, hx7, _⟩
                have H7 := Lib.hid (H6.out.moved hx7)
                have I7 : Hid (IntsAt w7 A7 (comp j E' x)) := (IntsAt.of_own ho7).1
                have J7 : Hid (IntsAt w7 A2 (comp j E' x)) := HW2.out.1.ext hx7
                have B7 := Lib.hid (B4.out.chg (Chg.of_below hx7) (by have := B4.out.lt; omega))
                clear ho7 hx7 H6 HW2 B4 g1
                go_wp2_with fail
                refine (same_nil w7 0 true (by decide)).mono ?_
                rintro e w8 ⟨rfl, hx8⟩
                have H8 := Lib.hid (H7.out.moved hx8)
                have I8 := Lib.hid (I7.out.ext hx8)
                have J8 := Lib.hid (J7.out.ext hx8)
                have B8 := Lib.hid (B7.out.chg (Chg.of_below hx8) (by have := B7.out.lt; omega))
                clear hx8 H7 I7 J7 B7
                go_wp2_with fail
                refine (ints_any w8 A7 A2 (comp j E' x).length (comp j E' x).length c7 c2 _ _ I8.out J8.out rfl rfl (by omega) (by omega) true (by simp)).mono ?_
                rintro e w9 ⟨rfl, hx9⟩
                have H9 := Lib.hid (H8.out.moved hx9)
                have B9 := Lib.hid (B8.out.chg (Chg.of_below hx9) (by have := B8.out.lt; omega))
                have g1 : w9.cell? ⟨G, 1, none⟩ = some (.int .i64 (x : Nat)) := B9.out.cell 1
                clear hx9 H8 I8 J8 B8
                go_wp2_with fail
                refine (tsize_ok H9.out.s.at_ x hxn).mono ?_
                rintro e w10 ⟨rfl, hx10⟩
                have H10 := Lib.hid (H9.out.moved hx10)
                clear hx10 H9 B9 g1
                obtain ⟨lc, hlc2⟩ : ∃ lc, (comp j E' x).length = lc := ⟨_, rfl⟩
                rw [hlc2]
                clear hlc2
                go_wp2_with fail
                refine (same_nil w10 0 true (by decide)).mono ?_
                rintro e w11 ⟨rfl, hx11⟩
                have H11 := Lib.hid (H10.out.moved hx11)
                clear hx11 H10
                go_wp2_with fail
                refine (tedges_any H11.out.s.at_).mono ?_
                rintro e w12 ⟨A12, c12, rfl, hd12, hx12, _⟩
                have H12 := Lib.hid (H11.out.moved hx12)
                have K12 : Hid (EdsAt w12 A12 E') := (DRow.eds hd12 rfl).1
                clear hd12 hx12 H11
                go_wp2_with fail
                refine (sedges_any w12 A12 A' E'.length E'.length c12 c' E' E' K12.out H12.out.ed rfl rfl (by omega) (by omega) true (by simp)).mono ?_
                rintro e w13 ⟨rfl, hx13⟩
                have H13 := Lib.hid (H12.out.moved hx13)
                clear hx13 H12 K12
                go_wp2
                go_roundw
                case rel => exact ⟨k + 1, E', A', c', by omega, by omega, by go_num, rfl, H13.out⟩
                case measure => simp [intOf]; omega
        · have hno : ¬ (0 ≤ x ∧ x < (n : Int)) ∨ ¬ (0 ≤ y ∧ y < (n : Int)) := by omega
          clear hv
          by_cases hxv : 0 ≤ x ∧ x < (n : Int)
          · obtain ⟨x, rfl⟩ := Int.eq_ofNat_of_zero_le hxv.1
            have hxn : x < n := by omega
            have hyo : ¬ (0 ≤ y ∧ y < (n : Int)) := by omega
            clear hxv
            go_wp2_with fail
            have BG := Lib.hid (Blk.new wr 34 #[.int .i64 t, .int .i64 (x : Nat), .int .i64 y, .slice sA sm sc])
            have H3 := Lib.hid (HR.out.moved (Ext.alloc wr (.cells #[.int .i64 t, .int .i64 (x : Nat), .int .i64 y, .slice sA sm sc] 34)))
            obtain ⟨G, hGe⟩ : ∃ G, wr.heap.size = G := ⟨_, rfl⟩
            rw [hGe] at BG hG1 ⊢
            clear hGe
            generalize wr.alloc (.cells #[.int .i64 t, .int .i64 (x : Nat), .int .i64 y, .slice sA sm sc] 34) = w3 at BG H3 ⊢
            have HG := Lib.hid hG1
            clear HR hG1 p0 p1 p2 p3
            have g1 : w3.cell? ⟨G, 1, none⟩ = some (.int .i64 (x : Nat)) := BG.out.cell 1
            have g2 : w3.cell? ⟨G, 2, none⟩ = some (.int .i64 y) := BG.out.cell 2
            refine (rnode_any w3 n (x : Nat) true (by simp; omega)).mono ?_
            rintro e w' ⟨rfl, rfl⟩
            go_wp2_with fail
            refine (rnode_any w3 n y false (by simp only [hyo, decide_false])).mono ?_
            rintro e w' ⟨rfl, rfl⟩
            go_wp2_with fail
            refine (parts_any w3 A n E.length c E rfl hn2.1 (by omega) (by omega) H3.out.ed (fo_inn H3.out.s.at_.fo)).mono ?_
            rintro e w4 ⟨p, gp, cp, rfl, hrow, hparts, hx4, hgp⟩
            have H4 := Lib.hid (H3.out.moved hx4)
            have BG4 := Lib.hid (BG.out.chg (Chg.of_below hx4) (by have := BG.out.lt; omega))
            have NR := Lib.hid hrow
            have PP := Lib.hid hparts
            have g1 : w4.cell? ⟨G, 1, none⟩ = some (.int .i64 (x : Nat)) := BG4.out.cell 1
            have g2 : w4.cell? ⟨G, 2, none⟩ = some (.int .i64 y) := BG4.out.cell 2
            clear hrow hparts hx4 hgp H3 BG HP
            go_wp2_with fail
            refine (place_any w4 A E.length c E (x : Nat) y rfl (by omega) H4.out.ed).mono ?_
            rintro e w5 ⟨rfl, hx5⟩
            generalize hkv : RF.placeV (RF.place E (AK.ek (x : Nat) y)) = kv
            have HKV := Lib.hid hkv
            have H5 := Lib.hid (H4.out.moved hx5)
            have BG5 := Lib.hid (BG4.out.chg (Chg.of_below hx5) (by have := BG4.out.lt; omega))
            have NR5 : Hid (NRow w5 (.slice (some ⟨gp, 0, none⟩) n cp) n p) := own_chg NR.out (Chg.of_below hx5) (fun j hj => by have := own_lt NR.out hj; omega)
            have g0 : w5.cell? ⟨G, 0, none⟩ = some (.int .i64 t) := BG5.out.cell 0
            have g1 : w5.cell? ⟨G, 1, none⟩ = some (.int .i64 (x : Nat)) := BG5.out.cell 1
            have g2 : w5.cell? ⟨G, 2, none⟩ = some (.int .i64 y) := BG5.out.cell 2
            clear hx5 H4 BG4 NR hkv
            go_upto_block 2 with fail
            go_cut [8, 9] (fun s8 s9 wx => s8 = .bool true ∧ ∃ (E' : List AK.Ed) (A' : Option Addr) (c' : Nat), s9 = .slice A' E'.length c' ∧ TpS w wx F n (n + 2 * (k + 1)) E' A' c' ∧ Blk wx G 34 #[.int .i64 t, .int .i64 (x : Nat), .int .i64 y, .slice sA sm sc])
            case first =>
              have hT : t = 0 ∨ t = 1 ∨ t = 2 ∨ t = 3 ∨ ((t == 0) = false ∧ (t == 1) = false ∧ (t == 2) = false ∧ (t == 3) = false) := by
                by_cases h0 : t = 0
                · exact .inl h0
                by_cases h1 : t = 1
                · exact .inr (.inl h1)
                by_cases h2 : t = 2
                · exact .inr (.inr (.inl h2))
                by_cases h3 : t = 3
                · exact .inr (.inr (.inr (.inl h3)))
                exact .inr (.inr (.inr (.inr ⟨by simpa using h0, by simpa using h1, by simpa using h2, by simpa using h3⟩)))
              have HNO := Lib.hid hno
              rcases hT with rfl | rfl | rfl | rfl | hT
              · as_aux_lemma =>
                have SM := Lib.hid (fun W hW => tlink_range (w := W) (H5.out.moved hW).s.at_ (x : Nat) y HNO.out)
                go_wp2
                go_quiet (fail)
                have g1 : (w5.drewN nq).cell? ⟨G, 1, none⟩ = some (.int .i64 (x : Nat)) := g1
                have g2 : (w5.drewN nq).cell? ⟨G, 2, none⟩ = some (.int .i64 y) := g2
                go_wp2_with fail
                refine (SM.out _ (Ext.drewN w5 nq)).mono ?_
                rintro e w6 ⟨rfl, rfl⟩
                go_wp2_with fail
                refine (same_errno (w5.drewN nq) 1 1 (HD.out _ (H5.out.s.ext.trans (Ext.drewN w5 nq))) true (by decide)).mono ?_
                rintro e w7 ⟨rfl, hx7⟩
                have X7 : Hid (Ext w5 w7) := (Ext.drewN w5 nq).trans hx7
                clear hx7
                go_wp2
                go_meet
                exact ⟨rfl, E, A, c, rfl, (H5.out.moved X7.out).mono (by omega), BG5.out.chg (Chg.of_below X7.out) (by have := BG5.out.lt; omega)⟩
              · as_aux_lemma =>
                have SM := Lib.hid (fun W hW => tlink_range (w := W) (H5.out.moved hW).s.at_ (x : Nat) y HNO.out)
                go_wp2
                go_quiet (fail)
                have g1 : (w5.drewN nq).cell? ⟨G, 1, none⟩ = some (.int .i64 (x : Nat)) := g1
                have g2 : (w5.drewN nq).cell? ⟨G, 2, none⟩ = some (.int .i64 y) := g2
                go_wp2_with fail
                refine (SM.out _ (Ext.drewN w5 nq)).mono ?_
                rintro e w6 ⟨rfl, rfl⟩
                go_wp2_with fail
                refine (same_errno (w5.drewN nq) 1 1 (HD.out _ (H5.out.s.ext.trans (Ext.drewN w5 nq))) true (by decide)).mono ?_
                rintro e w7 ⟨rfl, hx7⟩
                have X7 : Hid (Ext w5 w7) := (Ext.drewN w5 nq).trans hx7
                clear hx7
                go_wp2
                go_meet
                exact ⟨rfl, E, A, c, rfl, (H5.out.moved X7.out).mono (by omega), BG5.out.chg (Chg.of_below X7.out) (by have := BG5.out.lt; omega)⟩
              · as_aux_lemma =>
                have SM := Lib.hid (fun W hW => tlink_range (w := W) (H5.out.moved hW).s.at_ (x : Nat) y HNO.out)
                go_wp2
                go_quiet (fail)
                have g1 : (w5.drewN nq).cell? ⟨G, 1, none⟩ = some (.int .i64 (x : Nat)) := g1
                have g2 : (w5.drewN nq).cell? ⟨G, 2, none⟩ = some (.int .i64 y) := g2
                go_wp2_with fail
                refine (SM.out _ (Ext.drewN w5 nq)).mono ?_
                rintro e w6 ⟨rfl, rfl⟩
                go_wp2_with fail
                refine (same_errno (w5.drewN nq) 1 1 (HD.out _ (H5.out.s.ext.trans (Ext.drewN w5 nq))) true (by decide)).mono ?_
                rintro e w7 ⟨rfl, hx7⟩
                have X7 : Hid (Ext w5 w7) := (Ext.drewN w5 nq).trans hx7
                clear hx7
                go_wp2
                go_meet
                exact ⟨rfl, E, A, c, rfl, (H5.out.moved X7.out).mono (by omega), BG5.out.chg (Chg.of_below X7.out) (by have := BG5.out.lt; omega)⟩
              · as_aux_lemma =>
                go_wp2_with fail
                refine (tcut_range H5.out.s.at_ (x : Nat) y HNO.out).mono ?_
                rintro e w6 ⟨rfl, rfl⟩
                go_wp2_with fail
                refine (same_errno w5 1 1 (HD.out _ H5.out.s.ext) true (by decide)).mono ?_
                rintro e w7 ⟨rfl, hx7⟩
                have X7 : Hid (Ext w5 w7) := hx7
                clear hx7
                go_wp2
                go_meet
                exact ⟨rfl, E, A, c, rfl, (H5.out.moved X7.out).mono (by omega), BG5.out.chg (Chg.of_below X7.out) (by have := BG5.out.lt; omega)⟩
              · as_aux_lemma =>
                obtain ⟨q0, q1, q2, q3⟩ := hT
                have SM := Lib.hid (fun W hW => tsame_range (w := W) (H5.out.moved hW).s.at_ (x : Nat) y HNO.out)
                go_wp2
                go_quiet (fail)
                have g1 : (w5.drewN nq).cell? ⟨G, 1, none⟩ = some (.int .i64 (x : Nat)) := g1
                have g2 : (w5.drewN nq).cell? ⟨G, 2, none⟩ = some (.int .i64 y) := g2
                go_wp2_with fail
                refine (SM.out _ (Ext.drewN w5 nq)).mono ?_
                rintro e w6 ⟨rfl, rfl⟩
                go_wp2_with fail
                refine (same_errno (w5.drewN nq) 1 1 (HD.out _ (H5.out.s.ext.trans (Ext.drewN w5 nq))) true (by decide)).mono ?_
                rintro e w7 ⟨rfl, hx7⟩
                have X7 : Hid (Ext w5 w7) := (Ext.drewN w5 nq).trans hx7
                clear hx7
                go_wp2
                go_meet
                exact ⟨rfl, E, A, c, rfl, (H5.out.moved X7.out).mono (by omega), BG5.out.chg (Chg.of_below X7.out) (by have := BG5.out.lt; omega)⟩
            case rest => as_aux_lemma =>
              clear H5 BG5 NR5 PP g0 g1 g2 HKV
              obtain ⟨rfl, E', A', c', rfl, hR', hB'⟩ := hcut
              have HR := Lib.hid hR'
              have BG := Lib.hid hB'
              have hEn' : E'.length ≤ n := hR'.s.at_.fo.len
              clear hR' hB' hEn
              go_wp2_with fail
              refine (parts_any _ A' n E'.length c' E' rfl hn2.1 (by omega) (by omega) HR.out.ed (fo_inn HR.out.s.at_.fo)).mono ?_
              rintro e w4 ⟨p, gp, cp, rfl, hrow, hparts, hx4, hgp⟩
              have H4 := Lib.hid (HR.out.moved hx4)
              have BG4 := Lib.hid (BG.out.chg (Chg.of_below hx4) (by have := BG.out.lt; omega))
              have NR := Lib.hid hrow
              have PP := Lib.hid hparts
              have HGP : Hid (w.heap.size ≤ gp) := Nat.le_trans HR.out.s.ext.size hgp
              clear hrow hparts hx4 hgp HR BG

              obtain ⟨px, hpx⟩ := parts_len PP.out x hxn
              have HPX := Lib.hid hpx
              clear hpx
              go_wp2
              go_loopw [20, 21] (fun v20 v21 wr2 => ∃ (j : Nat) (A2 : Option Addr) (c2 : Nat), j ≤ n ∧ v21 = .int .i64 j ∧ v20 = .slice A2 (compTo E' x j).length c2 ∧ Hid (wr2.ownsRow 0 3 1 (.slice A2 (compTo E' x j).length c2) (compTo E' x j).length (intsV (compTo E' x j)) ∧ Ext w4 wr2 ∧ ∀ i, (Value.slice A2 (compTo E' x j).length c2).ownBlock = some i → w4.heap.size ≤ i)) (fun _ v21 _ => n - (intOf v21).toNat)
              case atStart => exact ⟨0, none, 0, Nat.zero_le _, rfl, rfl, World.ownsRow_nil _ _ _ _, Ext.refl _, fun i hi => by simp [Value.ownBlock] at hi⟩
              case round =>
                obtain ⟨j, A2, c2, hj, rfl, rfl, HW⟩ := hrel
                have B4 := Lib.hid (BG4.out.chg (Chg.of_below HW.out.2.1) (by have := BG4.out.lt; omega))
                have g1 : wr.cell? ⟨G, 1, none⟩ = some (.int .i64 (x : Nat)) := B4.out.cell 1
                by_cases hjn : j < n
                · obtain ⟨pj, hpj⟩ := parts_len PP.out j hjn
                  have hNR : NRow wr (.slice (some ⟨gp, 0, none⟩) n cp) n p := own_chg NR.out (Chg.of_below HW.out.2.1) (fun i hi => by have := own_lt NR.out hi; omega)
                  have e1 := nrow_cell hNR hpj hjn
                  have e2 := nrow_cell hNR HPX.out hxn
                  have hcn := parts_cn H4.out.s.at_.fo PP.out hpj HPX.out
                  have zj : (j : Int) < (n : Int) := by omega
                  have zj0 : (0 : Int) ≤ (j : Int) := by omega
                  have zx : (x : Int) < (n : Int) := by omega
                  have hlj := compTo_len E' x j
                  by_cases e : pj = px
                  · have q : ((pj : Int) == (px : Int)) = true := by rw [beq_iff_eq]; omega
                    have HY := Lib.hid (compTo_yes (E := E') (a := x) (j := j) (hcn.1 e).symm)
                    clear e hcn hpj hNR
                    go_wp2
                    go_quiet (fail)
                    go_wp2_with (at_builtin; refine wpList_push _ rfl (.tmp 194) (.tmp 196) 32 rfl 3 (.int .i64 0) 8 Tryz.underlying32 infoI rfl (.slice A2 (compTo E' x j).length c2) (compTo E' x j).length (intsV (compTo E' x j)) rfl (own_chg HW.out.1 (((Chg.refl (fun _ => False) wr).drewN nq).alloc _) (fun _ _ h => h)) ⟨by omega, by omega⟩ (.int .i64 j) wr.heap.size rfl (cell_new1 rfl _ _) rfl ?_; intro g5 c5 w5 ho5 hc5 hat5 _; have HP := Lib.hid (comp_push HW.out HY.out ho5 hc5 hat5); clear ho5 hc5 hat5)
                    go_roundw
                    case rel => exact ⟨j + 1, some ⟨g5, 0, none⟩, c5, by omega, by go_num, by rw [HY.out]; simp, HP.out⟩
                    case measure => simp [intOf]; omega
                  · have q : ((pj : Int) == (px : Int)) = false := by rw [beq_eq_false_iff_ne]; omega
                    have HY := Lib.hid (compTo_no (E := E') (a := x) (j := j) (fun c => e (hcn.2 c.symm)))
                    clear e hcn hpj hNR
                    go_wp2
                    go_quiet (fail)
                    go_wp2
                    go_roundw
                    case rel => exact ⟨j + 1, A2, c2, by omega, by go_num, by rw [HY.out], by rw [HY.out]; exact ⟨own_drewN HW.out.1 nq, HW.out.2.1.trans (Ext.drewN wr nq), HW.out.2.2⟩⟩
                    case measure => simp [intOf]; omega
                · obtain rfl : j = n := by omega
                  have HW2 : Hid (IntsAt wr A2 (comp j E' x) ∧ Ext w4 wr) := ⟨(IntsAt.of_own HW.out.1).1, HW.out.2.1⟩
                  have hcl : (compTo E' x j).length = (comp j E' x).length := rfl
                  have hcl2 := compTo_len E' x j
                  rw [hcl] at hcl2 ⊢
                  have H6 := Lib.hid (H4.out.moved HW.out.2.1)
                  clear HW H4 NR PP HPX BG4
                  go_wp2_with fail
                  refine (tmembers_ok H6.out.s.at_ x hxn).mono ?_
                  rintro e w7 ⟨A7, c7, rfl, ho7, hx7, _⟩
                  have H7 := Lib.hid (H6.out.moved hx7)
                  have I7 : Hid (IntsAt w7 A7 (comp j E' x)) := (IntsAt.of_own ho7).1
                  have J7 : Hid (IntsAt w7 A2 (comp j E' x)) := HW2.out.1.ext hx7
                  have B7 := Lib.hid (B4.out.chg (Chg.of_below hx7) (by have := B4.out.lt; omega))
                  clear ho7 hx7 H6 HW2 B4 g1
                  go_wp2_with fail
                  refine (same_nil w7 0 true (by decide)).mono ?_
                  rintro e w8 ⟨rfl, hx8⟩
                  have H8 := Lib.hid (H7.out.moved hx8)
                  have I8 := Lib.hid (I7.out.ext hx8)
                  have J8 := Lib.hid (J7.out.ext hx8)
                  have B8 := Lib.hid (B7.out.chg (Chg.of_below hx8) (by have := B7.out.lt; omega))
                  clear hx8 H7 I7 J7 B7
                  go_wp2_with fail
                  refine (ints_any w8 A7 A2 (comp j E' x).length (comp j E' x).length c7 c2 _ _ I8.out J8.out rfl rfl (by omega) (by omega) true (by simp)).mono ?_
                  rintro e w9 ⟨rfl, hx9⟩
                  have H9 := Lib.hid (H8.out.moved hx9)
                  have B9 := Lib.hid (B8.out.chg (Chg.of_below hx9) (by have := B8.out.lt; omega))
                  have g1 : w9.cell? ⟨G, 1, none⟩ = some (.int .i64 (x : Nat)) := B9.out.cell 1
                  clear hx9 H8 I8 J8 B8
                  go_wp2_with fail
                  refine (tsize_ok H9.out.s.at_ x hxn).mono ?_
                  rintro e w10 ⟨rfl, hx10⟩
                  have H10 := Lib.hid (H9.out.moved hx10)
                  clear hx10 H9 B9 g1
                  obtain ⟨lc, hlc2⟩ : ∃ lc, (comp j E' x).length = lc := ⟨_, rfl⟩
                  rw [hlc2]
                  clear hlc2
                  go_wp2_with fail
                  refine (same_nil w10 0 true (by decide)).mono ?_
                  rintro e w11 ⟨rfl, hx11⟩
                  have H11 := Lib.hid (H10.out.moved hx11)
                  clear hx11 H10
                  go_wp2_with fail
                  refine (tedges_any H11.out.s.at_).mono ?_
                  rintro e w12 ⟨A12, c12, rfl, hd12, hx12, _⟩
                  have H12 := Lib.hid (H11.out.moved hx12)
                  have K12 : Hid (EdsAt w12 A12 E') := (DRow.eds hd12 rfl).1
                  clear hd12 hx12 H11
                  go_wp2_with fail
                  refine (sedges_any w12 A12 A' E'.length E'.length c12 c' E' E' K12.out H12.out.ed rfl rfl (by omega) (by omega) true (by simp)).mono ?_
                  rintro e w13 ⟨rfl, hx13⟩
                  have H13 := Lib.hid (H12.out.moved hx13)
                  clear hx13 H12 K12
                  go_wp2
                  go_roundw
                  case rel => exact ⟨k + 1, E', A', c', by omega, by omega, by go_num, rfl, H13.out⟩
                  case measure => simp [intOf]; omega
          · have hxo := hxv
            obtain ⟨ry, hry⟩ : ∃ ry, ry = decide (0 ≤ y ∧ y < (n : Int)) := ⟨_, rfl⟩
            clear hxv
            go_wp2_with fail
            have BG := Lib.hid (Blk.new wr 34 #[.int .i64 t, .int .i64 x, .int .i64 y, .slice sA sm sc])
            have H3 := Lib.hid (HR.out.moved (Ext.alloc wr (.cells #[.int .i64 t, .int .i64 x, .int .i64 y, .slice sA sm sc] 34)))
            obtain ⟨G, hGe⟩ : ∃ G, wr.heap.size = G := ⟨_, rfl⟩
            rw [hGe] at BG hG1 ⊢
            clear hGe
            generalize wr.alloc (.cells #[.int .i64 t, .int .i64 x, .int .i64 y, .slice sA sm sc] 34) = w3 at BG H3 ⊢
            have HG := Lib.hid hG1
            clear HR hG1 p0 p1 p2 p3
            have g1 : w3.cell? ⟨G, 1, none⟩ = some (.int .i64 x) := BG.out.cell 1
            have g2 : w3.cell? ⟨G, 2, none⟩ = some (.int .i64 y) := BG.out.cell 2
            refine (rnode_any w3 n x false (by simp only [hxo, decide_false])).mono ?_
            rintro e w' ⟨rfl, rfl⟩
            go_wp2_with fail
            refine (rnode_any w3 n y ry hry).mono ?_
            rintro e w' ⟨rfl, rfl⟩
            go_wp2_with fail
            refine (parts_any w3 A n E.length c E rfl hn2.1 (by omega) (by omega) H3.out.ed (fo_inn H3.out.s.at_.fo)).mono ?_
            rintro e w4 ⟨p, gp, cp, rfl, hrow, hparts, hx4, hgp⟩
            have H4 := Lib.hid (H3.out.moved hx4)
            have BG4 := Lib.hid (BG.out.chg (Chg.of_below hx4) (by have := BG.out.lt; omega))
            have NR := Lib.hid hrow
            have PP := Lib.hid hparts
            have g1 : w4.cell? ⟨G, 1, none⟩ = some (.int .i64 x) := BG4.out.cell 1
            have g2 : w4.cell? ⟨G, 2, none⟩ = some (.int .i64 y) := BG4.out.cell 2
            clear hrow hparts hx4 hgp H3 BG HP
            go_wp2_with fail
            refine (place_any w4 A E.length c E x y rfl (by omega) H4.out.ed).mono ?_
            rintro e w5 ⟨rfl, hx5⟩
            generalize hkv : RF.placeV (RF.place E (AK.ek x y)) = kv
            have HKV := Lib.hid hkv
            have H5 := Lib.hid (H4.out.moved hx5)
            have BG5 := Lib.hid (BG4.out.chg (Chg.of_below hx5) (by have := BG4.out.lt; omega))
            have NR5 : Hid (NRow w5 (.slice (some ⟨gp, 0, none⟩) n cp) n p) := own_chg NR.out (Chg.of_below hx5) (fun j hj => by have := own_lt NR.out hj; omega)
            have g0 : w5.cell? ⟨G, 0, none⟩ = some (.int .i64 t) := BG5.out.cell 0
            have g1 : w5.cell? ⟨G, 1, none⟩ = some (.int .i64 x) := BG5.out.cell 1
            have g2 : w5.cell? ⟨G, 2, none⟩ = some (.int .i64 y) := BG5.out.cell 2
            clear hx5 H4 BG4 NR hkv
            go_upto_block 2 with fail
            go_cut [8, 9] (fun s8 s9 wx => s8 = .bool true ∧ ∃ (E' : List AK.Ed) (A' : Option Addr) (c' : Nat), s9 = .slice A' E'.length c' ∧ TpS w wx F n (n + 2 * (k + 1)) E' A' c' ∧ Blk wx G 34 #[.int .i64 t, .int .i64 x, .int .i64 y, .slice sA sm sc])
            case first =>
              have hT : t = 0 ∨ t = 1 ∨ t = 2 ∨ t = 3 ∨ ((t == 0) = false ∧ (t == 1) = false ∧ (t == 2) = false ∧ (t == 3) = false) := by
                by_cases h0 : t = 0
                · exact .inl h0
                by_cases h1 : t = 1
                · exact .inr (.inl h1)
                by_cases h2 : t = 2
                · exact .inr (.inr (.inl h2))
                by_cases h3 : t = 3
                · exact .inr (.inr (.inr (.inl h3)))
                exact .inr (.inr (.inr (.inr ⟨by simpa using h0, by simpa using h1, by simpa using h2, by simpa using h3⟩)))
              have HNO := Lib.hid hno
              rcases hT with rfl | rfl | rfl | rfl | hT
              · as_aux_lemma =>
                have SM := Lib.hid (fun W hW => tlink_range (w := W) (H5.out.moved hW).s.at_ x y HNO.out)
                go_wp2
                go_quiet (fail)
                have g1 : (w5.drewN nq).cell? ⟨G, 1, none⟩ = some (.int .i64 x) := g1
                have g2 : (w5.drewN nq).cell? ⟨G, 2, none⟩ = some (.int .i64 y) := g2
                go_wp2_with fail
                refine (SM.out _ (Ext.drewN w5 nq)).mono ?_
                rintro e w6 ⟨rfl, rfl⟩
                go_wp2_with fail
                refine (same_errno (w5.drewN nq) 1 1 (HD.out _ (H5.out.s.ext.trans (Ext.drewN w5 nq))) true (by decide)).mono ?_
                rintro e w7 ⟨rfl, hx7⟩
                have X7 : Hid (Ext w5 w7) := (Ext.drewN w5 nq).trans hx7
                clear hx7
                go_wp2
                go_meet
                exact ⟨rfl, E, A, c, rfl, (H5.out.moved X7.out).mono (by omega), BG5.out.chg (Chg.of_below X7.out) (by have := BG5.out.lt; omega)⟩
              · as_aux_lemma =>
                have SM := Lib.hid (fun W hW => tlink_range (w := W) (H5.out.moved hW).s.at_ x y HNO.out)
                go_wp2
                go_quiet (fail)
                have g1 : (w5.drewN nq).cell? ⟨G, 1, none⟩ = some (.int .i64 x) := g1
                have g2 : (w5.drewN nq).cell? ⟨G, 2, none⟩ = some (.int .i64 y) := g2
                go_wp2_with fail
                refine (SM.out _ (Ext.drewN w5 nq)).mono ?_
                rintro e w6 ⟨rfl, rfl⟩
                go_wp2_with fail
                refine (same_errno (w5.drewN nq) 1 1 (HD.out _ (H5.out.s.ext.trans (Ext.drewN w5 nq))) true (by decide)).mono ?_
                rintro e w7 ⟨rfl, hx7⟩
                have X7 : Hid (Ext w5 w7) := (Ext.drewN w5 nq).trans hx7
                clear hx7
                go_wp2
                go_meet
                exact ⟨rfl, E, A, c, rfl, (H5.out.moved X7.out).mono (by omega), BG5.out.chg (Chg.of_below X7.out) (by have := BG5.out.lt; omega)⟩
              · as_aux_lemma =>
                have SM := Lib.hid (fun W hW => tlink_range (w := W) (H5.out.moved hW).s.at_ x y HNO.out)
                go_wp2
                go_quiet (fail)
                have g1 : (w5.drewN nq).cell? ⟨G, 1, none⟩ = some (.int .i64 x) := g1
                have g2 : (w5.drewN nq).cell? ⟨G, 2, none⟩ = some (.int .i64 y) := g2
                go_wp2_with fail
                refine (SM.out _ (Ext.drewN w5 nq)).mono ?_
                rintro e w6 ⟨rfl, rfl⟩
                go_wp2_with fail
                refine (same_errno (w5.drewN nq) 1 1 (HD.out _ (H5.out.s.ext.trans (Ext.drewN w5 nq))) true (by decide)).mono ?_
                rintro e w7 ⟨rfl, hx7⟩
                have X7 : Hid (Ext w5 w7) := (Ext.drewN w5 nq).trans hx7
                clear hx7
                go_wp2
                go_meet
                exact ⟨rfl, E, A, c, rfl, (H5.out.moved X7.out).mono (by omega), BG5.out.chg (Chg.of_below X7.out) (by have := BG5.out.lt; omega)⟩
              · as_aux_lemma =>
                go_wp2_with fail
                refine (tcut_range H5.out.s.at_ x y HNO.out).mono ?_
                rintro e w6 ⟨rfl, rfl⟩
                go_wp2_with fail
                refine (same_errno w5 1 1 (HD.out _ H5.out.s.ext) true (by decide)).mono ?_
                rintro e w7 ⟨rfl, hx7⟩
                have X7 : Hid (Ext w5 w7) := hx7
                clear hx7
                go_wp2
                go_meet
                exact ⟨rfl, E, A, c, rfl, (H5.out.moved X7.out).mono (by omega), BG5.out.chg (Chg.of_below X7.out) (by have := BG5.out.lt; omega)⟩
              · as_aux_lemma =>
                obtain ⟨q0, q1, q2, q3⟩ := hT
                have SM := Lib.hid (fun W hW => tsame_range (w := W) (H5.out.moved hW).s.at_ x y HNO.out)
                go_wp2
                go_quiet (fail)
                have g1 : (w5.drewN nq).cell? ⟨G, 1, none⟩ = some (.int .i64 x) := g1
                have g2 : (w5.drewN nq).cell? ⟨G, 2, none⟩ = some (.int .i64 y) := g2
                go_wp2_with fail
                refine (SM.out _ (Ext.drewN w5 nq)).mono ?_
                rintro e w6 ⟨rfl, rfl⟩
                go_wp2_with fail
                refine (same_errno (w5.drewN nq) 1 1 (HD.out _ (H5.out.s.ext.trans (Ext.drewN w5 nq))) true (by decide)).mono ?_
                rintro e w7 ⟨rfl, hx7⟩
                have X7 : Hid (Ext w5 w7) := (Ext.drewN w5 nq).trans hx7
                clear hx7
                go_wp2
                go_meet
                exact ⟨rfl, E, A, c, rfl, (H5.out.moved X7.out).mono (by omega), BG5.out.chg (Chg.of_below X7.out) (by have := BG5.out.lt; omega)⟩
            case rest => as_aux_lemma =>
              clear H5 BG5 NR5 PP g0 g1 g2 HKV
              obtain ⟨rfl, E', A', c', rfl, hR', hB'⟩ := hcut
              have HR := Lib.hid hR'
              have BG := Lib.hid hB'
              have hEn' : E'.length ≤ n := hR'.s.at_.fo.len
              clear hR' hB' hEn
              go_wp2_with fail
              refine (parts_any _ A' n E'.length c' E' rfl hn2.1 (by omega) (by omega) HR.out.ed (fo_inn HR.out.s.at_.fo)).mono ?_
              rintro e w4 ⟨p, gp, cp, rfl, hrow, hparts, hx4, hgp⟩
              have H4 := Lib.hid (HR.out.moved hx4)
              have BG4 := Lib.hid (BG.out.chg (Chg.of_below hx4) (by have := BG.out.lt; omega))
              have NR := Lib.hid hrow
              have PP := Lib.hid hparts
              have HGP : Hid (w.heap.size ≤ gp) := Nat.le_trans HR.out.s.ext.size hgp
              clear hrow hparts hx4 hgp HR BG

              have g1 : w4.cell? ⟨G, 1, none⟩ = some (.int .i64 x) := BG4.out.cell 1
              go_wp2_with fail
              refine (tmembers_range H4.out.s.at_ x hxo).mono ?_
              rintro e w7 ⟨rfl, rfl⟩
              go_wp2_with fail
              refine (same_errno w4 1 1 (HD.out _ H4.out.s.ext) true (by decide)).mono ?_
              rintro e w8 ⟨rfl, hx8⟩
              have H8 := Lib.hid (H4.out.moved hx8)
              have B8 := Lib.hid (BG4.out.chg (Chg.of_below hx8) (by have := BG4.out.lt; omega))
              clear hx8 H4 BG4 NR PP g1
              go_wp2_with fail
              refine (ints_any w8 none none 0 0 0 0 [] [] (.inl rfl) (.inl rfl) rfl rfl (by omega) (by omega) true (by simp)).mono ?_
              rintro e w9 ⟨rfl, hx9⟩
              have H9 := Lib.hid (H8.out.moved hx9)
              have B9 := Lib.hid (B8.out.chg (Chg.of_below hx9) (by have := B8.out.lt; omega))
              have g1 : w9.cell? ⟨G, 1, none⟩ = some (.int .i64 x) := B9.out.cell 1
              clear hx9 H8 B8
              go_wp2_with fail
              refine (tsize_range H9.out.s.at_ x hxo).mono ?_
              rintro e w10 ⟨rfl, rfl⟩
              have H10 := Lib.hid H9.out
              clear H9 B9 g1
              go_wp2_with fail
              refine (same_errno w9 1 1 (HD.out _ H10.out.s.ext) true (by decide)).mono ?_
              rintro e w11 ⟨rfl, hx11⟩
              have H11 := Lib.hid (H10.out.moved hx11)
              clear hx11 H10
              go_wp2_with fail
              refine (tedges_any H11.out.s.at_).mono ?_
              rintro e w12 ⟨A12, c12, rfl, hd12, hx12, _⟩
              have H12 := Lib.hid (H11.out.moved hx12)
              have K12 : Hid (EdsAt w12 A12 E') := (DRow.eds hd12 rfl).1
              clear hd12 hx12 H11
              go_wp2_with fail
              refine (sedges_any w12 A12 A' E'.length E'.length c12 c' E' E' K12.out H12.out.ed rfl rfl (by omega) (by omega) true (by simp)).mono ?_
              rintro e w13 ⟨rfl, hx13⟩
              have H13 := Lib.hid (H12.out.moved hx13)
              clear hx13 H12 K12
              go_wp2
              go_roundw
              case rel => exact ⟨k + 1, E', A', c', by omega, by omega, by go_num, rfl, H13.out⟩
              case measure => simp [intOf]; omega
      · have hii : (k < len1 ∧ ¬ k < 60) ∨ ¬ k < len1 := by omega
        have HX : Hid (Ext w wr) := HR.out.s.ext
        clear c0 HR
        rcases hii with ⟨c1, c2⟩ | c1
        all_goals
          go_wp2
          go_ret
          exact ⟨rfl, HX.out⟩
end Go.Proofs.YtgdbnjcnilnnmaaGreatDoor
