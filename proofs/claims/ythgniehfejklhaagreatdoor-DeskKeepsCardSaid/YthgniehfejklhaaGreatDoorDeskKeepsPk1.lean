/-
  What was saved is there: the walk of DeskKeeps. Conditions: the steps are read as 'GStepsAt' says; the door.
-/
import Derived.Test.YthgniehfejklhaaGreatDoorBs47
namespace Go.Proofs.YthgniehfejklhaaGreatDoor
open Go Go.RowKit SQ TR DF PD PT
set_option linter.unusedVariables false

/-- What DeskKeeps' loop holds. -/
structure DkR (W wr : World) (gu kb n t : Nat) (A S : List AK.Ed) (As : Option Addr) (cs : Nat) : Prop where
  dk : DskA false W wr gu kb n t A S
  saved : RowE wr As cs S
theorem DkR.moved {W wr w' : World} {gu kb n t : Nat} {A S : List AK.Ed} {As : Option Addr} {cs : Nat} (h : DkR W wr gu kb n t A S As cs) (hx : Ext wr w') : DkR W w' gu kb n t A S As cs := ⟨h.dk.moved hx, h.saved.ext hx⟩
theorem row_edges {wr : World} {A : Option Addr} {c : Nat} {l : List AK.Ed} (h : RowE wr A c l) : EdsAt wr A l := h.1
set_option maxHeartbeats 8000000 in
set_option maxRecDepth 100000 in
theorem dkw_walk (n : Int) (a1 : Option Addr) (len1 cap1 : Nat) (s1 : Nat → GSt) (w : World) (hd : Td.Door w) (hs : GStepsAt w a1 len1 s1 ∧ len1 ≤ cap1 ∧ cap1 ≤ maxLen) :
    Calls Tryz.prog 5 #[.int .i64 n, .slice a1 len1 cap1] w fun e w' => e = .returned (.bool true) ∧ Below w.heap.size w w' := by
  obtain ⟨hs, hlc, hcm⟩ := hs
  unfold maxLen at hcm
  have HSt := Lib.hid hs
  have HD : Hid (∀ W, Ext w W → Td.Door W) := fun W hW => hd.new hW
  clear hs hd
  go_enter Tryz.func5, Tryz.ntmps5
  go_wp2_with fail
  refine (dnew_yes w 62 (by omega) (by omega)).mono ?_
  rintro e w1 ⟨u, rfl, hd1, hx1, hf1⟩
  have HFM := dformat_new (n := 3) u hd1 hx1 hf1 (by omega)
  obtain ⟨gu, hgu⟩ : ∃ g, u.g = g := ⟨_, rfl⟩
  rw [hgu] at HFM ⊢
  have HFM := Lib.hid HFM
  clear hd1 hx1 hf1 hgu
  go_wp2_with fail
  refine HFM.out.mono ?_
  intro e w2 h2
  obtain ⟨rfl, hk2⟩ := da_fmt h2 (by omega)
  have H2 := Lib.hid hk2
  clear h2 hk2 HFM
  go_wp2_with fail
  refine (da_open H2.out).mono ?_
  rintro e w3 ⟨kb, rfl, h3, _⟩
  have H3 := Lib.hid h3
  clear h3 H2
  go_wp2_with fail
  refine (da_fact H3.out).mono ?_
  rintro e w4 ⟨Ao, c4, rfl, hb4, _, h4⟩
  have H4 := Lib.hid h4
  have HB4 := Lib.hid hb4
  clear h4 hb4 H3
  go_wp2_with fail
  refine (bools_any _ Ao (some ⟨w4.heap.size, 0, none⟩) 1 1 c4 1 [true] [true] (HB4.out.ext (Ext.alloc _ _)) (true_row w4) rfl rfl (by omega) (by omega) true (by simp)).mono ?_
  rintro e w5 ⟨rfl, hx5⟩
  have H5 := Lib.hid (H4.out.moved ((Ext.alloc _ _).trans hx5))
  clear hx5 H4 HB4
  go_wp2_with fail
  refine (da_save H5.out (by omega)).mono ?_
  rintro e w6 ⟨⟨rfl, h6⟩ | ⟨_, hb, _⟩, _⟩
  case inr => cases hb
  have H6 := Lib.hid h6
  clear h6 H5
  by_cases hn : n < 1 ∨ 60 < n
  · have HX6 : Hid (Ext w w6) := H6.out.ext
    have HFM := Lib.hid (dformat_no w6 (.pointer (some ⟨gu, 0, none⟩)) n hn)
    clear H6
    go_wp2_with fail
    refine HFM.out.mono ?_
    rintro e w7 ⟨rfl, hx7⟩
    have HX7 : Hid (Ext w w7) := HX6.out.trans hx7
    clear hx7 HX6 HFM
    by_cases hn1 : n < 1
    · clear hn
      go_wp2
      go_ret
      exact ⟨rfl, HX7.out⟩
    · have hn6 : 60 < n := by omega
      clear hn
      go_wp2
      go_ret
      exact ⟨rfl, HX7.out⟩
  obtain ⟨n, rfl⟩ := Int.eq_ofNat_of_zero_le (show 0 ≤ n by omega)
  have hn2 : 1 ≤ n ∧ n ≤ 60 := by omega
  clear hn
  have HFM := Lib.hid (da_format H6.out hn2)
  clear H6
  go_wp2_with fail
  refine HFM.out.mono ?_
  rintro e w7 ⟨rfl, h7⟩
  have H7 := Lib.hid h7
  clear h7 HFM
  go_wp2_with fail
  refine (da_open H7.out).mono ?_
  rintro e w8 ⟨kb8, rfl, h8, _⟩
  have H8 := Lib.hid h8
  clear h8 H7
  go_wp2_with fail
  refine (da_graph H8.out).mono ?_
  rintro e w9 ⟨G9, f9, rfl, h9⟩
  have H9 := Lib.hid h9
  have HD9 := Lib.hid (H8.out.moved h9.ext)
  clear h9 H8
  go_wp2_with fail
  refine (da_gedges H9.out HD9.out.de).mono ?_
  rintro e w10 ⟨A10, c10, rfl, _, hx10⟩
  have R0 : Hid (DkR w w10 gu kb8 n 1 [] [] none 0) := ⟨(HD9.out.moved hx10).weak, RowE.nil _⟩
  clear hx10 H9 HD9
  go_wp2
  go_loopw [7, 11, 12] (fun v7 v11 v12 wr => ∃ (i t kb : Nat) (A S : List AK.Ed) (As : Option Addr) (cs : Nat), i ≤ len1 ∧ i ≤ 25 ∧ t ≤ i + 1 ∧ v7 = .pointer (some ⟨kb, 0, none⟩) ∧ v11 = .slice As S.length cs ∧ v12 = .int .i64 i ∧ Hid (DkR w wr gu kb n t A S As cs)) (fun _ _ v12 _ => len1 - (intOf v12).toNat)
  case atStart => exact ⟨0, 1, kb8, [], [], none, 0, Nat.zero_le _, Nat.zero_le _, by omega, rfl, rfl, rfl, R0.out⟩
  case round =>
    as_aux_lemma =>
    obtain ⟨i, t, kb, A, S, As, cs, hi, hi25, ht, rfl, rfl, rfl, HR⟩ := hrel
    clear R0
    have HXT : Hid (Ext w wr) := HR.out.dk.ext
    by_cases c0 : i < len1 ∧ i < 25
    · obtain ⟨c1, c2⟩ := c0
      rcases HSt.out with h0 | ⟨b, off, rfl, hlt, hc⟩
      · omega
      obtain ⟨q, x, bA, bm, bc, KA, km, kc, kl, EA, em, ec, l, p0, p1, p2, p3, p4, hK, hE, hx64⟩ := (hc i c1).cells hlt HXT.out
      have HK := Lib.hid hK
      have HE := Lib.hid hE
      have HX64 := Lib.hid hx64
      have z0 : (0 : Int) ≤ (i : Int) := by omega
      have z1 : (i : Int) < (len1 : Int) := by omega
      have z2 : (i : Int) < 25 := by omega
      clear hc hlt hK hE hx64
      go_upto_block 2 with fail
      have BG := Lib.hid (Blk.new wr 72 #[.int .i64 q, .int .i64 x, .slice bA bm bc, .slice KA km kc, .slice EA em ec])
      have H3 := Lib.hid (HR.out.moved (Ext.alloc wr (.cells #[.int .i64 q, .int .i64 x, .slice bA bm bc, .slice KA km kc, .slice EA em ec] 72)))
      obtain ⟨gS, hGe⟩ : ∃ G, wr.heap.size = G := ⟨_, rfl⟩
      rw [hGe] at BG ⊢
      clear hGe
      generalize wr.alloc (.cells #[.int .i64 q, .int .i64 x, .slice bA bm bc, .slice KA km kc, .slice EA em ec] 72) = w3 at BG H3 ⊢
      clear HR HXT p0 p1 p2 p3 p4
      go_upto_if 99 with fail
      obtain ⟨ad, had⟩ : ∃ b : Bool, b = (q == 0 || q == 1 || q == 2 || q == 3) := ⟨_, rfl⟩
      have HAD0 := Lib.hid had
      clear had
      go_cut [99] from 99 to 103 (fun s99 wx => s99 = .bool ad ∧ wx = w3)
      case first =>
        as_aux_lemma =>
        have had := HAD0.out
        have hq : q = 0 ∨ q = 1 ∨ q = 2 ∨ q = 3 ∨ ((q == 0) = false ∧ (q == 1) = false ∧ (q == 2) = false ∧ (q == 3) = false) := by simp only [beq_eq_false_iff_ne]; omega
        rcases hq with rfl | rfl | rfl | rfl | ⟨t0, t1, t2, t3⟩
        · simp at had; subst had; go_wp2; go_meet; exact ⟨rfl, rfl⟩
        · simp at had; subst had; go_wp2; go_meet; exact ⟨rfl, rfl⟩
        · simp at had; subst had; go_wp2; go_meet; exact ⟨rfl, rfl⟩
        · simp at had; subst had; go_wp2; go_meet; exact ⟨rfl, rfl⟩
        · rw [t0, t1, t2, t3] at had
          simp at had
          subst had
          have t0' : ¬ q = 0 := by simpa using t0
          have t1' : ¬ q = 1 := by simpa using t1
          have t2' : ¬ q = 2 := by simpa using t2
          have t3' : ¬ q = 3 := by simpa using t3
          go_wp2; go_meet; exact ⟨rfl, rfl⟩
      case rest =>
        as_aux_lemma =>
        obtain ⟨rfl, hw⟩ := hcut
        have hw' := hw.symm
        subst hw'
        cases ad with
        | true =>
          clear HAD0
          have e4 : w3.cell? ⟨gS, 4, none⟩ = some (.slice EA em ec) := BG.out.cell 4
          have HEV3 : Hid (EvRow w3 EA l ∧ l.length = em ∧ EvIn l) := ⟨HE.out.1.ext H3.out.dk.ext, HE.out.2⟩
          go_wp2_with fail
          refine (da_do H3.out.dk EA em ec l HEV3.out.2.1 HEV3.out.1 HEV3.out.2.2).mono ?_
          rintro e w5 (⟨k', hk', rfl, hx5⟩ | ⟨A2, xs2, hdn2, Ao2, c2, rfl, ho5, _, h5, hc5⟩)
          · have H5 := Lib.hid (H3.out.moved hx5)
            clear hk' hx5 H3 HEV3 BG e4
            go_wp2
            go_roundw
            case rel => exact ⟨i + 1, t, kb, A, S, As, cs, by omega, by omega, by omega, rfl, rfl, by go_num, H5.out⟩
            case measure => simp [intOf]; omega
          · obtain ⟨ks, hkb⟩ := H3.out.dk.blk
            have H5 : Hid (DkR w w5 gu kb n t A2 S As cs) := ⟨h5, H3.out.saved.desk hkb hc5⟩
            clear hkb hdn2 ho5 h5 hc5 H3 HEV3 BG e4
            go_wp2
            go_roundw
            case rel => exact ⟨i + 1, t, kb, A2, S, As, cs, by omega, by omega, by omega, rfl, rfl, by go_num, H5.out⟩
            case measure => simp [intOf]; omega
        | false =>
          by_cases q4 : q = 4
          · subst q4
            clear HAD0
            go_wp2_with fail
            refine (da_graph H3.out.dk).mono ?_
            rintro e w4 ⟨G4, f4, rfl, h4⟩
            have H4 := Lib.hid h4
            have HD4 := Lib.hid (H3.out.moved h4.ext)
            have BG4 := Lib.hid (blk_ext BG.out h4.ext)
            clear h4 H3 BG
            go_wp2_with fail
            refine (da_gedges H4.out HD4.out.dk.de).mono ?_
            rintro e w5 ⟨A5, c5, rfl, hr5, hx5⟩
            have HR5 := Lib.hid hr5
            have HD5 := Lib.hid (HD4.out.moved hx5)
            have BG5 := Lib.hid (blk_ext BG4.out hx5)
            clear hr5 hx5 H4 HD4 BG4
            have HSV := Lib.hid (da_save HD5.out.dk (by omega))
            go_wp2_with fail
            refine HSV.out.mono ?_
            rintro e w6 ⟨⟨rfl, h6⟩ | ⟨rfl, _, h6⟩, hk6⟩
            · have H6 : Hid (DkR w w6 gu kb n (t + 1) A A A5 c5) := ⟨h6, HR5.out.keeps hk6⟩
              clear h6 hk6 HSV HD5 BG5 HR5
              go_wp2
              go_roundw
              case rel => exact ⟨i + 1, t + 1, kb, A, A, A5, c5, by omega, by omega, by omega, rfl, rfl, by go_num, H6.out⟩
              case measure => simp [intOf]; omega
            · have H6 : Hid (DskB w w6 gu kb n t A S ∧ RowE w6 A5 c5 A ∧ RowE w6 As cs S) := ⟨h6, HR5.out.keeps hk6, HD5.out.saved.keeps hk6⟩
              have BG6 : Hid (Blk w6 gS 72 #[.int .i64 4, .int .i64 x, .slice bA bm bc, .slice KA km kc, .slice EA em ec]) := hk6.blk BG5.out (by decide)
              clear h6 hk6 HSV HD5 BG5 HR5
              go_wp2_with fail
              refine (same_errno w6 8 8 (HD.out _ (db_ext H6.out.1)) true (by simp)).mono ?_
              rintro e w7 ⟨rfl, hx7⟩
              have H7 : Hid (DskB w w7 gu kb n t A S ∧ RowE w7 A5 c5 A ∧ RowE w7 As cs S) := ⟨db_moved H6.out.1 hx7, H6.out.2.1.ext hx7, H6.out.2.2.ext hx7⟩
              have BG7 := Lib.hid (blk_ext BG6.out hx7)
              have e3 : w7.cell? ⟨gS, 3, none⟩ = some (.slice KA km kc) := BG7.out.cell 3
              clear hx7 H6 BG6
              have HCR := Lib.hid (db_crash H7.out.1 KA km kc kl HK.out.1 HK.out.2.1 HK.out.2.2)
              go_wp2_with fail
              refine HCR.out.mono ?_
              rintro e w8 ⟨rfl, h8, hk8⟩
              have HLE0 : Hid (S.length ≤ 200 ∧ A.length ≤ 200) := by
                obtain ⟨d, gs, N, G, f, k1, _, k2⟩ := H7.out.1
                exact ⟨k2.le, k1.le⟩
              have H8 : Hid (∃ T X, T ≤ t + 1 ∧ SkA true w w8 gu n T X ∧ (X = S ∨ X = A)) := by
                rcases h8 with h8 | h8
                · exact ⟨t, S, Nat.le_succ _, h8, .inl rfl⟩
                · exact ⟨t + 1, A, Nat.le_refl _, h8, .inr rfl⟩
              have HR8 : Hid (RowE w8 A5 c5 A ∧ RowE w8 As cs S) := ⟨H7.out.2.1.keeps hk8, H7.out.2.2.keeps hk8⟩
              obtain ⟨T, X, hT, h8', hX⟩ := H8.out
              have HS8 := Lib.hid h8'
              have HXX := Lib.hid hX
              clear h8 hk8 HCR H7 BG7 e3 H8 h8' hX
              go_wp2_with fail
              refine (da_open HS8.out).mono ?_
              rintro e w9 ⟨kb9, rfl, h9, hx9⟩
              have H9 := Lib.hid h9
              have HR9 : Hid (RowE w9 A5 c5 A ∧ RowE w9 As cs S) := ⟨HR8.out.1.ext hx9, HR8.out.2.ext hx9⟩
              clear h9 hx9 HS8 HR8
              go_wp2_with fail
              refine (da_graph H9.out).mono ?_
              rintro e w10 ⟨G10, f10, rfl, h10⟩
              have HG10 := Lib.hid h10
              have H10 := Lib.hid (H9.out.moved h10.ext)
              have HR10 : Hid (RowE w10 A5 c5 A ∧ RowE w10 As cs S) := ⟨HR9.out.1.ext h10.ext, HR9.out.2.ext h10.ext⟩
              clear h10 H9 HR9
              go_wp2_with fail
              refine (da_gedges HG10.out H10.out.de).mono ?_
              rintro e w11 ⟨A11, c11, rfl, hr11, hx11⟩
              have H11 : Hid (DkR w w11 gu kb9 n T X X A11 c11) := ⟨(H10.out.moved hx11).weak, hr11⟩
              have HR11 : Hid (RowE w11 A5 c5 A ∧ RowE w11 As cs S) := ⟨HR10.out.1.ext hx11, HR10.out.2.ext hx11⟩
              have HLE : Hid (X.length ≤ 200 ∧ S.length ≤ 200 ∧ A.length ≤ 200) := by
                have q := H10.out.de.le
                exact ⟨q, HLE0.out⟩
              clear hr11 hx11 HG10 H10 HR10
              obtain ⟨b1, hb1⟩ : ∃ b : Bool, decide (X = S) = b := ⟨_, rfl⟩
              obtain ⟨b2, hb2⟩ : ∃ b : Bool, decide (X = A) = b := ⟨_, rfl⟩
              have HB1 := Lib.hid hb1
              have HB2 := Lib.hid hb2
              clear hb1 hb2
              go_wp2_with fail
              refine (sedges_any w11 A11 As X.length S.length c11 cs X S H11.out.saved.1 HR11.out.2.1 rfl rfl (by have := HLE.out; omega) (by have := HLE.out; omega) b1 HB1.out).mono ?_
              rintro e w12 ⟨rfl, hx12⟩
              have H12 := Lib.hid (H11.out.moved hx12)
              have HR12 : Hid (RowE w12 A5 c5 A) := HR11.out.1.ext hx12
              clear hx12 H11 HR11
              go_wp2_with fail
              refine (sedges_any w12 A11 A5 X.length A.length c11 c5 X A H12.out.saved.1 HR12.out.1 rfl rfl (by have := HLE.out; omega) (by have := HLE.out; omega) b2 HB2.out).mono ?_
              rintro e w13 ⟨rfl, hx13⟩
              have H13 := Lib.hid (H12.out.moved hx13)
              have HBB : Hid (b1 = true ∨ b2 = true) := by
                rcases HXX.out with q | q
                · left; rw [← HB1.out]; simpa using q
                · right; rw [← HB2.out]; simpa using q
              clear hx13 H12 HR12 HB1 HB2 HLE HXX
              cases b1 with
              | true =>
                clear HBB
                go_wp2
                go_roundw
                case rel => exact ⟨i + 1, T, kb9, X, X, A11, c11, by omega, by omega, by omega, rfl, rfl, by go_num, H13.out⟩
                case measure => simp [intOf]; omega
              | false =>
                obtain rfl : b2 = true := HBB.out.resolve_left (by decide)
                clear HBB
                go_wp2
                go_roundw
                case rel => exact ⟨i + 1, T, kb9, X, X, A11, c11, by omega, by omega, by omega, rfl, rfl, by go_num, H13.out⟩
                case measure => simp [intOf]; omega
          by_cases q5 : q = 5
          · subst q5
            clear HAD0 q4
            have e1 : w3.cell? ⟨gS, 1, none⟩ = some (.int .i64 x) := BG.out.cell 1
            go_wp2_with fail
            refine (da_fail H3.out.dk x HX64.out).mono ?_
            rintro e w4 ⟨rfl, h4, hk4⟩
            have H4 : Hid (DkR w w4 gu kb n t A S As cs) := ⟨h4, H3.out.saved.keeps hk4⟩
            clear h4 hk4 H3 BG e1
            go_wp2
            go_roundw
            case rel => exact ⟨i + 1, t, kb, A, S, As, cs, by omega, by omega, by omega, rfl, rfl, by go_num, H4.out⟩
            case measure => simp [intOf]; omega
          by_cases q6 : q = 6
          · subst q6
            clear HAD0 q4 q5
            have e3 : w3.cell? ⟨gS, 3, none⟩ = some (.slice KA km kc) := BG.out.cell 3
            have HCR := Lib.hid (da_crash H3.out.dk KA km kc kl HK.out.1 HK.out.2.1 HK.out.2.2)
            go_wp2_with fail
            refine HCR.out.mono ?_
            rintro e w4 ⟨rfl, h4, hk4⟩
            have H4 : Hid (SkA true w w4 gu n t S ∧ RowE w4 As cs S) := ⟨h4, H3.out.saved.keeps hk4⟩
            clear h4 hk4 HCR H3 BG e3
            go_wp2_with fail
            refine (da_open H4.out.1).mono ?_
            rintro e w5 ⟨kb5, rfl, h5, hx5⟩
            have H5 : Hid (DkR w w5 gu kb5 n t S S As cs) := ⟨h5.weak, H4.out.2.ext hx5⟩
            clear h5 hx5 H4
            go_wp2_with fail
            refine (da_graph H5.out.dk).mono ?_
            rintro e w6 ⟨G6, f6, rfl, h6⟩
            have HG6 := Lib.hid h6
            have H6 := Lib.hid (H5.out.moved h6.ext)
            clear h6 H5
            go_wp2_with fail
            refine (da_gedges HG6.out H6.out.dk.de).mono ?_
            rintro e w7 ⟨A7, c7, rfl, hr7, hx7⟩
            have HR7 := Lib.hid hr7
            have H7 := Lib.hid (H6.out.moved hx7)
            clear hr7 hx7 HG6 H6
            go_wp2_with fail
            refine (sedges_any w7 A7 As S.length S.length c7 cs S S HR7.out.1 H7.out.saved.1 rfl rfl (by have := H7.out.dk.de.le; omega) (by have := H7.out.dk.de.le; omega) true (by simp)).mono ?_
            rintro e w8 ⟨rfl, hx8⟩
            have H8 := Lib.hid (H7.out.moved hx8)
            clear hx8 H7 HR7
            go_wp2
            go_roundw
            case rel => exact ⟨i + 1, t, kb5, S, S, As, cs, by omega, by omega, by omega, rfl, rfl, by go_num, H8.out⟩
            case measure => simp [intOf]; omega
          · have q4' : (q == 4) = false := by simpa using q4
            have q5' : (q == 5) = false := by simpa using q5
            have q6' : (q == 6) = false := by simpa using q6
            clear HAD0
            go_wp2
            go_roundw
            case rel => exact ⟨i + 1, t, kb, A, S, As, cs, by omega, by omega, by omega, rfl, rfl, by go_num, H3.out⟩
            case measure => simp [intOf]; omega
    · have hii : (i < len1 ∧ ¬ i < 25) ∨ ¬ i < len1 := by omega
      clear c0
      rcases hii with ⟨c1, c2⟩ | c1
      all_goals
        go_wp2
        go_ret
        exact ⟨rfl, HXT.out⟩
end Go.Proofs.YthgniehfejklhaaGreatDoor
