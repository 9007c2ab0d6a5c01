/-
  Written, kept, read: the walk of TopKept. Conditions: the events and the row of numbers are read as 'EvRow' and 'IntsAt' say.
-/
import Derived.Test.YthgniehfejklhaaGreatBs46
import Derived.Lib.QuietBelow
namespace Go.Proofs.YthgniehfejklhaaGreat
open Go Go.RowKit SQ TR DF PD PT
set_option linter.unusedVariables false

set_option maxHeartbeats 8000000 in
set_option maxRecDepth 100000 in
theorem tk_walk (n : Int) (a1 : Option Addr) (len1 cap1 : Nat) (l : List AK.Ev) (ka : Option Addr) (km kc : Nat) (keep : List Int) (a b : Int) (w : World) (h1 : EvRow w a1 l ∧ l.length = len1 ∧ (len1 ≤ cap1 ∧ cap1 ≤ maxLen) ∧ EvIn l) (h2 : IntsAt w ka keep ∧ keep.length = km ∧ km ≤ kc ∧ kc ≤ maxLen) :
    Calls Tryz.prog 3 #[.int .i64 n, .slice a1 len1 cap1, .slice ka km kc, .int .i64 a, .int .i64 b] w fun e w' => e = .returned (.bool true) ∧ Below w.heap.size w w' := by
  obtain ⟨hE1, hl1, ⟨hlc, hcm⟩, hin1⟩ := h1
  unfold maxLen at hcm
  have HE1 : Hid (EvRow w a1 l ∧ l.length = len1 ∧ EvIn l) := ⟨hE1, hl1, hin1⟩
  have HK : Hid (IntsAt w ka keep ∧ keep.length = km ∧ km ≤ maxLen) := ⟨h2.1, h2.2.1, Nat.le_trans h2.2.2.1 h2.2.2.2⟩
  clear hE1 hl1 hin1 h2
  by_cases hn : n < 1 ∨ 60 < n
  · have HDN := Lib.hid (fun W => drawn_no W n a1 len1 cap1 hn)
    clear hn
    go_enter Tryz.func3, Tryz.ntmps3
    go_wp2_with fail
    refine (one_any w).mono ?_
    rintro e w1 ⟨rfl, hx1⟩
    have X1 : Hid (Ext w w1) := hx1
    clear hx1
    go_wp2_with fail
    refine (HDN.out w1).mono ?_
    rintro e w2 ⟨rfl, rfl⟩
    go_wp2
    go_ret
    exact ⟨rfl, X1.out⟩
  obtain ⟨n, rfl⟩ := Int.eq_ofNat_of_zero_le (show 0 ≤ n by omega)
  have hn2 : 1 ≤ n ∧ n ≤ 60 := by omega
  clear hn
  go_enter Tryz.func3, Tryz.ntmps3
  go_wp2_with fail
  refine (one_any w).mono ?_
  rintro e w1 ⟨rfl, hx1⟩
  have X1 : Hid (Ext w w1) := hx1
  have HDR := Lib.hid (drawn_any w1 n hn2 a1 len1 cap1 l HE1.out.2.1 (HE1.out.1.ext hx1) HE1.out.2.2)
  clear hx1
  go_wp2_with fail
  refine HDR.out.mono ?_
  rintro e w2 ⟨G, A, f, N, rfl, hg2, _, hA⟩
  obtain ⟨g0, hg0⟩ : ∃ g, G.gb = g := ⟨_, rfl⟩
  rw [hg0]
  have HG0 := Lib.hid hg0
  have HG2 : Hid (GrI w2 G n N A f ∧ Ext w w2) := ⟨hg2.at_, X1.out.trans hg2.ext⟩
  have HDE : Hid (DkE n A) := hg2.at_.de (by omega)
  have HGE := ge_any hg2.at_ (by omega)
  rw [hg0] at HGE
  have HGE := Lib.hid HGE
  clear hg2 hg0 HDR X1
  go_wp2_with fail
  refine HGE.out.mono ?_
  rintro e w3 ⟨AA, ca, rfl, hE3, hc3, hx3⟩
  have H3 : Hid (EdsAt w3 AA A ∧ GrI w3 G n N A f ∧ Ext w w3) := ⟨hE3, HG2.out.1.ext hx3, HG2.out.2.trans hx3⟩
  have HC3 := Lib.hid hc3
  have HEN : Hid (Calls Tryz.prog 11 #[.int .i64 n, .slice AA A.length ca] w3 fun e w' => ∃ A5 c5, e = .returned (.tuple #[.slice A5 (2 + 2 * A.length) c5, .nilIface]) ∧ BytesAt w' A5 (NT.encL n A) ∧ Ext w3 w') := by
    refine (encode_any w3 n AA A.length ca A rfl (by omega) hE3).mono ?_
    rintro e w5 ⟨hx5, ⟨hbad, _⟩ | ⟨_, A5, c5, rfl, hb5, hc5, hm5, hn5⟩⟩
    · exact absurd HDE.out.enc hbad
    · exact ⟨A5, c5, rfl, hb5, hx5⟩
  clear hE3 hc3 hx3 HGE HG2
  go_wp2_with fail
  refine HEN.out.mono ?_
  rintro e w4 ⟨A4, c4, rfl, hb4, hx4⟩
  have H4 : Hid (EdsAt w4 AA A ∧ GrI w4 G n N A f ∧ Ext w w4) := ⟨H3.out.1.ext hx4, H3.out.2.1.ext hx4, H3.out.2.2.trans hx4⟩
  have HDC : Hid (Calls Tryz.prog 12 #[.slice A4 (2 + 2 * A.length) c4] w4 fun e w' => ∃ A3 c3, e = .returned (.tuple #[.int .i64 (n : Nat), .slice A3 A.length c3, .nilIface]) ∧ EdsAt w' A3 A ∧ Ext w4 w') := by
    refine (decode_enc w4 A4 (2 + 2 * A.length) c4 A.length n A rfl (by omega) rfl hb4 (by omega) (fun x hx => by have := HDE.out.ok x hx; omega)).mono ?_
    rintro e w3 ⟨hx3, ⟨hbad, _⟩ | ⟨_, A3, c3, rfl, hE3⟩⟩
    · exact absurd HDE.out.enc hbad
    · exact ⟨A3, c3, rfl, hE3, hx3⟩
  clear hb4 hx4 HEN H3
  go_wp2_with fail
  refine HDC.out.mono ?_
  rintro e w5 ⟨A5, c5, rfl, hE5, hx5⟩
  have H5 : Hid (EdsAt w5 AA A ∧ GrI w5 G n N A f ∧ Ext w w5 ∧ EdsAt w5 A5 A) := ⟨H4.out.1.ext hx5, H4.out.2.1.ext hx5, H4.out.2.2.trans hx5, hE5⟩
  clear hE5 hx5 HDC H4
  go_wp2_with fail
  refine (sedges_any w5 A5 AA A.length A.length c5 ca A A H5.out.2.2.2 H5.out.1 rfl rfl (by omega) (by omega) true (by simp)).mono ?_
  rintro e w6 ⟨rfl, hx6⟩
  have H6 : Hid (EdsAt w6 AA A ∧ GrI w6 G n N A f ∧ Ext w w6) := ⟨H5.out.1.ext hx6, H5.out.2.1.ext hx6, H5.out.2.2.1.trans hx6⟩
  clear hx6 H5
  go_wp2_with fail
  refine (dnew_yes w6 62 (by omega) (by omega)).mono ?_
  rintro e w7 ⟨u, rfl, hd7, hx7, hf7⟩
  have HFM := dformat_new u hd7 hx7 hf7 hn2
  obtain ⟨gu, hgu⟩ : ∃ g, u.g = g := ⟨_, rfl⟩
  rw [hgu] at HFM ⊢
  have HFM := Lib.hid HFM
  clear hd7 hx7 hf7 hgu
  go_wp2_with fail
  refine HFM.out.mono ?_
  intro e w8 h8
  obtain ⟨rfl, hk8⟩ := da_fmt h8 hn2
  have H8 := Lib.hid hk8
  clear h8 hk8 HFM
  go_wp2_with fail
  refine (da_open H8.out).mono ?_
  rintro e w9 ⟨kb, rfl, h9, _⟩
  have R0 : Hid (DskA true w6 w9 gu kb n 1 (A.take 0) []) := h9
  clear h9 H8
  go_upto_block 0 with fail
  go_cut [22, 24] from 93 to 117 (fun s22 s24 wx => Hid (DskA true w6 wx gu kb n 1 A []))
  case first =>
    as_aux_lemma =>
    go_wp2_with fail
    go_loopw [24] (fun v24 wr => ∃ i : Nat, i ≤ A.length ∧ v24 = .int .i64 i ∧ Hid (DskA true w6 wr gu kb n 1 (A.take i) [])) (fun v24 _ => A.length - (intOf v24).toNat)
    case atStart => exact ⟨0, Nat.zero_le _, rfl, R0.out⟩
    case round =>
      as_aux_lemma =>
      obtain ⟨i, hi, rfl, HR⟩ := hrel
      clear R0
      by_cases c : i < A.length
      · obtain ⟨bs, off, rfl, hbs, ⟨x, y⟩, hx, g1, g2⟩ := eds_at (H6.out.1.ext HR.out.ext) c
        simp only at g1 g2
        have HTD := Lib.hid (take_done HDE.out hx)
        have HDO := Lib.hid (fun W (hW : Ext wr W) => da_do (HR.out.moved (hW.trans (Ext.alloc W (.cells #[.int .i64 1, .int .i64 x, .int .i64 y] 51)))) (some ⟨W.heap.size, 0, none⟩) 1 1 [⟨1, x, y⟩] rfl (ev_one W 1 x y) (by
          have hxy := HDE.out.ok _ (List.mem_of_getElem? hx)
          intro e he; simp at he; subst he; simp only at hxy ⊢; omega))
        have z0 : (0 : Int) ≤ (i : Int) := by omega
        have z1 : (i : Int) < (A.length : Int) := by omega
        have HC : Hid (∀ W, Ext w6 W → Ext w6 W ∧ W.cell? ⟨bs, off + i * 2, none⟩ = some (.int .i64 x) ∧ W.cell? ⟨bs, off + i * 2 + 1, none⟩ = some (.int .i64 y)) := fun W hW => by
          rcases H6.out.1.ext hW with h0 | ⟨b', off', he, hb', hc'⟩
          · subst h0; simp at c
          · injection he with he
            injection he with e1 e2
            subst e1; subst e2
            exact ⟨hW, hc' i _ hx⟩
        have hE0 : Ext w6 wr := HR.out.ext
        clear hx
        go_wp2_with fail
        go_region_held3 (fun W => Ext w6 W ∧ W.cell? ⟨bs, off + i * 2, none⟩ = some (.int .i64 x) ∧ W.cell? ⟨bs, off + i * 2 + 1, none⟩ = some (.int .i64 y))
          (exact HC.out _ (by first | assumption | exact Ext.trans hE0 (Ext.drew _) | exact fst_ (by assumption) | exact Ext.trans (fst_ (by assumption)) (by assumption) | exact Ext.trans (fst_ (by assumption)) (Ext.alloc _ _)))
          (first
            | (go_at_call 17; refine (HDO.out _ (Ext.drew _)).mono ?_; rintro e w8 hq8; obtain ⟨A2, xs2, hdn2, Ao2, c2, rfl, _, _, h8, _⟩ := hq8.resolve_left (fun ⟨k', hk', _⟩ => hk'.no2 HTD.out); obtain ⟨rfl, rfl⟩ := hdn2.one HTD.out; have H8 := Lib.hid h8; have hF8 : Ext w6 w8 := h8.ext; clear hdn2 hq8 h8)
            | fail)
        rename_i hHeld
        clear hHeld HR HDO HC hE0 hF8 HTD g1 g2
        go_wp2
        go_roundw
        case rel => exact ⟨i + 1, by omega, by go_num, H8.out⟩
        case measure => simp [intOf]; omega
      · obtain rfl : i = A.length := by omega
        have HN : Hid (DskA true w6 wr gu kb n 1 A []) := by
          have := HR.out
          rwa [List.take_length] at this
        clear HR
        go_wp2
        go_meet
        exact HN.out
  case rest =>
    as_aux_lemma =>
    have HW := Lib.hid hcut
    clear hcut R0
    go_wp2_with fail
    refine (da_save HW.out (by omega)).mono ?_
    rintro e w10 ⟨⟨rfl, h10⟩ | ⟨_, hb, _⟩, _⟩
    case inr => cases hb
    have H10 := Lib.hid h10
    have HCR := Lib.hid (da_crash h10 ka km kc keep (HK.out.1.ext H6.out.2.2) HK.out.2.1 HK.out.2.2)
    clear h10 HW
    go_wp2_with fail
    refine HCR.out.mono ?_
    rintro e w11 ⟨rfl, h11, _⟩
    have H11 := Lib.hid h11
    clear h11 HCR H10
    go_wp2_with fail
    refine (da_open H11.out).mono ?_
    rintro e w12 ⟨kb2, rfl, h12, _⟩
    have H12 := Lib.hid h12
    clear h12 H11
    go_wp2_with fail
    refine (da_graph H12.out).mono ?_
    rintro e w13 ⟨G2, f2, rfl, h13⟩
    obtain ⟨g2, hg2⟩ : ∃ g, G2.gb = g := ⟨_, rfl⟩
    rw [hg2]
    have HB13 : Hid (Ext w6 w13) := H12.out.ext.trans h13.ext
    have HJ1 : Hid (∀ W, Ext w13 W → Calls Tryz.prog 21 #[.pointer (some ⟨g0, 0, none⟩), .int .i64 a, .int .i64 b] W fun e w' => e = .returned (.tuple #[.bool (jB n A a b), jE n a b]) ∧ Ext W w') := fun W hW => by
      have q := gj_any (H6.out.2.1.ext (HB13.out.trans hW)) a b
      rwa [HG0.out] at q
    have HJ2 : Hid (∀ W, Ext w13 W → Calls Tryz.prog 21 #[.pointer (some ⟨g2, 0, none⟩), .int .i64 a, .int .i64 b] W fun e w' => e = .returned (.tuple #[.bool (jB n A a b), jE n a b]) ∧ Ext W w') := fun W hW => by
      have q := gj_any (h13.at_.ext hW) a b
      rwa [hg2] at q
    have HP1 : Hid (∀ W, Ext w13 W → Calls Tryz.prog 22 #[.pointer (some ⟨g0, 0, none⟩)] W fun e w' => e = .returned (.int .i64 (PD.cnt (ldr A) n : Nat)) ∧ Ext W w') := fun W hW => by
      have q := gp_any (H6.out.2.1.ext (HB13.out.trans hW)) (by omega)
      rwa [HG0.out] at q
    have HP2 : Hid (∀ W, Ext w13 W → Calls Tryz.prog 22 #[.pointer (some ⟨g2, 0, none⟩)] W fun e w' => e = .returned (.int .i64 (PD.cnt (ldr A) n : Nat)) ∧ Ext W w') := fun W hW => by
      have q := gp_any (h13.at_.ext hW) (by omega)
      rwa [hg2] at q
    have HGE := da_gedges h13 HDE.out
    rw [hg2] at HGE
    have HGE := Lib.hid HGE
    clear h13 hg2 H12
    go_wp2_with fail
    refine HGE.out.mono ?_
    rintro e w14 ⟨A14, c14, rfl, hr14, hx14⟩
    have H14 : Hid (EdsAt w14 A14 A ∧ EdsAt w14 AA A ∧ Ext w13 w14) := ⟨hr14.1, H6.out.1.ext (HB13.out.trans hx14), hx14⟩
    clear hr14 hx14 HGE
    go_wp2_with fail
    refine (sedges_any w14 A14 AA A.length A.length c14 ca A A H14.out.1 H14.out.2.1 rfl rfl (by omega) (by omega) true (by simp)).mono ?_
    rintro e w15 ⟨rfl, hx15⟩
    have H15 : Hid (Ext w13 w15) := H14.out.2.2.trans hx15
    clear hx15 H14
    generalize jB n A a b = jb at HJ1 HJ2
    have hje := jE_or n a b
    generalize jE n a b = je at HJ1 HJ2 hje
    generalize PD.cnt (ldr A) n = pc at HP1 HP2
    have HJE := Lib.hid hje
    clear hje
    go_wp2_with fail
    refine (HJ1.out _ H15.out).mono ?_
    rintro e w16 ⟨rfl, hx16⟩
    have H16 : Hid (Ext w13 w16) := H15.out.trans hx16
    clear hx16 H15
    go_wp2_with fail
    refine (HJ2.out _ H16.out).mono ?_
    rintro e w17 ⟨rfl, hx17⟩
    have H17 : Hid (Ext w13 w17) := H16.out.trans hx17
    clear hx17 H16 HJ1 HJ2
    have hX : Ext w13 w17 := H17.out
    have HWX : Hid (Ext w w13) := H6.out.2.2.trans HB13.out
    rcases HJE.out with rfl | rfl <;> cases jb
    all_goals
      clear HJE
      go_wp2
      refine wp_region_quiet_below (by kernel_rfl) (by kernel_rfl) ?_
      repeat (go_big_quiet_step (fail))
      go_big_quiet_step ((go_at_call 22; exact Calls.regrown_of (HP2.out _ (Ext.trans hX (below_regrown w17 _ _)))))
      repeat (go_big_quiet_step (fail))
      go_big_quiet_step ((go_at_call 22; exact Calls.regrown_of (HP1.out _ (Ext.trans hX (below_regrown w17 _ _)))))
      repeat (go_big_quiet_step (fail))
      refine wpQuiet_nil ?_
      intro _ hw'
      obtain ⟨⟨dq, osq⟩, hw''⟩ := hw'
      subst hw''
      have HN : Hid (Ext w13 (Go.Sort.grow (redrawn w17 dq) osq)) := Ext.trans hX (below_regrown w17 dq osq)
      clear hX HP1 HP2
      go_wp2
      go_ret
      exact ⟨rfl, HWX.out.trans HN.out⟩
end Go.Proofs.YthgniehfejklhaaGreat
