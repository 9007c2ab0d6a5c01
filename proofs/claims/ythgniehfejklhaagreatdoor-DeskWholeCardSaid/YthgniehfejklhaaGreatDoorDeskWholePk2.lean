/-
  All of it, or nothing: the walk of DeskWhole. Conditions: the events are read as 'EvRow' says; the door.
-/
import Derived.Test.YthgniehfejklhaaGreatDoorDeskWholePk1
namespace Go.Proofs.YthgniehfejklhaaGreatDoor
open Go Go.RowKit SQ TR DF PD PT
set_option linter.unusedVariables false

theorem blk_cs {w : World} {k : Nat} {t t' : TypeId} {cs cs' : Array Value} (h : Blk w k t cs) (h' : Blk w k t' cs') : cs = cs' := by
  unfold Blk at h h'
  rw [h] at h'
  injection h' with h'
  injection h'
section
variable {lf lf' : Bool} {W wr w' : World} {gu gu' kb kb' mb n n' t t' i q : Nat} {A S A' S' B : List AK.Ed} {l : List AK.Ev} {vO : Value} {xs : List Value}
theorem desks_ne (h : DskA lf W wr gu kb n t A S) (h' : DskA lf' W wr gu' kb' n' t' A' S') (hne : gu ≠ gu') : kb ≠ kb' := by
  rintro rfl
  obtain ⟨d, gs, N, G, f, h1, _⟩ := h
  obtain ⟨d', gs', N', G', f', h1', _⟩ := h'
  have e := blk_cs h1.blk h1'.blk
  simp [dkC] at e
  obtain ⟨e, _⟩ := e
  subst e
  obtain ⟨u, v, k1, k2, k3, _⟩ := h1.sk.all
  obtain ⟨u', v', k1', k2', k3', _⟩ := h1'.sk.all
  have e2 := blk_cs k3.blk k3'.blk
  simp at e2
/-- A row of bools has turned. -/
theorem Dsg.row (h : Dsg W wr kb n A) (ho : wr.ownsRow 0 4 1 vO q xs) (hW : ∀ j, vO.ownBlock = some j → W.heap.size ≤ j) (hc : Chg (fun k => vO.ownBlock = some k) wr w') : Dsg W w' kb n A := by
  obtain ⟨gs, N, G, f, h1, h2, h3, h4, h5⟩ := h
  have hnT : ∀ k, vO.ownBlock = some k → ¬ G.T k := fun k hk => by
    obtain ⟨cs, hb⟩ := own_blkB ho hk
    exact h2.m.notyp (by decide) hb
  exact ⟨gs, N, G, f, h1.chg hc (fun e => own_ne ho h1 (by decide) e), ⟨h2.m.chg hc (fun k hk e => hnT k e (.inl hk)) (fun i F hi e => hnT _ e (.inr ⟨i, F, hi, rfl⟩)) (fun k e cs hb2 => by
    obtain ⟨cs3, hb3⟩ := own_blkB ho e
    exact absurd (blk_ty hb3 hb2) (by decide)), h2.k, h2.few, h2.nN⟩, h3, h4, Below.trans h5 (hc.below h5.size (fun k _ e => hW k e))⟩
end
set_option maxHeartbeats 8000000 in
set_option maxRecDepth 100000 in
theorem dww_walk (n : Int) (a1 : Option Addr) (len1 cap1 : Nat) (l : List AK.Ev) (a2 : Option Addr) (len2 cap2 : Nat) (lm : List AK.Ev) (w : World) (hd : Td.Door w) (h1 : EvRow w a1 l ∧ l.length = len1 ∧ (len1 ≤ cap1 ∧ cap1 ≤ maxLen) ∧ EvIn l) (h2 : EvRow w a2 lm ∧ lm.length = len2 ∧ (len2 ≤ cap2 ∧ cap2 ≤ maxLen) ∧ EvIn lm) :
    Calls Tryz.prog 4 #[.int .i64 n, .slice a1 len1 cap1, .slice a2 len2 cap2] w fun e w' => e = .returned (.bool true) ∧ Below w.heap.size w w' := by
  obtain ⟨hE1, hl1, ⟨hlc, hcm⟩, hin1⟩ := h1
  obtain ⟨hE2, hl2, _, hin2⟩ := h2
  unfold maxLen at hcm
  have HE1 : Hid (EvRow w a1 l ∧ l.length = len1 ∧ EvIn l) := ⟨hE1, hl1, hin1⟩
  have HE2 : Hid (EvRow w a2 lm ∧ lm.length = len2 ∧ EvIn lm) := ⟨hE2, hl2, hin2⟩
  have HD : Hid (∀ W, Ext w W → Td.Door W) := fun W hW => hd.new hW
  clear hE1 hl1 hin1 hE2 hl2 hin2 hd
  by_cases hn : n < 1 ∨ 60 < n
  · go_enter Tryz.func4, Tryz.ntmps4
    go_wp2_with fail
    refine (dnew_yes w 62 (by omega) (by omega)).mono ?_
    rintro e w1 ⟨u1, rfl, hd1, hx1, hf1⟩
    have X1 : Hid (Ext w w1) := hx1
    clear hd1 hx1 hf1
    go_wp2_with fail
    refine (dnew_yes w1 62 (by omega) (by omega)).mono ?_
    rintro e w2 ⟨u2, rfl, hd2, hx2, hf2⟩
    have X2 : Hid (Ext w w2) := X1.out.trans hx2
    have HFM := Lib.hid (dformat_no w2 (.pointer (some ⟨u1.g, 0, none⟩)) n hn)
    clear hd2 hx2 hf2 X1
    go_wp2_with fail
    refine HFM.out.mono ?_
    rintro e w3 ⟨rfl, hx3⟩
    have X3 : Hid (Ext w w3) := X2.out.trans hx3
    clear hx3 X2 HFM
    by_cases hn1 : n < 1
    · clear hn
      go_wp2
      go_ret
      exact ⟨rfl, X3.out⟩
    · have hn6 : 60 < n := by omega
      clear hn
      go_wp2
      go_ret
      exact ⟨rfl, X3.out⟩
  obtain ⟨n, rfl⟩ := Int.eq_ofNat_of_zero_le (show 0 ≤ n by omega)
  have hn2 : 1 ≤ n ∧ n ≤ 60 := by omega
  clear hn
  obtain ⟨zc, hmk⟩ := run_evs
  go_enter Tryz.func4, Tryz.ntmps4
  go_wp2_with fail
  refine (dnew_yes w 62 (by omega) (by omega)).mono ?_
  rintro e w1 ⟨u1, rfl, hd1, hx1, hf1⟩
  have H1 : Hid (DAt w1 u1 62 (DK.new 62) ∧ Ext w w1 ∧ ∀ k, u1.fp k → w.heap.size ≤ k) := ⟨hd1, hx1, hf1⟩
  clear hd1 hx1 hf1
  go_wp2_with fail
  refine (dnew_yes w1 62 (by omega) (by omega)).mono ?_
  rintro e w2 ⟨u2, rfl, hd2, hx2, hf2⟩
  have H2 : Hid (DAt w2 u2 62 (DK.new 62) ∧ Ext w1 w2 ∧ ∀ k, u2.fp k → w1.heap.size ≤ k) := ⟨hd2, hx2, hf2⟩
  have HAP : Hid (∀ k, u2.fp k → ¬ u1.fp k) := fun k h2 h1 => by
    have := H1.out.1.lt h1
    have := hf2 k h2
    omega
  have HF1 := dformat_free u1 (DK.new 62) (H1.out.1.ext hx2) (free_new 62) (by simp [DK.new]) (by simp [DK.new]) hn2
  obtain ⟨g1, hg1⟩ : ∃ g, u1.g = g := ⟨_, rfl⟩
  obtain ⟨g2, hg2⟩ : ∃ g, u2.g = g := ⟨_, rfl⟩
  have HG1 := Lib.hid hg1
  have HG2 := Lib.hid hg2
  rw [hg1] at HF1 ⊢
  rw [hg2]
  have HF1 := Lib.hid HF1
  clear hd2 hx2 hf2 hg1 hg2
  go_wp2_with fail
  refine HF1.out.mono ?_
  intro e w3 h3
  have he3 := h3.1
  subst he3
  have H3 := Lib.hid h3
  have HC3 : Hid (Chg u1.fp w2 w3) := by obtain ⟨_, gs, d, u', v', _, _, _, _, _, _, q, _⟩ := h3; exact q
  have HF2 := dformat_free u2 (DK.new 62) (H2.out.1.chg HC3.out HAP.out) (free_new 62) (by simp [DK.new]) (by simp [DK.new]) hn2
  rw [HG2.out] at HF2
  have HF2 := Lib.hid HF2
  have X3 : Hid (Ext w w3) := (dff_sk (X := fun _ => False) h3 (H1.out.2.1.trans H2.out.2.1) H1.out.2.2 hn2 (fun _ h => h.elim) (Chg.refl _ _)).ext
  clear h3 HF1
  go_wp2_with fail
  refine HF2.out.mono ?_
  intro e w4 h4
  have he4 := h4.1
  subst he4
  have HC4 : Hid (Chg u2.fp w3 w4) := by obtain ⟨_, gs, d, u', v', _, _, _, _, _, _, q, _⟩ := h4; exact q
  have HS1 : Hid (SkA true w w4 g1 n 1 []) := by
    have := dff_sk (X := u2.fp) H3.out (H1.out.2.1.trans H2.out.2.1) H1.out.2.2 hn2 (fun k hk => ⟨H2.out.1.lt hk, HAP.out k hk, by have := H2.out.2.2 k hk; have := H1.out.2.1.size; omega⟩) HC4.out
    rwa [HG1.out] at this
  have HS2 : Hid (SkA true w w4 g2 n 1 []) := by
    have := dff_sk (X := fun _ => False) h4 X3.out (fun k hk => by have := H2.out.2.2 k hk; have := H1.out.2.1.size; omega) hn2 (fun _ h => h.elim) (Chg.refl _ _)
    rwa [HG2.out] at this
  have HGG : Hid (g1 ≠ g2) := fun e => by
    have h1 : u1.fp g1 := .inl HG1.out.symm
    have h2 : u2.fp g1 := .inl (e.trans HG2.out.symm)
    exact HAP.out _ h2 h1
  clear h4 HF2 H3 HC3 HC4 X3 H1 H2 HAP HG1 HG2
  go_wp2_with fail
  refine (da_open HS1.out).mono ?_
  rintro e w5 ⟨kb, rfl, h5, hx5⟩
  have H5 := Lib.hid h5
  have HS25 := Lib.hid (HS2.out.moved hx5)
  clear h5 hx5 HS1 HS2
  go_wp2_with fail
  refine (da_open HS25.out).mono ?_
  rintro e w6 ⟨mb, rfl, h6, hx6⟩
  have HNE : Hid (kb ≠ mb) := desks_ne (H5.out.moved hx6) h6 HGG.out
  have HK6 := Lib.hid (H5.out.moved hx6).dsg
  have HM6 := Lib.hid h6.dsg
  clear h6 hx6 H5 HS25 HGG
  go_wp2_with fail
  refine (ds_do HK6.out a1 len1 cap1 l HE1.out.2.1 (HE1.out.1.ext HK6.out.ext) HE1.out.2.2).mono ?_
  rintro e w7 ⟨Ak, xs, er, Xa, xc, rfl, hend, hx7, hk7, hc7⟩
  have HEND := Lib.hid hend
  have HK7 := Lib.hid hk7
  have HM7 := Lib.hid (HM6.out.beside HK6.out.blk HK6.out.new (Ne.symm HNE.out) hc7)
  have HX7 := Lib.hid hx7
  clear hend hk7 hx7 hc7 HK6 HM6
  go_wp2_with fail
  refine (ddo_full _ kb _ 121 121 (by omega)).mono ?_
  rintro e w8 ⟨rfl, hw8⟩
  have HX8 : Hid (Ext w7 w8) := by rw [← hw8]; exact Ext.alloc _ _
  clear hw8 hmk
  go_wp2_with fail
  refine (same_errno w8 3 3 (HD.out _ (HK7.out.ext.trans HX8.out)) true (by simp)).mono ?_
  rintro e w9 ⟨rfl, hx9⟩
  have HX79 := HX8.out.trans hx9
  have HK9 := Lib.hid (HK7.out.moved HX79)
  have HM9 := Lib.hid (HM7.out.moved HX79)
  have HX9 : Hid (w9.ownsRow 0 4 1 (.slice Xa xs.length xc) xs.length (bolV xs)) := own_chg HX7.out (Chg.of_below HX79) (fun k hk => by have := own_lt HX7.out hk; omega)
  clear hx9 HX79 HX8 HK7 HM7 HX7
  go_upto_block 0 with fail
  go_cut [18, 19, 20, 21, 22] from 88 to 116 (fun s18 s19 s20 s21 s22 wx => ∃ (i : Nat) (dn : Bool) (ys : List Bool) (Ao : Option Addr) (co : Nat), s18 = .slice Ao ys.length co ∧ s19 = .bool dn ∧ Hid (DwR w w9 wx mb n l i dn ys (.slice Ao ys.length co) ∧ ys.length ≤ 120 ∧ (dn = false ∨ i = len1 ∨ 120 < len1)))
  case first =>
    as_aux_lemma =>
    go_wp2_with fail
    go_loopw [18, 19, 20] (fun v18 v19 v20 wr => ∃ (i : Nat) (dn : Bool) (ys : List Bool) (Ao : Option Addr) (co : Nat), i ≤ len1 ∧ i ≤ 120 ∧ v18 = .slice Ao ys.length co ∧ v19 = .bool dn ∧ v20 = .int .i64 i ∧ Hid (DwR w w9 wr mb n l i dn ys (.slice Ao ys.length co) ∧ ys.length ≤ i)) (fun _ _ v20 _ => len1 - (intOf v20).toNat)
    case atStart => exact ⟨0, true, [], none, 0, Nat.zero_le _, Nat.zero_le _, rfl, rfl, rfl, ⟨Chg.refl _ _, World.ownsRow_nil _ _ _ _, fun j hj => by simp [Value.ownBlock] at hj, .inr ⟨rfl, rfl⟩, fun _ => ⟨DS.Okay.zero _ _ _, [], rfl, HM9.out⟩, fun h => by cases h⟩, Nat.le_refl _⟩
    case round =>
      as_aux_lemma =>
      obtain ⟨i, dn, ys, Ao, co, hi, hi2, rfl, rfl, rfl, HR⟩ := hrel
      by_cases c : i < len1 ∧ len1 ≤ 120 ∧ dn = true
      · obtain ⟨c1, c2, rfl⟩ := c
        obtain ⟨ev, hev⟩ : ∃ e, l[i]? = some e := ⟨_, List.getElem?_eq_getElem (by rw [HE1.out.2.1]; exact c1)⟩
        obtain ⟨ho, B, hB, hM⟩ := HR.out.1.on rfl
        obtain ⟨b, off, rfl, hEi⟩ := drop_ev (HE1.out.1.ext hM.ext) hev
        have HEV := Lib.hid hev
        have HOB : Hid (DS.Okay n l [] i ∧ DS.run n l [] i = (B, ys)) := ⟨ho, hB⟩
        have HIN : Hid (EvIn [ev]) := fun e he => by
          simp at he; subst he
          exact HE1.out.2.2 _ (List.mem_of_getElem? hev)
        have HDO := Lib.hid (fun c => ds_do hM (some ⟨b, off + i * 3, none⟩) 1 c [ev] rfl hEi HIN.out)
        have HMB : Hid (∃ cs, Blk wr mb 112 cs) := hM.blk
        have z0 : (0 : Int) ≤ (i : Int) := by omega
        have z1 : (i : Int) < (len1 : Int) := by omega
        have z2 : (len1 : Int) ≤ 120 := by omega
        have z3 : (i : Int) + 1 ≤ (cap1 : Int) := by omega
        have hy := HR.out.2
        clear hev ho hB hM hEi
        go_wp2_with fail
        refine (HDO.out _).mono ?_
        rintro e w5 ⟨B', zs, er2, Zo, zc, rfl, hend, hz5, hm5, hc5⟩
        have HENDZ := Lib.hid hend
        have HZ5 := Lib.hid hz5
        have HM5 := Lib.hid hm5
        have HROW5 : Hid (w5.ownsRow 0 4 1 (.slice Ao ys.length co) ys.length (bolV ys)) := row_do HR.out.1.row HMB.out hc5
        have HC5 : Hid (Chg (fun k => k = mb) w9 w5) := HR.out.1.chg.trans hc5 (fun _ _ h => h)
        have hzl : zs.length ≤ 120 := by
          rcases hend with ⟨_, q⟩ | ⟨_, _, _, _, rfl⟩
          · exact q.len
          · simp
        clear hend hz5 hm5 hc5 HDO HMB HEND HIN
        rcases HENDZ.out with ⟨he, hdn⟩ | ⟨kf, he, hfk, hB0, hzs⟩
        · subst he
          have HON := Lib.hid (done_one hdn)
          clear hdn HENDZ
          go_wp2_with (at_builtin; refine wpList_append_rows _ rfl (.tmp 112) (.tmp 113) 60 rfl 4 (.bool false) 1 1 Tryz.underlying60 infoBl rfl (by decide) (.slice Ao ys.length co) ys.length (bolV ys) rfl HROW5.out Zo zs.length zc (bolV zs) rfl (by simp [bolV]) (own_none2 HZ5.out) (own_cells HZ5.out) (bol_one zs) ⟨by omega, by omega⟩ ?_; intro A6 c6 w6 ho6 hc6 hg6; have HO6 := Lib.hid ho6; have HC6 := Lib.hid hc6; have HG6 := Lib.hid hg6; clear ho6 hc6 hg6)
          have HN : Hid (DwR w w9 w6 mb n l (i + 1) true (ys ++ zs) (.slice A6 (ys ++ zs).length c6)) := by
            have hy2 : (ys ++ zs).length = ys.length + zs.length := List.length_append
            have hc96 : Chg (fun k => k = mb) w9 w6 := HC5.out.trans HC6.out (fun k hk hs => by have := HR.out.1.new k hs; omega)
            obtain ⟨q1, q2, q3⟩ := HON.out
            refine ⟨hc96, ?_, fun j hj => ?_, .inl (by rw [HE1.out.2.1]; exact c2), fun _ => ⟨HOB.out.1.next HEV.out (by rw [HOB.out.2]; exact q1), B', ?_, HM5.out.row HROW5.out (fun j hj => by have := HR.out.1.new j hj; have := HM9.out.ext.size; omega) HC6.out⟩, fun h => by cases h⟩
            · rw [hy2]; simpa [bolV] using HO6.out
            · rw [hy2] at hj
              rcases HG6.out j hj with q | q
              · exact HR.out.1.new j q
              · have := HC5.out.size; omega
            · rw [DS.run_next HEV.out, HOB.out.2, q2, q3]
          have hyl : (ys ++ zs).length = ys.length + zs.length := List.length_append
          have hzl2 : zs.length ≤ 1 := by
            rw [HON.out.2.2]; unfold DS.out1; split <;> simp
          rw [← hyl]
          clear HON HO6 HC6 HG6 HROW5 HZ5 HM5 HC5 HR HOB HEV
          go_wp2
          go_roundw
          case rel => exact ⟨i + 1, true, ys ++ zs, A6, c6, by omega, by omega, rfl, rfl, by go_num, HN.out, by omega⟩
          case measure => simp [intOf]; omega
        · subst he
          have HFK := Lib.hid (flt_one hfk)
          have HZS := Lib.hid hzs
          clear hfk HENDZ hzs hB0
          go_wp2_with (at_builtin; refine wpList_append_rows _ rfl (.tmp 112) (.tmp 113) 60 rfl 4 (.bool false) 1 1 Tryz.underlying60 infoBl rfl (by decide) (.slice Ao ys.length co) ys.length (bolV ys) rfl HROW5.out Zo zs.length zc (bolV zs) rfl (by simp [bolV]) (own_none2 HZ5.out) (own_cells HZ5.out) (bol_one zs) ⟨by omega, by omega⟩ ?_; intro A6 c6 w6 ho6 hc6 hg6; have HO6 := Lib.hid ho6; have HC6 := Lib.hid hc6; have HG6 := Lib.hid hg6; clear ho6 hc6 hg6)
          have HN : Hid (DwR w w9 w6 mb n l (i + 1) false (ys ++ zs) (.slice A6 (ys ++ zs).length c6)) := by
            have hy2 : (ys ++ zs).length = ys.length + zs.length := List.length_append
            have hc96 : Chg (fun k => k = mb) w9 w6 := HC5.out.trans HC6.out (fun k hk hs => by have := HR.out.1.new k hs; omega)
            refine ⟨hc96, ?_, fun j hj => ?_, .inl (by rw [HE1.out.2.1]; exact c2), (fun h => by cases h), fun _ => ⟨kf, .inr ⟨by rw [HE1.out.2.1]; exact c2, i, ev.w, ev.a, ev.b, HOB.out.1, HEV.out, by rw [HOB.out.2]; exact HFK.out.1, HFK.out.2⟩⟩⟩
            · rw [hy2]; simpa [bolV] using HO6.out
            · rw [hy2] at hj
              rcases HG6.out j hj with q | q
              · exact HR.out.1.new j q
              · have := HC5.out.size; omega
          have hyl : (ys ++ zs).length = ys.length + zs.length := List.length_append
          have hzl2 : zs.length ≤ 1 := by rw [HZS.out]; simp
          rw [← hyl]
          clear HFK HZS HO6 HC6 HG6 HROW5 HZ5 HM5 HC5 HR HOB HEV
          go_wp2
          go_roundw
          case rel => exact ⟨i + 1, false, ys ++ zs, A6, c6, by omega, by omega, rfl, rfl, by go_num, HN.out, by omega⟩
          case measure => simp [intOf]; omega
      · have HEX : Hid (dn = false ∨ i = len1 ∨ 120 < len1) := by
          unfold Hid
          cases dn
          · exact .inl rfl
          · simp at c; omega
        have HN := Lib.hid HR.out.1
        have hy := HR.out.2
        clear HR
        by_cases c1 : i < len1
        · by_cases c2 : len1 ≤ 120
          · have hdn : dn = false := by
              cases dn
              · rfl
              · exact absurd ⟨c1, c2, rfl⟩ c
            subst hdn
            have z1 : (i : Int) < (len1 : Int) := by omega
            have z2 : (len1 : Int) ≤ 120 := by omega
            clear c
            go_wp2
            go_meet
            exact ⟨i, false, ys, Ao, co, rfl, rfl, HN.out, by omega, .inl rfl⟩
          · have z1 : (i : Int) < (len1 : Int) := by omega
            have z2 : ¬ (len1 : Int) ≤ 120 := by omega
            clear c
            go_wp2
            go_meet
            exact ⟨i, dn, ys, Ao, co, rfl, rfl, HN.out, by omega, HEX.out⟩
        · have z1 : ¬ (i : Int) < (len1 : Int) := by omega
          clear c
          go_wp2
          go_meet
          exact ⟨i, dn, ys, Ao, co, rfl, rfl, HN.out, by omega, HEX.out⟩
  case rest =>
    as_aux_lemma =>
    obtain ⟨i, dn, ys, Ao, co, rfl, rfl, HR⟩ := hcut
    have HKc : Hid (Dsg w wc kb n Ak) := HK9.out.beside HM9.out.blk HM9.out.new HNE.out HR.out.1.chg
    rcases HEND.out with ⟨he, hdn⟩ | ⟨kf, he, hfk, hAk, hxs⟩
    · subst he
      have HDN := Lib.hid hdn
      have hl120 := hdn.1
      rw [HE1.out.2.1] at hl120
      have HXL := Lib.hid hdn.len
      have hdt : dn = true := by
        cases dn
        · obtain ⟨k, hk⟩ := HR.out.1.off rfl
          exact (hk.no2 hdn).elim
        · rfl
      subst hdt
      obtain ⟨ho, B, hB, hM⟩ := HR.out.1.on rfl
      have hi : i = len1 := by
        rcases HR.out.2.2 with q | q | q
        · cases q
        · exact q
        · omega
      subst hi
      have e1 := hdn.2.2
      rw [HE1.out.2.1, hB] at e1
      injection e1 with e1 e2
      subst e1; subst e2
      have HMc := Lib.hid hM
      have HYc : Hid (BoolsAt wc Ao ys) := (BoolsAt.of_own HR.out.1.row).1
      have HXc : Hid (BoolsAt wc Xa ys) := (BoolsAt.of_own (row_do HX9.out HM9.out.blk HR.out.1.chg)).1
      clear ho hB hM hdn HR HX9 HK9 HM9 HEND
      go_wp2_with fail
      refine (bools_any wc Xa Ao ys.length ys.length xc co ys ys HXc.out HYc.out rfl rfl (by have := HXL.out; omega) (by have := HXL.out; omega) true (by simp)).mono ?_
      rintro e w1a ⟨rfl, hx1a⟩
      have HKa := Lib.hid (HKc.out.moved hx1a)
      have HMa := Lib.hid (HMc.out.moved hx1a)
      clear hx1a HKc HMc HYc HXc
      go_wp2_with fail
      refine (ds_graph HKa.out).mono ?_
      rintro e w2a ⟨Ga, fa, rfl, ha⟩
      have HGa := Lib.hid ha
      have HKb := Lib.hid (HKa.out.moved ha.ext)
      have HMb := Lib.hid (HMa.out.moved ha.ext)
      clear ha HKa HMa
      go_wp2_with fail
      refine (da_gedges HGa.out HKb.out.de).mono ?_
      rintro e w3a ⟨A3, c3, rfl, hr3, hx3⟩
      have HR3 := Lib.hid hr3
      have HK3 := Lib.hid (HKb.out.moved hx3)
      have HM3 := Lib.hid (HMb.out.moved hx3)
      clear hr3 hx3 HGa HKb HMb
      go_wp2_with fail
      refine (ds_graph HM3.out).mono ?_
      rintro e w4a ⟨G4, f4, rfl, h4⟩
      have HG4 := Lib.hid h4
      have HK4 := Lib.hid (HK3.out.moved h4.ext)
      have HR4 := Lib.hid (HR3.out.ext h4.ext)
      have HDE := Lib.hid HM3.out.de
      clear h4 HK3 HM3 HR3
      go_wp2_with fail
      refine (da_gedges HG4.out HDE.out).mono ?_
      rintro e w5a ⟨A5, c5, rfl, hr5, hx5⟩
      have HR5 := Lib.hid hr5
      have HK5 := Lib.hid (HK4.out.moved hx5)
      have HR45 := Lib.hid (HR4.out.ext hx5)
      clear hr5 hx5 HG4 HK4 HR4
      go_wp2_with fail
      refine (sedges_any w5a A3 A5 B.length B.length c3 c5 B B HR45.out.1 HR5.out.1 rfl rfl (by have := HDE.out.le; omega) (by have := HDE.out.le; omega) true (by simp)).mono ?_
      rintro e w6a ⟨rfl, hx6⟩
      have HK6 := Lib.hid (HK5.out.moved hx6)
      clear hx6 HK5 HR5 HR45
      go_wp2_with fail
      refine (ds_graph HK6.out).mono ?_
      rintro e w7a ⟨G7, f7, rfl, h7⟩
      have HG7 := Lib.hid h7
      have HK7 := Lib.hid (HK6.out.moved h7.ext)
      clear h7 HK6
      go_wp2_with fail
      refine (da_gedges HG7.out HK7.out.de).mono ?_
      rintro e w8a ⟨A8, c8, rfl, hr8, hx8⟩
      have HR8 := Lib.hid hr8
      have HK8 := Lib.hid (HK7.out.moved hx8)
      clear hr8 hx8 HG7 HK7
      go_wp2_with fail
      refine (ds_do HK8.out a2 len2 cap2 lm HE2.out.2.1 (HE2.out.1.ext HK8.out.ext) HE2.out.2.2).mono ?_
      rintro e w9a ⟨A9, x9, er9, X9, xc9, rfl, hend9, hx9, hk9, hc9⟩
      obtain ⟨ks, hks⟩ := HK8.out.blk
      have HK9 := Lib.hid hk9
      have HR9 := Lib.hid (HR8.out.desk hks hc9)
      have HE9 := Lib.hid hend9
      clear hend9 hx9 hk9 hc9 hks HK8 HR8
      rcases HE9.out with ⟨he, _⟩ | ⟨k9, he, _, hA9, _⟩
      · subst he
        clear HE9
        go_wp2
        go_ret
        exact ⟨rfl, HK9.out.ext⟩
      · subst he
        subst hA9
        clear HE9
        go_wp2_with fail
        refine (ds_graph HK9.out).mono ?_
        rintro e w10 ⟨G10, f10, rfl, h10⟩
        have HG10 := Lib.hid h10
        have HK10 := Lib.hid (HK9.out.moved h10.ext)
        have HR10 := Lib.hid (HR9.out.ext h10.ext)
        clear h10 HK9 HR9
        go_wp2_with fail
        refine (da_gedges HG10.out HK10.out.de).mono ?_
        rintro e w11 ⟨A11, c11, rfl, hr11, hx11⟩
        have HR11 : Hid (RowE w11 A11 c11 A9 ∧ RowE w11 A8 c8 A9) := ⟨hr11, HR10.out.ext hx11⟩
        have HK11 := Lib.hid (HK10.out.moved hx11)
        clear hr11 hx11 HG10 HK10 HR10
        go_wp2_with fail
        refine (sedges_any w11 A11 A8 A9.length A9.length c11 c8 A9 A9 HR11.out.1.1 HR11.out.2.1 rfl rfl (by have := HDE.out.le; omega) (by have := HDE.out.le; omega) true (by simp)).mono ?_
        rintro e w12 ⟨rfl, hx12⟩
        have HX12 : Hid (Ext w w12) := HK11.out.ext.trans hx12
        clear hx12 HK11 HR11
        go_wp2
        go_ret
        exact ⟨rfl, HX12.out⟩
    · subst he
      subst hAk
      have HFK := Lib.hid hfk
      have HXS := Lib.hid hxs
      clear hfk hxs HEND
      go_wp2_with fail
      refine (ds_graph HKc.out).mono ?_
      rintro e w1a ⟨Ga, fa, rfl, ha⟩
      have HGa := Lib.hid ha
      have HKa := Lib.hid (HKc.out.moved ha.ext)
      clear ha HKc
      go_wp2_with fail
      refine (da_gedges HGa.out HKa.out.de).mono ?_
      rintro e w2a ⟨A2, c2, rfl, _, hx2⟩
      have HX2 : Hid (Ext w w2a) := HKa.out.ext.trans hx2
      clear hx2 HGa HKa
      by_cases c2' : 120 < len1
      · have z2 : (120 : Int) < (len1 : Int) := by omega
        clear HR HX9 HK9 HM9
        go_wp2
        go_ret
        exact ⟨rfl, HX2.out⟩
      · have z2 : ¬ (120 : Int) < (len1 : Int) := by omega
        have hdf : dn = false := by
          cases dn
          · rfl
          · obtain ⟨ho, _⟩ := HR.out.1.on rfl
            rcases HR.out.2.2 with q | q | q
            · cases q
            · subst q
              rw [← HE1.out.2.1] at ho
              exact (HFK.out.no (by rw [HE1.out.2.1]; omega) ho).elim
            · exact absurd q c2'
        subst hdf
        clear HR HX9 HK9 HM9
        go_wp2
        go_ret
        exact ⟨rfl, HX2.out⟩
end Go.Proofs.YthgniehfejklhaaGreatDoor
