/-
  Cut and joined a row is itself: the walk of SeqLaws. Condition: the arguments are read as 'IntsAt' says.
-/
import Derived.Test.YtnoekneeefpleaaSqs
namespace Go.Proofs.Ytnoekneeefpleaa
open Go Go.RowKit SQ

theorem row_depth {w : World} {p : Option Addr} {xs : List Int} (h : RowAt w p xs) (hz : xs.length ≤ 1000) (h0 : xs ≠ []) : Calls Try.prog 31 #[.pointer p] w fun e w' => ∃ d : Nat, 1 ≤ d ∧ e = .returned (.int .i64 (d : Nat)) ∧ Ext w w' := by
  obtain ⟨t, h1, rfl⟩ := h
  rw [T.len] at hz
  refine (depth_any t w p h1 hz).mono fun e w' ⟨he, hx⟩ => ⟨t.depth, ?_, he, hx⟩
  cases t with
  | nil => exact absurd rfl h0
  | node l x r => simp only [T.depth]; omega
def DepthPost (w : World) (e : Ending) (w' : World) : Prop := ∃ d : Nat, 1 ≤ d ∧ e = .returned (.int .i64 (d : Nat)) ∧ Ext w w'
theorem row_nil (w : World) : RowAt w none [] := ⟨.nil, rfl, rfl⟩

set_option maxRecDepth 100000 in
set_option maxHeartbeats 1000000 in
theorem sql_walk (a : Option Addr) (n cap : Nat) (xs : List Int) (b : Option Addr) (m cap' : Nat) (ys : List Int) (c : Option Addr) (o cap3 : Nat) (zs : List Int) (i : Int) (w : World) (hx : IntsAt w a xs ∧ xs.length = n ∧ n ≤ cap ∧ cap ≤ maxLen) (hy : IntsAt w b ys ∧ ys.length = m ∧ m ≤ cap' ∧ cap' ≤ maxLen) (hz : IntsAt w c zs ∧ zs.length = o ∧ o ≤ cap3 ∧ cap3 ≤ maxLen) :
    Calls Try.prog 8 #[.slice a n cap, .slice b m cap', .slice c o cap3, .int .i64 i] w fun e w' => e = .returned (.bool true) ∧ Below w.heap.size w w' := by
  obtain ⟨hx1, hx2, hx3, hx4⟩ := hx
  obtain ⟨hy1, hy2, hy3, hy4⟩ := hy
  obtain ⟨hz1, hz2, hz3, hz4⟩ := hz
  unfold maxLen at hx4 hy4 hz4
  have HX := Lib.hid hx1
  have HXL := Lib.hid hx2
  have HY := Lib.hid hy1
  have HYL := Lib.hid hy2
  have HZ := Lib.hid hz1
  have HZL := Lib.hid hz2
  clear hx1 hx2 hy1 hy2 hz1 hz2
  go_enter Try.func8, Try.ntmps8
  go_wp2_with fail
  refine (row_of (xs := [7, 8]) (.inr ⟨w.heap.size, 0, rfl, by simp, fun j v hv => ?_⟩) rfl (by decide)).mono ?_
  · match j, hv with
    | 0, hv => simp at hv; subst hv; simp
    | 1, hv => simp at hv; subst hv; simp
  rintro e w1 ⟨p0, rfl, h0, e0⟩
  have H0 := Lib.hid h0
  have E0 := Lib.hid ((Ext.alloc _ _).trans e0)
  clear h0 e0
  go_wp2_with fail
  refine (row_len H0.out).mono ?_
  rintro e w9 ⟨rfl, rfl⟩
  go_wp2_with fail
  refine (row_depth H0.out (by decide) (by decide)).mono ?_
  rintro e w1b ⟨d, hd, rfl, e1⟩
  have E1 := Lib.hid (E0.out.trans e1)
  have hd' : ¬ (d : Int) < 1 := by omega
  clear e1 H0 E0
  by_cases ha : n ≤ 400
  · go_wp2_with fail
    refine (row_of (HX.out.ext E1.out) HXL.out ha).mono ?_
    rintro e w2 ⟨px, rfl, h1, e1⟩
    have R1 := Lib.hid h1
    have E2 := Lib.hid (E1.out.trans e1)
    clear h1 e1 E1
    by_cases hb : m ≤ 400
    · go_wp2_with fail
      refine (row_of (HY.out.ext E2.out) HYL.out hb).mono ?_
      rintro e w3 ⟨py, rfl, h2, e2⟩
      have R2 := Lib.hid h2
      have R1' := Lib.hid (R1.out.ext e2)
      have E3 := Lib.hid (E2.out.trans e2)
      clear h2 e2 R1 E2
      by_cases hc : o ≤ 400
      · go_wp2_with fail
        refine (row_of (HZ.out.ext E3.out) HZL.out hc).mono ?_
        rintro e w4 ⟨pz, rfl, h3, e3⟩
        have Q3 := Lib.hid h3
        have Q1 := Lib.hid (R1'.out.ext e3)
        have Q2 := Lib.hid (R2.out.ext e3)
        have E4 := Lib.hid (E3.out.trans e3)
        clear h3 e3 R1' R2 E3
        by_cases hi : i < 0 ∨ (xs.length : Int) < i
        · go_wp2_with fail
          refine (row_split_no Q1.out i hi).mono ?_
          rintro e w9 ⟨rfl, rfl⟩
          clear hi
          have HW := Lib.hid (Ext.refl w4)
          by_cases hxy : xs.length + ys.length ≤ 400
          · go_wp2_with fail
            refine (row_join (Q1.out.ext HW.out) (Q2.out.ext HW.out) hxy).mono ?_
            rintro e v1 ⟨pxy, rfl, hxy1, f1⟩
            have X1 := Lib.hid hxy1
            have F1 := Lib.hid (HW.out.trans f1)
            clear hxy1 f1 HW
            by_cases hyz : ys.length + zs.length ≤ 400
            · go_wp2_with fail
              refine (row_join (Q2.out.ext F1.out) (Q3.out.ext F1.out) hyz).mono ?_
              rintro e v2 ⟨pyz, rfl, hyz1, f2⟩
              have X2 := Lib.hid hyz1
              have X1' := Lib.hid (X1.out.ext f2)
              have F2 := Lib.hid (F1.out.trans f2)
              clear hyz1 f2 F1 X1
              by_cases hall : xs.length + ys.length + zs.length ≤ 400
              · go_wp2_with fail
                refine (row_join X1'.out (Q3.out.ext F2.out) (by simp only [List.length_append]; omega)).mono ?_
                rintro e v3 ⟨pp, rfl, hp1, f3⟩
                obtain ⟨L, hL⟩ : ∃ L, L = xs ++ ys ++ zs := ⟨_, rfl⟩
                have hLL : L.length ≤ 400 := by rw [hL]; simp only [List.length_append]; omega
                have HLe := Lib.hid hL
                rw [← hL] at hp1
                clear hL
                have X3 := Lib.hid hp1
                have X2' := Lib.hid (X2.out.ext f3)
                have F3 := Lib.hid (F2.out.trans f3)
                clear hp1 f3 F2 X2
                go_wp2_with fail
                refine (row_join (Q1.out.ext F3.out) X2'.out (by simp only [List.length_append]; omega)).mono ?_
                rintro e v4 ⟨pq, rfl, hq1, f4⟩
                rw [← List.append_assoc, ← HLe.out] at hq1
                have X4 := Lib.hid hq1
                have X3' := Lib.hid (X3.out.ext f4)
                have F4 := Lib.hid (F3.out.trans f4)
                clear hq1 f4 F3 X3
                go_wp2_with fail
                refine (row_list X3'.out (by omega)).mono ?_
                rintro e v5 ⟨A1, d1, rfl, ho1, f5, _⟩
                have O1 := Lib.hid (IntsAt.of_own ho1).1
                have X4' := Lib.hid (X4.out.ext f5)
                have F5 := Lib.hid (F4.out.trans f5)
                clear ho1 f5 F4 X4
                go_wp2_with fail
                refine (row_list X4'.out (by omega)).mono ?_
                rintro e v6 ⟨A2, d2, rfl, ho2, f6, _⟩
                have O2 := Lib.hid (IntsAt.of_own ho2).1
                have O1' := Lib.hid (O1.out.ext f6)
                have F6 := Lib.hid (F5.out.trans f6)
                clear ho2 f6 F5 O1
                go_wp2_with fail
                refine (ints_any v6 A1 A2 L.length L.length d1 d2 L L O1'.out O2.out rfl rfl (by omega) (by omega) true (by simp)).mono ?_
                rintro e v7 ⟨rfl, f7⟩
                have F7 := Lib.hid (F6.out.trans f7)
                clear f7
                go_wp2
                go_quiet (fail)
                go_wp2
                go_ret
                exact ⟨rfl, E4.out.trans (F7.out.trans (Ext.drewN _ _))⟩
              · go_wp2_with fail
                refine (row_join_no X1'.out (Q3.out.ext F2.out) (by simp only [List.length_append]; omega) (by rw [HZL.out]; exact hc) (by simp only [List.length_append]; omega)).mono ?_
                rintro e v9 ⟨rfl, rfl⟩
                go_wp2_with fail
                refine (row_join_no (Q1.out.ext F2.out) X2.out (by rw [HXL.out]; exact ha) (by simp only [List.length_append]; omega) (by simp only [List.length_append]; omega)).mono ?_
                rintro e v9 ⟨rfl, rfl⟩
                go_wp2_with fail
                refine (row_list (row_nil v2) (by decide)).mono ?_
                rintro e v5 ⟨A1, d1, rfl, ho1, f5, _⟩
                have O1 := Lib.hid (IntsAt.of_own ho1).1
                have F5 := Lib.hid (F2.out.trans f5)
                clear ho1 f5
                go_wp2_with fail
                refine (row_list (row_nil v5) (by decide)).mono ?_
                rintro e v6 ⟨A2, d2, rfl, ho2, f6, _⟩
                have O2 := Lib.hid (IntsAt.of_own ho2).1
                have O1' := Lib.hid (O1.out.ext f6)
                have F6 := Lib.hid (F5.out.trans f6)
                clear ho2 f6 F5 O1
                go_wp2_with fail
                refine (ints_any v6 A1 A2 0 0 d1 d2 [] [] O1'.out O2.out rfl rfl (by decide) (by decide) true (by simp)).mono ?_
                rintro e v7 ⟨rfl, f7⟩
                have F7 := Lib.hid (F6.out.trans f7)
                clear f7
                go_wp2
                go_quiet (fail)
                go_wp2
                go_ret
                exact ⟨rfl, E4.out.trans (F7.out.trans (Ext.drewN _ _))⟩
            · go_wp2_with fail
              refine (row_join_no (Q2.out.ext F1.out) (Q3.out.ext F1.out) (by rw [HYL.out]; exact hb) (by rw [HZL.out]; exact hc) (by omega)).mono ?_
              rintro e v9 ⟨rfl, rfl⟩
              go_wp2
              go_ret
              exact ⟨rfl, E4.out.trans F1.out⟩
          · go_wp2_with fail
            refine (row_join_no (Q1.out.ext HW.out) (Q2.out.ext HW.out) (by rw [HXL.out]; exact ha) (by rw [HYL.out]; exact hb) (by omega)).mono ?_
            rintro e v9 ⟨rfl, rfl⟩
            go_wp2_with fail
            refine (row_join_some (Q2.out.ext HW.out) (Q3.out.ext HW.out) (by rw [HYL.out]; exact hb) (by rw [HZL.out]; exact hc)).mono ?_
            rintro e v2 ⟨u1, u2, rfl, f2⟩
            have F2 := Lib.hid (HW.out.trans f2)
            clear f2
            go_wp2
            go_ret
            exact ⟨rfl, E4.out.trans F2.out⟩
        · obtain ⟨i, rfl⟩ := Int.eq_ofNat_of_zero_le (show 0 ≤ i by omega)
          have HI : Hid (i ≤ xs.length) := by unfold Hid; omega
          clear hi
          go_wp2_with fail
          refine (row_split Q1.out (by rw [HXL.out]; exact ha) i HI.out).mono ?_
          rintro e w5 ⟨pl, ph, rfl, hl, hh, e5⟩
          have HL := Lib.hid hl
          have HH := Lib.hid hh
          have E5 := Lib.hid e5
          clear hl hh e5
          go_wp2_with fail
          refine (row_join HL.out HH.out (by have h1 := HXL.out; have h2 := HI.out; simp only [List.length_take, List.length_drop]; omega)).mono ?_
          rintro e w6 ⟨pb, rfl, hbk, e6⟩
          have HB : Hid (RowAt w6 pb xs) := by unfold Hid; rw [List.take_append_drop] at hbk; exact hbk
          have HL' := Lib.hid (HL.out.ext e6)
          have E6 := Lib.hid (E5.out.trans e6)
          clear hbk e6 HL HH E5
          go_wp2_with fail
          refine (row_list HB.out (by rw [HXL.out]; omega)).mono ?_
          rintro e w7 ⟨A1, d1, rfl, ho1, e7, _⟩
          have O1 := Lib.hid (IntsAt.of_own ho1).1
          have HL2 := Lib.hid (HL'.out.ext e7)
          have E7 := Lib.hid (E6.out.trans e7)
          clear ho1 e7 HL' E6
          go_wp2_with fail
          refine (ints_any w7 A1 a xs.length n d1 cap xs xs O1.out (HX.out.ext (E4.out.trans E7.out)) rfl HXL.out (by rw [HXL.out]; omega) (by omega) true (by simp)).mono ?_
          rintro e w8 ⟨rfl, e8⟩
          have HL3 := Lib.hid (HL2.out.ext e8)
          have HW := Lib.hid (E7.out.trans e8)
          clear e8 HL2 E7
          go_wp2_with fail
          refine (row_len HL3.out).mono ?_
          rintro e w9 ⟨rfl, rfl⟩
          rw [show (xs.take i).length = i from by have := HI.out; simp only [List.length_take]; omega]
          clear HL3 HB O1 HI
          by_cases hxy : xs.length + ys.length ≤ 400
          · go_wp2_with fail
            refine (row_join (Q1.out.ext HW.out) (Q2.out.ext HW.out) hxy).mono ?_
            rintro e v1 ⟨pxy, rfl, hxy1, f1⟩
            have X1 := Lib.hid hxy1
            have F1 := Lib.hid (HW.out.trans f1)
            clear hxy1 f1 HW
            by_cases hyz : ys.length + zs.length ≤ 400
            · go_wp2_with fail
              refine (row_join (Q2.out.ext F1.out) (Q3.out.ext F1.out) hyz).mono ?_
              rintro e v2 ⟨pyz, rfl, hyz1, f2⟩
              have X2 := Lib.hid hyz1
              have X1' := Lib.hid (X1.out.ext f2)
              have F2 := Lib.hid (F1.out.trans f2)
              clear hyz1 f2 F1 X1
              by_cases hall : xs.length + ys.length + zs.length ≤ 400
              · go_wp2_with fail
                refine (row_join X1'.out (Q3.out.ext F2.out) (by simp only [List.length_append]; omega)).mono ?_
                rintro e v3 ⟨pp, rfl, hp1, f3⟩
                obtain ⟨L, hL⟩ : ∃ L, L = xs ++ ys ++ zs := ⟨_, rfl⟩
                have hLL : L.length ≤ 400 := by rw [hL]; simp only [List.length_append]; omega
                have HLe := Lib.hid hL
                rw [← hL] at hp1
                clear hL
                have X3 := Lib.hid hp1
                have X2' := Lib.hid (X2.out.ext f3)
                have F3 := Lib.hid (F2.out.trans f3)
                clear hp1 f3 F2 X2
                go_wp2_with fail
                refine (row_join (Q1.out.ext F3.out) X2'.out (by simp only [List.length_append]; omega)).mono ?_
                rintro e v4 ⟨pq, rfl, hq1, f4⟩
                rw [← List.append_assoc, ← HLe.out] at hq1
                have X4 := Lib.hid hq1
                have X3' := Lib.hid (X3.out.ext f4)
                have F4 := Lib.hid (F3.out.trans f4)
                clear hq1 f4 F3 X3
                go_wp2_with fail
                refine (row_list X3'.out (by omega)).mono ?_
                rintro e v5 ⟨A1, d1, rfl, ho1, f5, _⟩
                have O1 := Lib.hid (IntsAt.of_own ho1).1
                have X4' := Lib.hid (X4.out.ext f5)
                have F5 := Lib.hid (F4.out.trans f5)
                clear ho1 f5 F4 X4
                go_wp2_with fail
                refine (row_list X4'.out (by omega)).mono ?_
                rintro e v6 ⟨A2, d2, rfl, ho2, f6, _⟩
                have O2 := Lib.hid (IntsAt.of_own ho2).1
                have O1' := Lib.hid (O1.out.ext f6)
                have F6 := Lib.hid (F5.out.trans f6)
                clear ho2 f6 F5 O1
                go_wp2_with fail
                refine (ints_any v6 A1 A2 L.length L.length d1 d2 L L O1'.out O2.out rfl rfl (by omega) (by omega) true (by simp)).mono ?_
                rintro e v7 ⟨rfl, f7⟩
                have F7 := Lib.hid (F6.out.trans f7)
                clear f7
                go_wp2
                go_quiet (fail)
                go_wp2
                go_ret
                exact ⟨rfl, E4.out.trans (F7.out.trans (Ext.drewN _ _))⟩
              · go_wp2_with fail
                refine (row_join_no X1'.out (Q3.out.ext F2.out) (by simp only [List.length_append]; omega) (by rw [HZL.out]; exact hc) (by simp only [List.length_append]; omega)).mono ?_
                rintro e v9 ⟨rfl, rfl⟩
                go_wp2_with fail
                refine (row_join_no (Q1.out.ext F2.out) X2.out (by rw [HXL.out]; exact ha) (by simp only [List.length_append]; omega) (by simp only [List.length_append]; omega)).mono ?_
                rintro e v9 ⟨rfl, rfl⟩
                go_wp2_with fail
                refine (row_list (row_nil v2) (by decide)).mono ?_
                rintro e v5 ⟨A1, d1, rfl, ho1, f5, _⟩
                have O1 := Lib.hid (IntsAt.of_own ho1).1
                have F5 := Lib.hid (F2.out.trans f5)
                clear ho1 f5
                go_wp2_with fail
                refine (row_list (row_nil v5) (by decide)).mono ?_
                rintro e v6 ⟨A2, d2, rfl, ho2, f6, _⟩
                have O2 := Lib.hid (IntsAt.of_own ho2).1
                have O1' := Lib.hid (O1.out.ext f6)
                have F6 := Lib.hid (F5.out.trans f6)
                clear ho2 f6 F5 O1
                go_wp2_with fail
                refine (ints_any v6 A1 A2 0 0 d1 d2 [] [] O1'.out O2.out rfl rfl (by decide) (by decide) true (by simp)).mono ?_
                rintro e v7 ⟨rfl, f7⟩
                have F7 := Lib.hid (F6.out.trans f7)
                clear f7
                go_wp2
                go_quiet (fail)
                go_wp2
                go_ret
                exact ⟨rfl, E4.out.trans (F7.out.trans (Ext.drewN _ _))⟩
            · go_wp2_with fail
              refine (row_join_no (Q2.out.ext F1.out) (Q3.out.ext F1.out) (by rw [HYL.out]; exact hb) (by rw [HZL.out]; exact hc) (by omega)).mono ?_
              rintro e v9 ⟨rfl, rfl⟩
              go_wp2
              go_ret
              exact ⟨rfl, E4.out.trans F1.out⟩
          · go_wp2_with fail
            refine (row_join_no (Q1.out.ext HW.out) (Q2.out.ext HW.out) (by rw [HXL.out]; exact ha) (by rw [HYL.out]; exact hb) (by omega)).mono ?_
            rintro e v9 ⟨rfl, rfl⟩
            go_wp2_with fail
            refine (row_join_some (Q2.out.ext HW.out) (Q3.out.ext HW.out) (by rw [HYL.out]; exact hb) (by rw [HZL.out]; exact hc)).mono ?_
            rintro e v2 ⟨u1, u2, rfl, f2⟩
            have F2 := Lib.hid (HW.out.trans f2)
            clear f2
            go_wp2
            go_ret
            exact ⟨rfl, E4.out.trans F2.out⟩
      · go_wp2_with fail
        refine (of_no _ c o cap3 (by omega)).mono ?_
        rintro e w4 ⟨rfl, rfl⟩
        go_wp2
        go_ret
        exact ⟨rfl, E3.out⟩
    · go_wp2_with fail
      refine (of_no _ b m cap' (by omega)).mono ?_
      rintro e w3 ⟨rfl, rfl⟩
      go_wp2_with fail
      refine (of_some _ c o cap3 zs (HZ.out.ext E2.out) HZL.out).mono ?_
      rintro e w4 ⟨v1, v2, rfl, e4⟩
      have E4 := Lib.hid (E2.out.trans e4)
      clear e4
      go_wp2
      go_ret
      exact ⟨rfl, E4.out⟩
  · go_wp2_with fail
    refine (of_no _ a n cap (by omega)).mono ?_
    rintro e w2 ⟨rfl, rfl⟩
    go_wp2_with fail
    refine (of_some _ b m cap' ys (HY.out.ext E1.out) HYL.out).mono ?_
    rintro e w3 ⟨v1, v2, rfl, e3⟩
    have E3 := Lib.hid (E1.out.trans e3)
    clear e3
    go_wp2_with fail
    refine (of_some _ c o cap3 zs (HZ.out.ext E3.out) HZL.out).mono ?_
    rintro e w4 ⟨v3, v4, rfl, e4⟩
    have E4 := Lib.hid (E3.out.trans e4)
    clear e4
    go_wp2
    go_ret
    exact ⟨rfl, E4.out⟩
end Go.Proofs.Ytnoekneeefpleaa
