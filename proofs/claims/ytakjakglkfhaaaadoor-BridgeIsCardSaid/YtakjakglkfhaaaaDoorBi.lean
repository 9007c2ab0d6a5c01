/-
  BridgeIs' walk. Conditions: the edges lie in memory as 'EdsAt' says; errors.errorType's cell.
-/
import Derived.Test.YtakjakglkfhaaaaDoorRb3
import Derived.Test.YtakjakglkfhaaaaDoorBk2
import Derived.Test.YtakjakglkfhaaaaDoorTd2
namespace Go.Proofs.YtakjakglkfhaaaaDoor
open Go Go.RowKit PT
set_option linter.unusedVariables false

theorem same_err (w : World) (x e : Int) (hg : Td.Door w) (r : Bool) (hr : (x == e) = r) : Calls Tryd.prog 11 #[errOf x, .int .i64 e] w fun z w' => z = .returned (.bool r) ∧ Below w.heap.size w w' := by
  by_cases h : x = 0
  · subst h
    exact same_nil w e r hr
  · rw [errOf_n h]
    exact same_errno w x e hg r hr
/-- The walker's parts are the references'. -/
theorem pts_parts {n : Nat} {l : List AK.Ed} {es : List (Nat × Nat)} {p : List Int} {q : List Nat} (hp : DF.Pts n l p) (hq : IsParts n es q) (he : ∀ x y, PD.adj l x y ↔ (x, y) ∈ es ∨ (y, x) ∈ es) : p = q.map fun (x : Nat) => (x : Int) := by
  apply List.ext_getElem?
  intro i
  by_cases hi : i < n
  · obtain ⟨r, h1, h2, h3⟩ := hp.pa i hi
    obtain ⟨v, hv, v1, v2⟩ := hq.get hi
    have a1 : v ≤ r := hq.least hv (by omega) ((DF.con_iff he i r).2 (.symm h3))
    obtain ⟨r', k1, k2, _⟩ := hp.pa v (by omega)
    have a2 := hp.same ((DF.con_iff he i v).1 v2)
    have e : r = v := by omega
    have hpi : p[i]? = some (PD.g p i) := by
      rw [List.getElem?_eq_getElem (by rw [hp.len]; exact hi), PD.g, List.getD_eq_getElem?_getD, List.getElem?_eq_getElem (by rw [hp.len]; exact hi)]; rfl
    rw [hpi, h1, List.getElem?_map, hv, e]; rfl
  · rw [List.getElem?_eq_none (by rw [hp.len]; omega), List.getElem?_eq_none (by rw [List.length_map, hq.len]; omega)]
theorem ints_nil (w : World) : IntsAt w none [] := .inl rfl
theorem eds_nil (w : World) : EdsAt w none [] := .inl rfl
set_option maxRecDepth 100000 in
set_option maxHeartbeats 8000000 in
theorem bi_walk (n : Int) (A : Option Addr) (m c : Nat) (l : List AK.Ed) (w : World) (hd : Td.Door w) (hs : EdsAt w A l ∧ l.length = m ∧ m ≤ c ∧ c ≤ maxLen) :
    Calls Tryd.prog 5 #[.int .i64 n, .slice A m c] w fun e w' => e = .returned (.bool true) ∧ Below w.heap.size w w' := by
  obtain ⟨hs, hlm, hmc, hcm⟩ := hs
  have HMC : Hid (c ≤ maxLen) := hcm
  unfold maxLen at hcm
  have H := Lib.hid hs
  have HL := Lib.hid hlm
  have HD := Lib.hid hd
  have hm63 : m ≤ 9223372036854775807 := by omega
  clear hs hlm hd
  go_enter Tryd.func5, Tryd.ntmps5
  go_wp2_with fail
  refine (edgesFault_any w n A m c l HL.out hm63 H.out).mono ?_
  rintro e w1 ⟨rfl, hx1⟩
  have HX1 : Hid (Ext w w1) := hx1
  clear hx1
  go_wp2_with fail
  refine (check_any w1 n A m c l HL.out hm63 (H.out.ext HX1.out)).mono ?_
  rintro e w2 ⟨rfl, hx2⟩
  have HX2 : Hid (Ext w w2) := Ext.trans HX1.out hx2
  clear hx2 HX1
  by_cases h0 : (edgF n l).2 = 0
  · obtain ⟨k, rfl, hk0, hk60, hf⟩ := fine_ok h0
    obtain ⟨_, _, hl200, hok, hpw⟩ := edgF_iff.1 h0
    have HOK := Lib.hid hok
    have HPW := Lib.hid hpw
    have H0 := Lib.hid h0
    rw [h0]
    obtain ⟨z, hz⟩ : ∃ t, (edgF (k : Int) l).1 = t := ⟨_, rfl⟩
    rw [hz]
    have hm200 : m ≤ 200 := by have := HL.out; omega
    clear hf h0 hl200 hok hpw hz
    go_wp2_with fail
    refine (same_err w2 0 0 (HD.out.new HX2.out) true rfl).mono ?_
    rintro e w3 ⟨rfl, hx3⟩
    have HX3 : Hid (Ext w w3) := Ext.trans HX2.out hx3
    clear hx3 HX2
    go_wp2_with fail
    refine (bridgesOf_any w3 k A m c l HL.out hm200 hmc HMC.out (H.out.ext HX3.out) hk0 hk60 HOK.out HPW.out).mono ?_
    rintro e w4 ⟨A4, c4, x4, rfl, he4, hl4, hx4, hb4⟩
    have HX4 : Hid (Ext w w4) := Ext.trans HX3.out hx4
    have HE4 := Lib.hid he4
    have HB4 := Lib.hid hb4
    obtain ⟨l4, hl4e⟩ : ∃ t, x4.length = t := ⟨_, rfl⟩
    rw [hl4e] at hl4 ⊢
    have HL4 := Lib.hid hl4e
    clear hx4 he4 hb4 hl4e HX3
    go_wp2_with fail
    refine (jointsOf_any w4 k A m c l HL.out hm200 (H.out.ext HX4.out) hk0 hk60 HOK.out).mono ?_
    rintro e w5 ⟨A5, c5, x5, rfl, he5, hl5, hx5, hb5⟩
    have HX5 : Hid (Ext w w5) := Ext.trans HX4.out hx5
    have HX45 : Hid (Ext w4 w5) := hx5
    have HE5 := Lib.hid he5
    have HB5 := Lib.hid hb5
    obtain ⟨l5, hl5e⟩ : ∃ t, x5.length = t := ⟨_, rfl⟩
    rw [hl5e] at hl5 ⊢
    have HL5 := Lib.hid hl5e
    clear hx5 he5 hb5 hl5e HX4
    go_wp2_with fail
    refine (parts_any w5 A k m c l HL.out hk0 (by omega) (by omega) (H.out.ext HX5.out) (inn_fine HOK.out)).mono ?_
    rintro e w6 ⟨p, gp, cp, rfl, hrow, hip, hb6, _⟩
    have HI6 := Lib.hid (natv_ints hrow)
    have HPP := Lib.hid hip
    have HX6 : Hid (Ext w w6) := Ext.trans HX5.out hb6
    have HX56 : Hid (Ext w5 w6) := hb6
    clear hrow hip hb6 HX5
    go_wp2_with fail
    refine (bridges_any w6 k A m c l HL.out hm63 (H.out.ext HX6.out)).mono ?_
    intro e w7 hp
    obtain ⟨hx7, ⟨h0, _⟩ | ⟨_, k', A7, c7, x7, hkk, rfl, he7, _, hl7, hb7⟩⟩ := hp
    · exact absurd H0.out h0
    obtain rfl : k = k' := by omega
    obtain rfl := HB4.out.uniq hb7
    have HX7 : Hid (Ext w w7) := Ext.trans HX6.out hx7
    have HE7 := Lib.hid he7
    have HE4' : Hid (EdsAt w7 A4 x4) := HE4.out.ext (Ext.trans HX45.out (Ext.trans HX56.out hx7))
    have HE5' : Hid (IntsAt w7 A5 x5) := HE5.out.ext (Ext.trans HX56.out hx7)
    have HI7 : Hid (IntsAt w7 (some ⟨gp, 0, none⟩) (p.map fun (x : Nat) => (x : Int))) := HI6.out.1.ext hx7
    have HPL : Hid (p.length = k) := HI6.out.2
    rw [HL4.out]
    clear hx7 he7 hb7 hkk HE4 HE5 HI6 HX6 HX45 HX56 HB4
    go_wp2_with fail
    refine (same_err w7 0 0 (HD.out.new HX7.out) true rfl).mono ?_
    rintro e w8 ⟨rfl, hx8⟩
    have HX8 : Hid (Ext w w8) := Ext.trans HX7.out hx8
    have HX78 : Hid (Ext w7 w8) := hx8
    clear hx8 HX7
    go_wp2_with fail
    refine (sedges_any w8 A7 A4 l4 l4 c7 c4 x4 x4 (HE7.out.ext HX78.out) (HE4'.out.ext HX78.out) HL4.out HL4.out (by omega) (by omega) true (by simp)).mono ?_
    rintro e w9 ⟨rfl, hx9⟩
    have HX9 : Hid (Ext w w9) := Ext.trans HX8.out hx9
    have HX79 : Hid (Ext w7 w9) := Ext.trans HX78.out hx9
    clear hx9 HX8 HX78 HE7 HE4'
    go_wp2_with fail
    refine (joints_any w9 k A m c l HL.out hm63 (H.out.ext HX9.out)).mono ?_
    intro e w10 hp
    obtain ⟨hx10, ⟨h0, _⟩ | ⟨_, k', A10, c10, x10, hkk, rfl, he10, _, _, hb10⟩⟩ := hp
    · exact absurd H0.out h0
    obtain rfl : k = k' := by omega
    obtain rfl := HB5.out.uniq hb10
    have HX10 : Hid (Ext w w10) := Ext.trans HX9.out hx10
    have HX710 : Hid (Ext w7 w10) := Ext.trans HX79.out hx10
    have HE10 := Lib.hid he10
    rw [HL5.out]
    clear hx10 he10 hb10 hkk HX9 HX79 HB5
    go_wp2_with fail
    refine (same_err w10 0 0 (HD.out.new HX10.out) true rfl).mono ?_
    rintro e w11 ⟨rfl, hx11⟩
    have HX11 : Hid (Ext w w11) := Ext.trans HX10.out hx11
    have HX1011 : Hid (Ext w10 w11) := hx11
    clear hx11 HX10
    go_wp2_with fail
    refine (ints_any w11 A10 A5 l5 l5 c10 c5 x5 x5 (HE10.out.ext HX1011.out) (HE5'.out.ext (Ext.trans HX710.out HX1011.out)) HL5.out HL5.out (by omega) (by omega) true (by simp)).mono ?_
    rintro e w12 ⟨rfl, hx12⟩
    have HX12 : Hid (Ext w w12) := Ext.trans HX11.out hx12
    have HX712 : Hid (Ext w7 w12) := Ext.trans HX710.out (Ext.trans HX1011.out hx12)
    clear hx12 HX11 HX1011 HX710 HE10 HE5'
    go_wp2_with fail
    refine (bparts_any w12 k A m c l HL.out hm63 (H.out.ext HX12.out)).mono ?_
    intro e w13 hp
    obtain ⟨hx13, ⟨h0, _⟩ | ⟨_, k', A13, p13, hkk, rfl, he13, hb13⟩⟩ := hp
    · exact absurd H0.out h0
    obtain rfl : k = k' := by omega
    obtain rfl := pts_parts hb13 HPP.out (prs_iff (inn_fine HOK.out))
    have HX13 : Hid (Ext w w13) := Ext.trans HX12.out hx13
    have HX713 : Hid (Ext w7 w13) := Ext.trans HX712.out hx13
    have HE13 := Lib.hid he13
    clear hx13 he13 hb13 hkk HX12 HX712
    go_wp2_with fail
    refine (same_err w13 0 0 (HD.out.new HX13.out) true rfl).mono ?_
    rintro e w14 ⟨rfl, hx14⟩
    have HX14 : Hid (Ext w w14) := Ext.trans HX13.out hx14
    have HX1314 : Hid (Ext w13 w14) := hx14
    clear hx14 HX13
    go_wp2_with fail
    refine (ints_any w14 A13 (some ⟨gp, 0, none⟩) k k k cp _ _ (HE13.out.ext HX1314.out) (HI7.out.ext (Ext.trans HX713.out HX1314.out)) (by rw [List.length_map]; exact HPL.out) (by rw [List.length_map]; exact HPL.out) (by omega) (by omega) true (by simp)).mono ?_
    rintro e w15 ⟨rfl, hx15⟩
    have HX15 : Hid (Ext w w15) := Ext.trans HX14.out hx15
    clear hx15
    go_wp2
    go_ret
    exact ⟨rfl, HX15.out⟩
  · obtain ⟨z, y, hz⟩ : ∃ z y, edgF n l = (z, y) := ⟨_, _, rfl⟩
    rw [hz] at h0 ⊢
    have HZ := Lib.hid hz
    have h0' : (y == 0) = false := by simpa using h0
    have H0 : Hid (y ≠ 0) := h0
    clear h0 hz
    go_wp2_with fail
    refine (same_err w2 y y (HD.out.new HX2.out) true (by simp)).mono ?_
    rintro e w3 ⟨rfl, hx3⟩
    have HX3 : Hid (Ext w w3) := Ext.trans HX2.out hx3
    clear hx3 HX2
    go_wp2_with fail
    refine (bridges_any w3 n A m c l HL.out hm63 (H.out.ext HX3.out)).mono ?_
    intro e w7 hp
    obtain ⟨hx7, ⟨_, rfl⟩ | ⟨h0, _⟩⟩ := hp
    case inr => exact absurd (by rw [HZ.out] at h0; exact h0) H0.out
    have HX7 : Hid (Ext w w7) := Ext.trans HX3.out hx7
    rw [HZ.out]
    clear hx7 HX3
    go_wp2_with fail
    refine (same_err w7 y y (HD.out.new HX7.out) true (by simp)).mono ?_
    rintro e w8 ⟨rfl, hx8⟩
    have HX8 : Hid (Ext w w8) := Ext.trans HX7.out hx8
    clear hx8 HX7
    go_wp2_with fail
    refine (sedges_any w8 none none 0 0 0 0 [] [] (eds_nil _) (eds_nil _) rfl rfl (by omega) (by omega) true (by simp)).mono ?_
    rintro e w9 ⟨rfl, hx9⟩
    have HX9 : Hid (Ext w w9) := Ext.trans HX8.out hx9
    clear hx9 HX8
    go_wp2_with fail
    refine (joints_any w9 n A m c l HL.out hm63 (H.out.ext HX9.out)).mono ?_
    intro e w10 hp
    obtain ⟨hx10, ⟨_, rfl⟩ | ⟨h0, _⟩⟩ := hp
    case inr => exact absurd (by rw [HZ.out] at h0; exact h0) H0.out
    have HX10 : Hid (Ext w w10) := Ext.trans HX9.out hx10
    rw [HZ.out]
    clear hx10 HX9
    go_wp2_with fail
    refine (same_err w10 y y (HD.out.new HX10.out) true (by simp)).mono ?_
    rintro e w11 ⟨rfl, hx11⟩
    have HX11 : Hid (Ext w w11) := Ext.trans HX10.out hx11
    clear hx11 HX10
    go_wp2_with fail
    refine (ints_any w11 none none 0 0 0 0 [] [] (ints_nil _) (ints_nil _) rfl rfl (by omega) (by omega) true (by simp)).mono ?_
    rintro e w12 ⟨rfl, hx12⟩
    have HX12 : Hid (Ext w w12) := Ext.trans HX11.out hx12
    clear hx12 HX11
    go_wp2_with fail
    refine (bparts_any w12 n A m c l HL.out hm63 (H.out.ext HX12.out)).mono ?_
    intro e w13 hp
    obtain ⟨hx13, ⟨_, rfl⟩ | ⟨h0, _⟩⟩ := hp
    case inr => exact absurd (by rw [HZ.out] at h0; exact h0) H0.out
    have HX13 : Hid (Ext w w13) := Ext.trans HX12.out hx13
    rw [HZ.out]
    clear hx13 HX12
    go_wp2_with fail
    refine (same_err w13 y y (HD.out.new HX13.out) true (by simp)).mono ?_
    rintro e w14 ⟨rfl, hx14⟩
    have HX14 : Hid (Ext w w14) := Ext.trans HX13.out hx14
    clear hx14 HX13
    go_wp2_with fail
    refine (ints_any w14 none none 0 0 0 0 [] [] (ints_nil _) (ints_nil _) rfl rfl (by omega) (by omega) true (by simp)).mono ?_
    rintro e w15 ⟨rfl, hx15⟩
    have HX15 : Hid (Ext w w15) := Ext.trans HX14.out hx15
    clear hx15
    go_wp2
    go_ret
    exact ⟨rfl, HX15.out⟩
end Go.Proofs.YtakjakglkfhaaaaDoor
