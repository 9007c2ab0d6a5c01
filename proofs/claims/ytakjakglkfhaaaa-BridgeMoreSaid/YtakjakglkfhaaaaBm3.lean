/-
  BridgeMore's walk. Conditions: the edges lie in memory as 'EdsAt' says.
-/
import Derived.Test.YtakjakglkfhaaaaBm2
import Derived.Lib.QuietBelow
namespace Go.Proofs.Ytakjakglkfhaaaa
open Go Go.RowKit
set_option linter.unusedVariables false

theorem fsth {w w' : World} {P Q : Prop} (h : Ext w w' ∧ P ∧ Q) : Ext w w' := h.1
set_option maxRecDepth 100000 in
set_option maxHeartbeats 8000000 in
theorem bm_walk (n : Int) (A : Option Addr) (m c : Nat) (l : List AK.Ed) (a b : Int) (w : World) (hs : EdsAt w A l ∧ l.length = m ∧ m ≤ c ∧ c ≤ maxLen) :
    Calls Try.prog 3 #[.int .i64 n, .slice A m c, .int .i64 a, .int .i64 b] w fun e w' => e = .returned (.bool true) ∧ Below w.heap.size w w' := by
  obtain ⟨hs, hlm, hmc, hcm⟩ := hs
  unfold maxLen at hcm
  have H := Lib.hid hs
  have HL := Lib.hid hlm
  have hm63 : m ≤ 9223372036854775807 := by omega
  clear hs hlm
  have HE1 : Hid (EdsAt (w.alloc (.cells #[.int .i64 1, .int .i64 2] 29)) (some ⟨w.heap.size, 0, none⟩) [(1, 2)]) := by
    refine .inr ⟨w.heap.size, 0, rfl, by simp, fun i v hv => ?_⟩
    have hb := Blk.new w 29 #[.int .i64 1, .int .i64 2]
    match i, hv with
    | 0, hv => simp at hv; subst hv; exact ⟨hb.cell 0, hb.cell 1⟩
  go_enter Try.func3, Try.ntmps3
  go_wp2_with fail
  refine (bparts_any _ 3 (some ⟨w.heap.size, 0, none⟩) 1 1 [(1, 2)] rfl (by decide) HE1.out).mono ?_
  intro e w1 hp
  obtain ⟨hx1, ⟨h, _⟩ | ⟨_, k1, A1, p1, hk1, rfl, hi1, hp1⟩⟩ := hp
  · exact absurd (by decide) h
  obtain rfl : k1 = 3 := by omega
  obtain rfl := bm_ex hp1
  have HX1 : Hid (Ext w w1) := Ext.trans (Ext.alloc _ _) hx1
  have HI1 := Lib.hid hi1
  have HI2 : Hid (IntsAt (w1.alloc (.cells #[.int .i64 0, .int .i64 1, .int .i64 1] 3)) (some ⟨w1.heap.size, 0, none⟩) [0, 1, 1]) := by
    refine .inr ⟨w1.heap.size, 0, rfl, by simp, fun i v hv => ?_⟩
    have hb := Blk.new w1 3 #[.int .i64 0, .int .i64 1, .int .i64 1]
    match i, hv with
    | 0, hv => simp at hv; subst hv; exact hb.cell 0
    | 1, hv => simp at hv; subst hv; exact hb.cell 1
    | 2, hv => simp at hv; subst hv; exact hb.cell 2
  clear hx1 hi1 hp1 hk1 HE1
  go_wp2_with fail
  refine (ints_any _ A1 (some ⟨w1.heap.size, 0, none⟩) 3 3 3 3 [0, 1, 1] [0, 1, 1] (HI1.out.ext (Ext.alloc _ _)) HI2.out rfl rfl (by omega) (by omega) true (by simp)).mono ?_
  rintro e w2 ⟨rfl, hx2⟩
  have HX2 : Hid (Ext w w2) := Ext.trans HX1.out (Ext.trans (Ext.alloc _ _) hx2)
  clear hx2 HI1 HI2 HX1
  go_wp2_with fail
  refine (bridges_any w2 n A m c l HL.out hm63 (H.out.ext HX2.out)).mono ?_
  intro e w3 hp
  obtain ⟨hx3, ⟨h0, rfl⟩ | ⟨h0, k, Ax, cx, x, rfl, rfl, hex, hcx, hlx, hbx⟩⟩ := hp
  · have HX3 : Hid (Ext w w3) := Ext.trans HX2.out hx3
    have H0 := Lib.hid h0
    rw [errOf_n h0]
    clear h0 hx3
    go_wp2_with fail
    refine (bparts_any w3 n A m c l HL.out hm63 (H.out.ext HX3.out)).mono ?_
    intro e w4 hp
    obtain ⟨hx4, ⟨h0, rfl⟩ | ⟨h0, _⟩⟩ := hp
    · have HX4 : Hid (∀ q, Ext w (w4.drewN q)) := fun q => Ext.trans (Ext.trans HX3.out hx4) (Ext.drewN _ _)
      rw [errOf_n h0]
      clear h0 hx4
      go_wp2
      go_quiet (fail)
      go_wp2
      go_ret
      exact ⟨rfl, HX4.out _⟩
    · exact absurd h0 H0.out
  have HX3 : Hid (Ext w w3) := Ext.trans HX2.out hx3
  have H0 := Lib.hid h0
  have HEX := Lib.hid hex
  have HBX := Lib.hid hbx
  obtain ⟨lx, hlxe⟩ : ∃ t, x.length = t := ⟨_, rfl⟩
  rw [hlxe] at hcx hlx ⊢
  have HLX := Lib.hid hlxe
  clear h0 hx3 hex hbx hlxe
  go_wp2_with fail
  refine (bparts_any w3 k A m c l HL.out hm63 (H.out.ext HX3.out)).mono ?_
  intro e w4 hp
  obtain ⟨hx4, ⟨h0, _⟩ | ⟨_, k', Ap, p, hkk, rfl, hip, hpp⟩⟩ := hp
  · exact absurd H0.out h0
  obtain rfl : k = k' := by omega
  have HX34 := Lib.hid hx4
  have HX4 : Hid (Ext w w4) := Ext.trans HX3.out hx4
  have HIP := Lib.hid hip
  have HPP := Lib.hid hpp
  clear hx4 hip hpp hkk HX2
  have HOK := Lib.hid (fine_ok H0.out)
  have hk60 : 0 < k ∧ k ≤ 60 := by
    obtain ⟨k', h1, h2, h3, _⟩ := HOK.out
    omega
  have HF : Hid (Fine k l) := by
    obtain ⟨k', h1, h2, h3, h4⟩ := HOK.out
    obtain rfl : k = k' := by omega
    exact h4
  obtain ⟨hk0, hk60⟩ := hk60
  have HQX : Hid (∀ q, Ext w (w4.drewN q)) := fun q => Ext.trans HX4.out (Ext.drewN _ _)
  by_cases a0 : a < 0
  · go_wp2
    go_quiet (fail)
    go_wp2
    go_ret
    exact ⟨rfl, HQX.out _⟩
  by_cases ab : b ≤ a
  · go_wp2
    go_quiet (fail)
    go_wp2
    go_ret
    exact ⟨rfl, HQX.out _⟩
  by_cases bk : (k : Int) ≤ b
  · go_wp2
    go_quiet (fail)
    go_wp2
    go_ret
    exact ⟨rfl, HQX.out _⟩
  obtain ⟨u, rfl⟩ := Int.eq_ofNat_of_zero_le (show 0 ≤ a by omega)
  obtain ⟨v, rfl⟩ := Int.eq_ofNat_of_zero_le (show 0 ≤ b by omega)
  have huv : u < v := by omega
  have hvk : v < k := by omega
  have huk : u < k := by omega
  have HLM : Hid (m ≤ 100000) := by have := HF.out.1; have := HL.out; show m ≤ 100000; omega
  have HPL : Hid (∀ w', Ext w w' → Calls Try.prog 7 #[.slice A m c, .int .i64 (u : Int), .int .i64 (v : Int)] w' fun e w'' => e = .returned (.int .i64 (RF.placeV (RF.place l ((u : Int), (v : Int))))) ∧ Below w'.heap.size w' w'') := fun w' hw' => by
    have := place_any w' A m c l u v HL.out (by have := HLM.out; omega) (H.out.ext hw')
    rwa [ak_ek (by omega)] at this
  have HPP0 : Hid (((u : Int), (v : Int)) ∈ l → 0 ≤ RF.placeV (RF.place l ((u : Int), (v : Int)))) := pl_in
  have HPP1 : Hid (((u : Int), (v : Int)) ∉ l → RF.placeV (RF.place l ((u : Int), (v : Int))) < 0) := pl_out
  obtain ⟨pv, hpv⟩ : ∃ t, RF.placeV (RF.place l ((u : Int), (v : Int))) = t := ⟨_, rfl⟩
  rw [hpv] at HPL HPP0 HPP1
  clear hpv
  by_cases hin : ((u : Int), (v : Int)) ∈ l
  · have hp0 := HPP0.out hin
    clear hin HPP0 HPP1
    go_wp2_with (go_at_call 7; refine (HPL.out _ HX4.out).mono ?_; rintro e w5 ⟨rfl, hb5⟩; have HX5 : Hid (∀ q, Ext w (w5.drewN q)) := fun q => Ext.trans (Ext.trans HX4.out hb5) (Ext.drewN _ _))
    go_quiet (fail)
    go_wp2
    go_ret
    exact ⟨rfl, HX5.out _⟩
  have hp0 := HPP1.out hin
  have hp1 : ¬ 0 ≤ pv := by omega
  have HIN := Lib.hid hin
  clear hin HPP0 HPP1
  by_cases hm2 : 200 ≤ m
  · have hm3 : (200 : Int) ≤ (m : Int) := by omega
    go_wp2_with (go_at_call 7; refine (HPL.out _ HX4.out).mono ?_; rintro e w5 ⟨rfl, hb5⟩; have HX5 : Hid (∀ q, Ext w (w5.drewN q)) := fun q => Ext.trans (Ext.trans HX4.out hb5) (Ext.drewN _ _))
    go_quiet (fail)
    go_wp2
    go_ret
    exact ⟨rfl, HX5.out _⟩
  have hm3 : ¬ (200 : Int) ≤ (m : Int) := by omega
  have HM0 : Hid ((edgF (k : Int) (putE ((u : Int), (v : Int)) l)).2 = 0) := put_fine H0.out (by rw [HL.out]; omega) huv hvk HIN.out
  have HMO : Hid (DF.More l (putE ((u : Int), (v : Int)) l) u v) := put_more HF.out huv HIN.out
  have HML : Hid ((putE ((u : Int), (v : Int)) l).length = m + 1) := by rw [Hid, putE_length, HL.out]
  go_wp2_with (go_at_call 7; refine (HPL.out _ HX4.out).mono ?_; rintro e w5 ⟨rfl, hb5⟩; have HX45 := Lib.hid hb5; have HX5 : Hid (Ext w w5) := Ext.trans HX4.out hb5; clear hb5)
  have hrp := rput_any w5 A m c l u v HL.out (by omega) (H.out.ext HX5.out)
  rw [ak_ek (by omega)] at hrp
  obtain ⟨M, hM⟩ : ∃ t, putE ((u : Int), (v : Int)) l = t := ⟨_, rfl⟩
  rw [hM] at HM0 HMO HML
  refine hrp.mono ?_
  clear hrp
  rintro e w6 ⟨Am, cm, rfl, hem, hcmm, hcmx, hx6⟩
  rw [hM] at hem hcmm ⊢
  obtain ⟨m1, hm1⟩ : ∃ t, M.length = t := ⟨_, rfl⟩
  rw [hm1] at HML hcmm ⊢
  have hm1b : m1 ≤ 201 := by have := HML.out; omega
  have HLM1 := Lib.hid hm1
  have HEM := Lib.hid hem
  have HX6 : Hid (Ext w w6) := Ext.trans HX5.out hx6
  have HX46 : Hid (Ext w4 w6) := Ext.trans HX45.out hx6
  have HFM : Hid (Fine k M) := by
    obtain ⟨k', h1, h2, h3, h4⟩ := fine_ok HM0.out
    obtain rfl : k = k' := by omega
    exact h4
  clear hM hm1 hem hx6 HPL hcmm hcmx HIN hp0 hp1 HQX HOK
  go_wp2_with fail
  refine (bridges_any w6 k Am m1 cm M HLM1.out (by omega) HEM.out).mono ?_
  intro e w7 hp
  obtain ⟨hx7, ⟨h0, _⟩ | ⟨_, k', Ay, cy, y, hkk, rfl, hey, hcy, hly, hby⟩⟩ := hp
  · exact absurd HM0.out h0
  obtain rfl : k = k' := by omega
  have HX67 := Lib.hid hx7
  have HEY := Lib.hid hey
  have HBY := Lib.hid hby
  obtain ⟨ly, hlye⟩ : ∃ t, y.length = t := ⟨_, rfl⟩
  rw [hlye] at hcy hly ⊢
  have HLY := Lib.hid hlye
  clear hx7 hey hby hlye hkk
  go_wp2_with fail
  refine (bparts_any w7 k Am m1 cm M HLM1.out (by omega) (HEM.out.ext HX67.out)).mono ?_
  intro e w8 hp
  obtain ⟨hx8, ⟨h0, _⟩ | ⟨_, k', Aq, q, hkk, rfl, hiq, hqq⟩⟩ := hp
  · exact absurd HM0.out h0
  obtain rfl : k = k' := by omega
  have HX8 : Hid (Ext w w8) := Ext.trans HX6.out (Ext.trans HX67.out hx8)
  have HX48 : Hid (Ext w4 w8) := Ext.trans HX46.out (Ext.trans HX67.out hx8)
  have HEY8 : Hid (EdsAt w8 Ay y) := HEY.out.ext hx8
  have HEX8 : Hid (EdsAt w8 Ax x) := HEX.out.ext (Ext.trans HX34.out HX48.out)
  have HIP8 : Hid (IntsAt w8 Ap p) := HIP.out.ext HX48.out
  have HIQ8 := Lib.hid hiq
  have HQQ := Lib.hid hqq
  clear hx8 hiq hqq hkk HX67 HX6 HX46 HX5 HX45 HX4 HX34 HX3 HEY HEX HIP HEM HX48 H
  go_wp2
  go_loopw [21] (fun v21 wr => ∃ i : Nat, i ≤ ly ∧ v21 = .int .i64 i ∧ Hid (Ext w8 wr)) (fun v21 _ => ly - (intOf v21).toNat)
  case atStart => exact ⟨0, Nat.zero_le _, rfl, Ext.refl _⟩
  case round =>
    obtain ⟨i, hi, rfl, hwr⟩ := hrel
    by_cases hlt : i < ly
    · have hlt' : (i : Int) < (ly : Int) := by omega
      have hi0 : (0 : Int) ≤ (i : Int) := by omega
      obtain ⟨e, he⟩ : ∃ e, y[i]? = some e := ⟨_, List.getElem?_eq_getElem (by rw [HLY.out]; exact hlt)⟩
      have hem := List.mem_of_getElem? he
      have hfe := HBY.out.2.2 e hem
      obtain ⟨e1, e2⟩ := e
      simp only at hfe
      have hor : ((e1, e2) ∈ x) ∨ (e1, e2) = ((u : Int), (v : Int)) := by
        have := HMO.out.brs HBX.out.1 HBY.out.1 hem
        rwa [df_ek huv] at this
      rcases HEY8.out with h0 | ⟨yb, yo, rfl, hyb, hyc⟩
      · subst h0; simp at he
      obtain ⟨c1, c2⟩ := hyc i _ he
      simp only at c1 c2
      have hyb' : yb < wr.heap.size := Nat.lt_of_lt_of_le hyb hwr.out.size
      have HC : Hid (∀ w', Ext wr w' → Ext wr w' ∧ w'.cell? ⟨yb, yo + i * 2, none⟩ = some (.int .i64 e1) ∧ w'.cell? ⟨yb, yo + i * 2 + 1, none⟩ = some (.int .i64 e2)) := fun w' hw => ⟨hw, ((Ext.trans hwr.out hw).cell (p := ⟨yb, _, none⟩) hyb).trans c1, ((Ext.trans hwr.out hw).cell (p := ⟨yb, _, none⟩) hyb).trans c2⟩
      have HPX : Hid (∀ w', Ext wr w' → Calls Try.prog 7 #[.slice Ax lx cx, .int .i64 e1, .int .i64 e2] w' fun e w'' => e = .returned (.int .i64 (RF.placeV (RF.place x (e1, e2)))) ∧ Below w'.heap.size w' w'') := fun w' hw' => by
        have := place_any w' Ax lx cx x e1 e2 HLX.out (by omega) (HEX8.out.ext (Ext.trans hwr.out hw'))
        rwa [ak_ek (by omega)] at this
      have HWr := Lib.hid hwr.out
      have HP0 : Hid ((e1, e2) ∈ x → 0 ≤ RF.placeV (RF.place x (e1, e2))) := pl_in
      have HP1 : Hid ((e1, e2) ∉ x → RF.placeV (RF.place x (e1, e2)) < 0) := pl_out
      obtain ⟨pw, hpw⟩ : ∃ t, RF.placeV (RF.place x (e1, e2)) = t := ⟨_, rfl⟩
      rw [hpw] at HPX HP0 HP1
      obtain ⟨s1, s2⟩ : (∀ d os, (Go.Sort.grow (redrawn wr d) os).cell? ⟨yb, yo + i * 2, none⟩ = some (.int .i64 e1)) ∧ (∀ d os, (Go.Sort.grow (redrawn wr d) os).cell? ⟨yb, yo + i * 2 + 1, none⟩ = some (.int .i64 e2)) := ⟨fun d os => (HC.out _ (below_regrown wr d os)).2.1, fun d os => (HC.out _ (below_regrown wr d os)).2.2⟩
      clear hpw c1 c2 hyc he hem hwr hfe
      by_cases hx : (e1, e2) ∈ x
      · have p0 := HP0.out hx
        have p1 : ¬ pw < 0 := by omega
        have p2 : decide (pw < 0) = false := by simpa using p1
        clear hor hx HP0 HP1
        go_wp2
        refine wp_region_quiet_below (by kernel_rfl) (by kernel_rfl) ?_
        repeat (go_big_quiet_step ((go_at_call 7; exact Calls.regrown_of (HPX.out _ (below_regrown wr _ _)))))
        refine wpQuiet_nil ?_
        intro _ hw'
        obtain ⟨⟨dq, osq⟩, hw''⟩ := hw'
        subst hw''
        have HN : Hid (Ext w8 (Go.Sort.grow (redrawn wr dq) osq)) := Ext.trans HWr.out (below_regrown wr dq osq)
        clear HC HPX s1 s2
        go_wp2
        go_roundw
        case rel => exact ⟨i + 1, by omega, by go_num, HN.out⟩
        case measure => simp [intOf]; omega
      · have p0 := HP1.out hx
        have p2 : decide (pw < 0) = true := by simpa using p0
        obtain ⟨hz1, hz2⟩ := Prod.mk.inj (hor.resolve_left hx)
        clear hor hx HP0 HP1
        subst hz1
        subst hz2
        go_wp2
        refine wp_region_quiet_below (by kernel_rfl) (by kernel_rfl) ?_
        repeat (go_big_quiet_step ((go_at_call 7; exact Calls.regrown_of (HPX.out _ (below_regrown wr _ _)))))
        refine wpQuiet_nil ?_
        intro _ hw'
        obtain ⟨⟨dq, osq⟩, hw''⟩ := hw'
        subst hw''
        have HN : Hid (Ext w8 (Go.Sort.grow (redrawn wr dq) osq)) := Ext.trans HWr.out (below_regrown wr dq osq)
        clear HC HPX s1 s2
        go_wp2
        go_roundw
        case rel => exact ⟨i + 1, by omega, by go_num, HN.out⟩
        case measure => simp [intOf]; omega
    · obtain rfl : ly = i := by omega
      have HPY : Hid (∀ w', Ext w8 w' → Calls Try.prog 7 #[.slice Ay ly cy, .int .i64 (u : Int), .int .i64 (v : Int)] w' fun e w'' => e = .returned (.int .i64 (RF.placeV (RF.place y ((u : Int), (v : Int))))) ∧ Below w'.heap.size w' w'') := fun w' hw' => by
        have := place_any w' Ay ly cy y u v HLY.out (by omega) (HEY8.out.ext hw')
        rwa [ak_ek (by omega)] at this
      have HP0 : Hid (((u : Int), (v : Int)) ∈ y → 0 ≤ RF.placeV (RF.place y ((u : Int), (v : Int)))) := pl_in
      have HP1 : Hid (((u : Int), (v : Int)) ∉ y → RF.placeV (RF.place y ((u : Int), (v : Int))) < 0) := pl_out
      obtain ⟨pw, hpw⟩ : ∃ t, RF.placeV (RF.place y ((u : Int), (v : Int))) = t := ⟨_, rfl⟩
      rw [hpw] at HPY HP0 HP1
      have hjo := HMO.out.joins HBY.out.1 HPP.out huk hvk
      rw [df_ek huv] at hjo
      have HJO := Lib.hid hjo
      have hen := HMO.out.ends HQQ.out
      have HEN := Lib.hid hen
      have HWr := Lib.hid hwr.out
      clear hpw hjo hen hwr HEX8 HBX HLX HEY8
      go_wp2_with fail
      refine (HPY.out wr HWr.out).mono ?_
      rintro e w9 ⟨rfl, hx9⟩
      have HX9 : Hid (Ext w w9) := Ext.trans HX8.out (Ext.trans HWr.out hx9)
      have HIP9 : Hid (IntsAt w9 Ap p) := HIP8.out.ext (Ext.trans HWr.out hx9)
      have HIQ9 : Hid (IntsAt w9 Aq q) := HIQ8.out.ext (Ext.trans HWr.out hx9)
      have HX8w : Hid (Ext w8 w9) := Ext.trans HWr.out hx9
      clear hx9 HPY HIP8 HIQ8 HWr
      obtain ⟨pb, po, rfl, hpb, cu⟩ := ints_get HIP9.out (show u < p.length by rw [HPP.out.len]; exact huk)
      obtain ⟨pb', po', hpe, _, cv⟩ := ints_get HIP9.out (show v < p.length by rw [HPP.out.len]; exact hvk)
      obtain ⟨rfl, rfl⟩ : pb = pb' ∧ po = po' := by simp at hpe; exact hpe
      obtain ⟨qb, qo, rfl, hqb, du⟩ := ints_get HIQ9.out (show u < q.length by rw [HQQ.out.len]; exact huk)
      obtain ⟨qb', qo', hqe, _, dv⟩ := ints_get HIQ9.out (show v < q.length by rw [HQQ.out.len]; exact hvk)
      obtain ⟨rfl, rfl⟩ : qb = qb' ∧ qo = qo' := by simp at hqe; exact hqe
      obtain ⟨gu, hgu⟩ : ∃ t, PD.g p u = t := ⟨_, rfl⟩
      obtain ⟨gv, hgv⟩ : ∃ t, PD.g p v = t := ⟨_, rfl⟩
      obtain ⟨qu, hqu⟩ : ∃ t, PD.g q u = t := ⟨_, rfl⟩
      obtain ⟨qv, hqv⟩ : ∃ t, PD.g q v = t := ⟨_, rfl⟩
      rw [hgu] at cu HJO
      rw [hgv] at cv HJO
      rw [hqu] at du HEN
      rw [hqv] at dv HEN
      have huk' : (u : Int) < (k : Int) := by omega
      have hvk' : (v : Int) < (k : Int) := by omega
      have h0u : (0 : Int) ≤ (u : Int) := by omega
      have h0v : (0 : Int) ≤ (v : Int) := by omega
      obtain rfl := HEN.out
      clear hgu hgv hqu hqv hpe hqe HEN
      have HT : Hid ((decide (0 ≤ pw) = true ∧ (gu != gv) = true) ∨ (decide (0 ≤ pw) = false ∧ (gu != gv) = false)) := by
        by_cases e : gu = gv
        · right
          have := HP1.out (fun z => HJO.out.1 z e)
          exact ⟨by simp; omega, by simp [e]⟩
        · left
          have := HP0.out (HJO.out.2 e)
          exact ⟨by simp; omega, by simpa using e⟩
      clear HP0 HP1 HJO
      rcases HT.out with ⟨t1, t2⟩ | ⟨t1, t2⟩
      all_goals
        clear HT
        go_wp2
        go_quiet (fail)
        have HX10 : Hid (Ext w (w9.drewN nq)) := Ext.trans HX9.out (Ext.drewN _ _)
        have HIP10 : Hid (IntsAt (w9.drewN nq) (some ⟨pb, po, none⟩) p) := HIP9.out.ext (Ext.drewN _ _)
        have HIQ10 : Hid (IntsAt (w9.drewN nq) (some ⟨qb, qo, none⟩) q) := HIQ9.out.ext (Ext.drewN _ _)
        generalize w9.drewN nq = wz at HX10 HIP10 HIQ10 ⊢
        clear cu cv du dv HIP9 HIQ9 HX9 hpb hqb t1 t2 HX8w
        go_wp2
        go_loopw [23] (fun v23 wr => ∃ i : Nat, i ≤ k ∧ v23 = .int .i64 i ∧ Hid (Ext wz wr)) (fun v23 _ => k - (intOf v23).toNat)
        case atStart => exact ⟨0, Nat.zero_le _, rfl, Ext.refl _⟩
        case round =>
          obtain ⟨i, hi, rfl, hwr⟩ := hrel
          by_cases hlt : i < k
          · obtain ⟨r, h1, h2, h3, h4⟩ := HMO.out.parts HPP.out HQQ.out hlt
            obtain ⟨pb2, po2, hp2, _, ci⟩ := ints_get (HIP10.out.ext hwr.out) (show i < p.length by rw [HPP.out.len]; exact hlt)
            obtain ⟨rfl, rfl⟩ : pb = pb2 ∧ po = po2 := by simp at hp2; exact hp2
            obtain ⟨qb2, qo2, hq2, _, di⟩ := ints_get (HIQ10.out.ext hwr.out) (show i < q.length by rw [HQQ.out.len]; exact hlt)
            obtain ⟨rfl, rfl⟩ : qb = qb2 ∧ qo = qo2 := by simp at hq2; exact hq2
            obtain ⟨qb3, qo3, hq3, _, dr⟩ := ints_get (HIQ10.out.ext hwr.out) (show r < q.length by rw [HQQ.out.len]; exact h2)
            obtain ⟨rfl, rfl⟩ : qb = qb3 ∧ qo = qo3 := by simp at hq3; exact hq3
            rw [h1] at ci
            obtain ⟨gi, hgi⟩ : ∃ t, PD.g q i = t := ⟨_, rfl⟩
            rw [hgi] at di h3 h4
            rw [← h4] at dr
            have j1 : ¬ (r : Int) < gi := by omega
            have j2 : decide ((r : Int) < gi) = false := by simpa using j1
            have j3 : (i : Int) < (k : Int) := by omega
            have j4 : (0 : Int) ≤ (i : Int) := by omega
            have j5 : (r : Int) < (k : Int) := by omega
            have j6 : (0 : Int) ≤ (r : Int) := by omega
            have HWr := Lib.hid hwr.out
            clear h1 h2 h3 h4 hp2 hq2 hq3 hgi hwr
            go_wp2
            go_quiet (fail)
            have HN : Hid (Ext wz (wr.drewN nq)) := Ext.trans HWr.out (Ext.drewN _ _)
            go_wp2
            go_roundw
            case rel => exact ⟨i + 1, by omega, by go_num, HN.out⟩
            case measure => simp [intOf]; omega
          · have HE : Hid (Ext w wr) := Ext.trans HX10.out hwr.out
            clear hwr
            go_wp2
            go_ret
            exact ⟨rfl, HE.out⟩
end Go.Proofs.Ytakjakglkfhaaaa
