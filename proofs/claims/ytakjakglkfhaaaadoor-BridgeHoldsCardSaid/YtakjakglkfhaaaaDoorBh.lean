/-
  BridgeHolds' walk. Conditions: the edges lie in memory as 'EdsAt' says; errors.errorType's cell.
-/
import Derived.Test.YtakjakglkfhaaaaDoorBh1
import Derived.Test.YtakjakglkfhaaaaDoorSer
import Derived.Test.YtakjakglkfhaaaaDoorPc5
import Derived.Test.YtakjakglkfhaaaaDoorHas
import Derived.Test.YtakjakglkfhaaaaDoorRbs
import Derived.Deep.RegionHeld3
import Derived.Deep.RegionHeldLaw
import Derived.Lib.QuietBelow
namespace Go.Proofs.YtakjakglkfhaaaaDoor
open Go Go.RowKit
set_option linter.unusedVariables false

theorem fsth {w w' : World} {P Q : Prop} (h : Ext w w' ∧ P ∧ Q) : Ext w w' := h.1
theorem has_yes {w : World} {A : Option Addr} {n c : Nat} {xs : List Int} {x : Int} (hx : IntsAt w A xs) (hn : xs.length = n) (hnb : n ≤ 9223372036854775807) (hm : x ∈ xs) : Calls Tryd.prog 32 #[.slice A n c, .int .i64 x] w fun e w' => e = .returned (.bool true) ∧ w = w' := by
  refine (has_any w A n c xs x hx hn hnb).mono ?_
  rintro e w' ⟨rfl, rfl⟩
  exact ⟨by rw [decide_eq_true hm], rfl⟩
theorem ck_two {n : Nat} {l : List AK.Ed} {u v : Nat} (h : (edgF (n : Int) l).2 = 0) (hu : u < n) (hv : v < n) : ckF (n : Int) l [(u : Int), (v : Int)] = 0 :=
  ckF_ok h (by simp [badN]; omega)
/-- How many edges touch each node, so far. -/
def Many (w8 : World) (k gm : Nat) (l : List AK.Ed) (i : Nat) (wr : World) : Prop := ∃ d : List Int, d.length = k ∧ (∀ v, v < k → PD.g d v = (dg (l.take i) v : Nat)) ∧ DRw w8 k gm k d wr
theorem Many.step {w8 wr : World} {k gm i u v : Nat} {l : List AK.Ed} {d : List Int} (hd : d.length = k) (hg : ∀ v, v < k → PD.g d v = (dg (l.take i) v : Nat)) (hr : DRw w8 k gm k d wr) (hx : l[i]? = some ((u : Int), (v : Int))) (huv : u < v) (hv : v < k) :
    Many w8 k gm l (i + 1) ((wr.setCell ⟨gm, u, none⟩ (.int .i64 ((dg (l.take i) u : Nat) + 1 : Int))).setCell ⟨gm, v, none⟩ (.int .i64 ((dg (l.take i) v : Nat) + 1 : Int))) := by
  refine ⟨(d.set u ((dg (l.take i) u : Nat) + 1 : Int)).set v ((dg (l.take i) v : Nat) + 1 : Int), by simp [hd], fun z hz => ?_, (hr.set u _).set v _⟩
  rw [take_snoc' hx, dg_snoc]
  by_cases e1 : v = z
  · subst e1
    rw [PD.g_set_self (by simp [hd]; exact hv)]
    rw [if_pos (by simp [tch])]
    omega
  · rw [PD.g_set_ne e1]
    by_cases e2 : u = z
    · subst e2
      rw [PD.g_set_self (by rw [hd]; exact hz), if_pos (by simp [tch])]
      omega
    · rw [PD.g_set_ne e2, hg z hz, if_neg (by simp [tch]; omega)]
      omega
set_option maxRecDepth 100000 in
set_option maxHeartbeats 8000000 in
theorem bh_walk (n : Int) (A : Option Addr) (m c : Nat) (l : List AK.Ed) (w : World) (hd : Td.Door w) (hs : EdsAt w A l ∧ l.length = m ∧ m ≤ c ∧ c ≤ maxLen) :
    Calls Tryd.prog 6 #[.int .i64 n, .slice A m c] w fun e w' => e = .returned (.bool true) ∧ Below w.heap.size w w' := by
  obtain ⟨hs, hlm, hmc, hcm⟩ := hs
  have HMC : Hid (c ≤ maxLen) := hcm
  unfold maxLen at hcm
  have H := Lib.hid hs
  have HL := Lib.hid hlm
  have HD := Lib.hid hd
  have hm63 : m ≤ 9223372036854775807 := by omega
  clear hs hlm hd
  have HE1 : Hid (EdsAt (w.alloc (.cells #[.int .i64 0, .int .i64 1, .int .i64 1, .int .i64 2] 63)) (some ⟨w.heap.size, 0, none⟩) [(0, 1), (1, 2)]) := by
    refine .inr ⟨w.heap.size, 0, rfl, by simp, fun i v hv => ?_⟩
    have hb := Blk.new w 63 #[.int .i64 0, .int .i64 1, .int .i64 1, .int .i64 2]
    match i, hv with
    | 0, hv => simp at hv; subst hv; exact ⟨hb.cell 0, hb.cell 1⟩
    | 1, hv => simp at hv; subst hv; exact ⟨hb.cell 2, hb.cell 3⟩
  go_enter Tryd.func6, Tryd.ntmps6
  go_wp2_with fail
  refine (bridges_any _ 3 (some ⟨w.heap.size, 0, none⟩) 2 2 [(0, 1), (1, 2)] rfl (by decide) HE1.out).mono ?_
  intro e w1 hp
  obtain ⟨hx1, ⟨h, _⟩ | ⟨_, k1, A1, c1, x1, hk1, rfl, _, _, _, hb1⟩⟩ := hp
  · exact absurd (by decide) h
  obtain rfl : k1 = 3 := by omega
  have hl1 := bh_ex hb1
  rw [hl1]
  have HX1 : Hid (Ext w w1) := Ext.trans (Ext.alloc _ _) hx1
  clear hx1 hb1 hk1 hl1 HE1
  go_wp2_with fail
  refine (bridges_any w1 n A m c l HL.out hm63 (H.out.ext HX1.out)).mono ?_
  intro e w3 hp
  obtain ⟨hx3, ⟨h0, rfl⟩ | ⟨h0, k, Ax, cx, x, rfl, rfl, hex, hcx, hlx, hbx⟩⟩ := hp
  · have HX3 : Hid (Ext w w3) := Ext.trans HX1.out hx3
    have H0 := Lib.hid h0
    rw [errOf_n h0]
    clear h0 hx3
    go_wp2_with fail
    refine (joints_any w3 n A m c l HL.out hm63 (H.out.ext HX3.out)).mono ?_
    intro e w4 hp
    obtain ⟨hx4, ⟨h0, rfl⟩ | ⟨h0, _⟩⟩ := hp
    · have HX4 : Hid (Ext w w4) := Ext.trans HX3.out hx4
      rw [errOf_n h0]
      clear h0 hx4
      go_wp2
      go_ret
      exact ⟨rfl, HX4.out⟩
    · exact absurd h0 H0.out
  have HX3 : Hid (Ext w w3) := Ext.trans HX1.out hx3
  have H0 := Lib.hid h0
  have HEX := Lib.hid hex
  have HBX := Lib.hid hbx
  obtain ⟨lx, hlxe⟩ : ∃ t, x.length = t := ⟨_, rfl⟩
  rw [hlxe] at hcx hlx ⊢
  have HLX := Lib.hid hlxe
  clear h0 hx3 hex hbx hlxe HX1
  go_wp2_with fail
  refine (joints_any w3 k A m c l HL.out hm63 (H.out.ext HX3.out)).mono ?_
  intro e w4 hp
  obtain ⟨hx4, ⟨h0, _⟩ | ⟨_, k', Aj, cj, js, hkk, rfl, hej, hcj, hlj, hbj⟩⟩ := hp
  · exact absurd H0.out h0
  obtain rfl : k = k' := by omega
  have HX4 : Hid (Ext w w4) := Ext.trans HX3.out hx4
  have HEX4 : Hid (EdsAt w4 Ax x) := HEX.out.ext hx4
  have HEJ := Lib.hid hej
  have HBJ := Lib.hid hbj
  obtain ⟨lj, hlje⟩ : ∃ t, js.length = t := ⟨_, rfl⟩
  rw [hlje] at hcj hlj ⊢
  have HLJ := Lib.hid hlje
  obtain ⟨k2, hk2, hk0, hk60, hf⟩ := fine_ok H0.out
  obtain rfl : k = k2 := by omega
  have HF := Lib.hid hf
  obtain ⟨_, _, hl200, hok, hpw⟩ := edgF_iff.1 H0.out
  have HOK := Lib.hid hok
  have HPW := Lib.hid hpw
  have hm200 : m ≤ 200 := by have := HL.out; omega
  obtain ⟨cs, hcs, hmk⟩ := run_ints k (by omega)
  have HM0 : Hid (Many w4 k w4.heap.size l 0 (w4.alloc (.cells cs 3))) := by
    have hz := own_zero (Blk.new w4 3 cs) hcs hk60
    refine ⟨List.replicate k 0, by simp, fun v hv => ?_, ⟨hz, Ext.alloc _ _, Nat.le_refl _⟩⟩
    rw [(DF.g_zero k v).2 hv]; simp [dg]
  clear hx4 hej hbj hlje hkk hk2 hf hl200 hok hpw hcs HEX HX3
  go_wp2
  go_loopw [12] (fun v12 wr => ∃ i : Nat, i ≤ m ∧ v12 = .int .i64 i ∧ Hid (Many w4 k w4.heap.size l i wr)) (fun v12 _ => m - (intOf v12).toNat)
  case atStart => exact ⟨0, Nat.zero_le _, rfl, HM0.out⟩
  case round =>
    obtain ⟨i, hi, rfl, hR⟩ := hrel
    clear HM0 hmk
    by_cases hlt : i < m
    · have hi0 : (0 : Int) ≤ (i : Int) := by omega
      have hi1 : (i : Int) < (m : Int) := by omega
      obtain ⟨d, hd, hg, hr⟩ := hR.out
      obtain ⟨bs, off, hA, hbs, u, v, hx, huv, hvk, e1, e2⟩ := edge_at (H.out.ext (Ext.trans HX4.out hr.ext)) HL.out HF.out hlt
      have huk : u < k := by omega
      have huk' : (u : Int) < (k : Int) := by omega
      have hvk' : (v : Int) < (k : Int) := by omega
      have hu0 : (0 : Int) ≤ (u : Int) := by omega
      have hv0 : (0 : Int) ≤ (v : Int) := by omega
      have hbsw : bs < w.heap.size := by
        rcases H.out with h0 | ⟨b', o', he, hb', _⟩
        · subst h0; simp at hx
        · rw [hA] at he; simp at he; omega
      subst hA
      have HST := Lib.hid (Many.step hd hg hr hx huv hvk)
      obtain ⟨du, hdu⟩ : ∃ t, dg (l.take i) u = t := ⟨_, rfl⟩
      obtain ⟨dv, hdv⟩ : ∃ t, dg (l.take i) v = t := ⟨_, rfl⟩
      have hdu2 : du ≤ 200 := by rw [← hdu]; exact Nat.le_trans (dg_le _ _) (by rw [List.length_take]; omega)
      have hdv2 : dv ≤ 200 := by rw [← hdv]; exact Nat.le_trans (dg_le _ _) (by rw [List.length_take]; omega)
      obtain ⟨r1, g1⟩ := hr.cell hd huk
      obtain ⟨r2, _⟩ := (hr.set u ((du : Int) + 1)).cell (by simp [hd]) hvk
      have g2 := (hr.set u ((du : Int) + 1)).row.frozenAt v
      rw [PD.g_set_ne (by omega), hg v hvk, hdv] at r2
      rw [hg u huk, hdu] at r1
      rw [hdu, hdv] at HST
      have hne : bs ≠ w4.heap.size := by have := HX4.out.size; omega
      have e3 : (wr.setCell ⟨w4.heap.size, u, none⟩ (.int .i64 ((du : Int) + 1))).cell? ⟨bs, off + i * 2 + 1, none⟩ = some (.int .i64 (v : Int)) := by
        rw [World.cell?_setCell_far _ _ _ _ (fun e => hne e.symm)]; exact e2
      have s1 : IntKind.i64.wrap ((du : Int) + 1) = (du : Int) + 1 := IntWalk.i64_in _ (by omega)
      have s2 : IntKind.i64.wrap ((dv : Int) + 1) = (dv : Int) + 1 := IntWalk.i64_in _ (by omega)
      clear hR hd hg hr hx hdu hdv
      go_wp2
      go_roundw
      case rel => exact ⟨i + 1, by omega, by go_num, HST.out⟩
      case measure => simp [intOf]; omega
    · obtain rfl : m = i := by omega
      obtain ⟨wM, rfl⟩ : ∃ wM : World, wM = wr := ⟨_, rfl⟩
      obtain ⟨d, hd, hg, hr⟩ := hR.out
      rw [List.take_of_length_le (by rw [HL.out]; exact Nat.le_refl _)] at hg
      have HDL := Lib.hid hd
      have HDG := Lib.hid hg
      have HXM : Hid (Ext w wM) := Ext.trans HX4.out hr.ext
      have HX4M : Hid (Ext w4 wM) := hr.ext
      have HDR := Lib.hid hr
      obtain ⟨gm, hgm⟩ : ∃ t, w4.heap.size = t := ⟨_, rfl⟩
      rw [hgm] at HDR ⊢
      clear hR hd hg hr hgm
      go_wp2
      go_loopw [13] (fun v13 wr => ∃ i : Nat, i ≤ m ∧ v13 = .int .i64 i ∧ Hid (Ext wM wr)) (fun v13 _ => m - (intOf v13).toNat)
      case atStart => exact ⟨0, Nat.zero_le _, rfl, Ext.refl _⟩
      case round =>
        obtain ⟨i, hi, rfl, hwr⟩ := hrel
        by_cases hlt2 : i < m
        · have hi0 : (0 : Int) ≤ (i : Int) := by omega
          have hi1 : (i : Int) < (m : Int) := by omega
          have HXW : Hid (Ext w wr) := Ext.trans HXM.out hwr.out
          obtain ⟨bs, off, hA, hbs, u, v, hx, huv, hvk, _, _⟩ := edge_at H.out HL.out HF.out hlt2
          have huk : u < k := by omega
          have huk' : (u : Int) < (k : Int) := by omega
          have hvk' : (v : Int) < (k : Int) := by omega
          have hu0 : (0 : Int) ≤ (u : Int) := by omega
          have hv0 : (0 : Int) ≤ (v : Int) := by omega
          have HC : Hid (∀ w', Ext w w' → w'.cell? ⟨bs, off + i * 2, none⟩ = some (.int .i64 (u : Int)) ∧ w'.cell? ⟨bs, off + i * 2 + 1, none⟩ = some (.int .i64 (v : Int))) := fun w' hw => by
            rcases H.out with h0 | ⟨b', o', he, hb', hev⟩
            · subst h0; simp at hx
            · rw [hA] at he
              simp at he
              obtain ⟨rfl, rfl⟩ := he
              obtain ⟨e1, e2⟩ := hev i _ hx
              exact ⟨(hw.cell (p := ⟨bs, _, none⟩) hb').trans e1, (hw.cell (p := ⟨bs, _, none⟩) hb').trans e2⟩
          have hmn := erase_mn HOK.out HPW.out hx
          have HCK : Hid (ckF (k : Int) (l.eraseIdx i) [(u : Int), (v : Int)] = 0) := by
            refine ck_two (edgF_iff.2 ?_) huk hvk
            refine ⟨by omega, by omega, ?_, fun z hz => HOK.out z (List.mem_of_mem_eraseIdx hz), HPW.out.sublist (List.eraseIdx_sublist _ _)⟩
            rw [List.length_eraseIdx]; have := HL.out; split <;> omega
          have HLE : Hid ((l.eraseIdx i).length ≤ 200) := by rw [Hid, List.length_eraseIdx]; have := HL.out; split <;> omega
          have HDC : Hid (∀ d, PD.IsDist k (l.eraseIdx i) v d → (0 ≤ PD.g d u ↔ DF.Go2 l u v)) := fun d hd => by
            have hin : ∀ p q, PD.adj (l.eraseIdx i) p q → q < k := fun p q e => fine_in HF.out _ _ ((hmn p q).1 e).1
            rw [DF.dist_cn hd hin huk, DF.cn_iff hmn]
            exact ⟨fun c => .symm c, fun c => .symm c⟩
          have hadj : PD.adj l u v := .inl (List.mem_of_getElem? hx)
          have HBI : Hid (((u : Int), (v : Int)) ∈ x ↔ ¬ DF.Go2 l u v) := by
            have := HBX.out.1.edb u v hadj
            rwa [df_ek huv] at this
          have HJU : Hid (¬ DF.Go2 l u v → 1 < dg l u → (u : Int) ∈ js) := fun hn h1 => by
            obtain ⟨z, hz1, hz2⟩ := dg_two HOK.out HPW.out hadj h1
            exact (HBJ.out.2 _).2 ⟨u, rfl, huk, DF.bridge_joint (fine_loop HF.out) hn hadj hz1 hz2⟩
          have HJV : Hid (¬ DF.Go2 l u v → 1 < dg l v → (v : Int) ∈ js) := fun hn h1 => by
            obtain ⟨z, hz1, hz2⟩ := dg_two HOK.out HPW.out (PD.adj_symm hadj) h1
            exact (HBJ.out.2 _).2 ⟨v, rfl, hvk, DF.bridge_joint (fine_loop HF.out) (fun w => hn w.flip) (PD.adj_symm hadj) hz1 hz2⟩
          have HPX : Hid (∀ w', Ext wr w' → Calls Tryd.prog 29 #[.slice Ax lx cx, .int .i64 (u : Int), .int .i64 (v : Int)] w' fun e w'' => e = .returned (.int .i64 (RF.placeV (RF.place x ((u : Int), (v : Int))))) ∧ Below w'.heap.size w' w'') := fun w' hw' => by
            have := place_any w' Ax lx cx x u v HLX.out (by omega) (HEX4.out.ext (Ext.trans HX4M.out (Ext.trans hwr.out hw')))
            rwa [ak_ek (by omega)] at this
          have HP0 : Hid (((u : Int), (v : Int)) ∈ x → 0 ≤ RF.placeV (RF.place x ((u : Int), (v : Int)))) := pl_in
          have HP1 : Hid (((u : Int), (v : Int)) ∉ x → RF.placeV (RF.place x ((u : Int), (v : Int))) < 0) := pl_out
          obtain ⟨pw, hpw⟩ : ∃ t, RF.placeV (RF.place x ((u : Int), (v : Int))) = t := ⟨_, rfl⟩
          rw [hpw] at HPX HP0 HP1
          have HRO : Hid (∀ w', Ext w w' → Calls Tryd.prog 31 #[.slice (some ⟨bs, off, none⟩) m c, .int .i64 (i : Int)] w' (OutPost w' l i)) := fun w' hw' => by
            have := rout_any w' A m c l i HL.out (by omega) hmc HMC.out hlt2 (H.out.ext hw')
            rwa [hA] at this
          have HXMr := Lib.hid hwr.out
          obtain ⟨du, hdu⟩ : ∃ t, dg l u = t := ⟨_, rfl⟩
          obtain ⟨dv, hdv⟩ : ∃ t, dg l v = t := ⟨_, rfl⟩
          rw [hdu] at HJU
          rw [hdv] at HJV
          have HGU : Hid (∀ w', Ext wM w' → w'.cell? ⟨gm, u, none⟩ = some (.int .i64 (du : Int)) ∧ w'.cell? ⟨gm, v, none⟩ = some (.int .i64 (dv : Int))) := fun w' hw => by
            have a1 := ((HDR.out.moved hw).cell HDL.out huk).1
            have a2 := ((HDR.out.moved hw).cell HDL.out hvk).1
            rw [HDG.out u huk, hdu] at a1
            rw [HDG.out v hvk, hdv] at a2
            exact ⟨a1, a2⟩
          subst hA
          have HHAS : Hid (∀ w' (z : Nat), Ext w4 w' → (z : Int) ∈ js → Calls Tryd.prog 32 #[.slice Aj lj cj, .int .i64 (z : Int)] w' fun e w'' => e = .returned (.bool true) ∧ w' = w'') := fun w' z hw hz => has_yes (HEJ.out.ext hw) HLJ.out (by omega) hz
          have HSN : Hid (¬ DF.Go2 l u v → ∀ w' A' c', EdsAt w' A' (l.eraseIdx i) → Calls Tryd.prog 30 #[.int .i64 (k : Int), .slice A' (l.eraseIdx i).length c', .int .i64 (u : Int), .int .i64 (v : Int)] w' fun e w'' => e = .returned (.tuple #[.slice none 0 0, .iface 26 (.int .i64 4)]) ∧ Ext w' w'') := fun hn w' A' c' he => by
            refine (short_any w' k A' _ c' (l.eraseIdx i) rfl (by have := HLE.out; omega) he u v).mono ?_
            intro e w'' hp
            obtain ⟨hx', d, hd, h1⟩ := ShPost.ok hp HCK.out
            rcases h1 with ⟨_, rfl⟩ | ⟨h1, _⟩
            · exact ⟨by rw [errOf_n (by decide)], hx'⟩
            · exact absurd ((HDC.out d hd).1 h1) hn
          have HSY : Hid (DF.Go2 l u v → ∀ w' A' c', EdsAt w' A' (l.eraseIdx i) → Calls Tryd.prog 30 #[.int .i64 (k : Int), .slice A' (l.eraseIdx i).length c', .int .i64 (u : Int), .int .i64 (v : Int)] w' fun e w'' => ∃ A7 n7 c7, e = .returned (.tuple #[.slice A7 n7 c7, .nilIface]) ∧ Ext w' w'') := fun hn w' A' c' he => by
            refine (short_any w' k A' _ c' (l.eraseIdx i) rfl (by have := HLE.out; omega) he u v).mono ?_
            intro e w'' hp
            obtain ⟨hx', d, hd, h1⟩ := ShPost.ok hp HCK.out
            rcases h1 with ⟨h1, _⟩ | ⟨_, A7, c7, p7, rfl, _⟩
            · have := (HDC.out d hd).2 hn; omega
            · exact ⟨A7, _, c7, rfl, hx'⟩
          obtain ⟨s1, s2⟩ : (∀ d os, (Go.Sort.grow (redrawn wr d) os).cell? ⟨bs, off + i * 2, none⟩ = some (.int .i64 (u : Int))) ∧ (∀ d os, (Go.Sort.grow (redrawn wr d) os).cell? ⟨bs, off + i * 2 + 1, none⟩ = some (.int .i64 (v : Int))) := ⟨fun d os => (HC.out _ (Ext.trans HXW.out (below_regrown wr d os))).1, fun d os => (HC.out _ (Ext.trans HXW.out (below_regrown wr d os))).2⟩
          clear hpw hwr hx hmn hadj hdu hdv
          by_cases hgo : DF.Go2 l u v
          · have p0 := HP1.out (fun w => HBI.out.1 w hgo)
            have p1 : ¬ 0 ≤ pw := by omega
            have p2 : decide (0 ≤ pw) = false := by simpa using p1
            have HS := Lib.hid (HSY.out hgo)
            clear hgo HP0 HP1 HBI HJU HJV HGU HHAS
            go_wp2
            refine wp_region_quiet_below (by kernel_rfl) (by kernel_rfl) ?_
            repeat (go_big_quiet_step ((go_at_call 29; exact Calls.regrown_of (HPX.out _ (below_regrown wr _ _)))))
            refine wpQuiet_nil ?_
            intro _ hw'
            obtain ⟨⟨dq, osq⟩, hw''⟩ := hw'
            subst hw''
            have HX5 : Hid (Ext w (Go.Sort.grow (redrawn wr dq) osq)) := Ext.trans HXW.out (below_regrown wr dq osq)
            have HXM5 : Hid (Ext wM (Go.Sort.grow (redrawn wr dq) osq)) := Ext.trans HXMr.out (below_regrown wr dq osq)
            generalize Go.Sort.grow (redrawn wr dq) osq = w5 at HX5 HXM5 ⊢
            clear s1 s2 HPX
            obtain ⟨s1, s2⟩ := HC.out w5 HX5.out
            have HC5 : Hid (∀ w', Ext w5 w' → Ext w5 w' ∧ w'.cell? ⟨bs, off + i * 2, none⟩ = some (.int .i64 (u : Int)) ∧ w'.cell? ⟨bs, off + i * 2 + 1, none⟩ = some (.int .i64 (v : Int))) := fun w' hw => ⟨hw, (HC.out w' (Ext.trans HX5.out hw))⟩
            go_wp2
            go_region_held3 (fun w' => Ext w5 w' ∧ w'.cell? ⟨bs, off + i * 2, none⟩ = some (.int .i64 (u : Int)) ∧ w'.cell? ⟨bs, off + i * 2 + 1, none⟩ = some (.int .i64 (v : Int)))
              (exact HC5.out _ (by first | exact Ext.drew _ | exact fsth (by assumption) | exact Ext.trans (fsth (by assumption)) (by assumption)))
              (first
                | (go_at_call 31; refine (HRO.out _ (Ext.trans HX5.out (fsth (by assumption)))).mono ?_; rintro e w6 ⟨A6, c6, rfl, hr6, hb6, _⟩; have HE6 := Lib.hid (DRow.eds hr6 rfl).1; have hx6 : Ext _ w6 := hb6; clear hr6 hb6)
                | (go_at_call 30; refine (HS.out _ _ _ HE6.out).mono ?_; rintro e w7 ⟨A7, n7, c7, rfl, hb7⟩))
            rename_i hHeld
            have HX7 : Hid (Ext w w7) := Ext.trans HX5.out (fsth hHeld)
            have HXM7 : Hid (Ext wM w7) := Ext.trans HXM5.out (fsth hHeld)
            clear hHeld hx6 hb7 HC5 HRO s1 s2 HSN HSY HE6
            go_wp2_with fail
            refine (same_nil w7 4 false (by decide)).mono ?_
            rintro e w8 ⟨rfl, hx8⟩
            have HX8 : Hid (Ext w w8) := Ext.trans HX7.out hx8
            have HXM8 : Hid (Ext wM w8) := Ext.trans HXM7.out hx8
            clear hx8 HX7 HXM7
            go_wp2
            go_roundw
            case rel => exact ⟨i + 1, by omega, by go_num, HXM8.out⟩
            case measure => simp [intOf]; omega
          · have p0 := HP0.out (HBI.out.2 hgo)
            have p1 : ¬ pw < 0 := by omega
            have p2 : decide (0 ≤ pw) = true := by simpa using p0
            have HS := Lib.hid (HSN.out hgo)
            have HJU' := Lib.hid (HJU.out hgo)
            have HJV' := Lib.hid (HJV.out hgo)
            clear hgo HP0 HP1 HBI HJU HJV
            go_wp2
            refine wp_region_quiet_below (by kernel_rfl) (by kernel_rfl) ?_
            repeat (go_big_quiet_step ((go_at_call 29; exact Calls.regrown_of (HPX.out _ (below_regrown wr _ _)))))
            refine wpQuiet_nil ?_
            intro _ hw'
            obtain ⟨⟨dq, osq⟩, hw''⟩ := hw'
            subst hw''
            have HX5 : Hid (Ext w (Go.Sort.grow (redrawn wr dq) osq)) := Ext.trans HXW.out (below_regrown wr dq osq)
            have HXM5 : Hid (Ext wM (Go.Sort.grow (redrawn wr dq) osq)) := Ext.trans HXMr.out (below_regrown wr dq osq)
            generalize Go.Sort.grow (redrawn wr dq) osq = w5 at HX5 HXM5 ⊢
            clear s1 s2 HPX
            obtain ⟨s1, s2⟩ := HC.out w5 HX5.out
            have HC5 : Hid (∀ w', Ext w5 w' → Ext w5 w' ∧ w'.cell? ⟨bs, off + i * 2, none⟩ = some (.int .i64 (u : Int)) ∧ w'.cell? ⟨bs, off + i * 2 + 1, none⟩ = some (.int .i64 (v : Int))) := fun w' hw => ⟨hw, (HC.out w' (Ext.trans HX5.out hw))⟩
            go_wp2
            go_region_held3 (fun w' => Ext w5 w' ∧ w'.cell? ⟨bs, off + i * 2, none⟩ = some (.int .i64 (u : Int)) ∧ w'.cell? ⟨bs, off + i * 2 + 1, none⟩ = some (.int .i64 (v : Int)))
              (exact HC5.out _ (by first | exact Ext.drew _ | exact fsth (by assumption) | exact Ext.trans (fsth (by assumption)) (by assumption)))
              (first
                | (go_at_call 31; refine (HRO.out _ (Ext.trans HX5.out (fsth (by assumption)))).mono ?_; rintro e w6 ⟨A6, c6, rfl, hr6, hb6, _⟩; have HE6 := Lib.hid (DRow.eds hr6 rfl).1; have hx6 : Ext _ w6 := hb6; clear hr6 hb6)
                | (go_at_call 30; refine (HS.out _ _ _ HE6.out).mono ?_; rintro e w7 ⟨rfl, hb7⟩))
            rename_i hHeld
            have HX7 : Hid (Ext w w7) := Ext.trans HX5.out (fsth hHeld)
            have HXM7 : Hid (Ext wM w7) := Ext.trans HXM5.out (fsth hHeld)
            clear hHeld hx6 hb7 HC5 HRO s1 s2 HSN HSY HE6
            go_wp2_with fail
            refine (same_errno w7 4 4 (HD.out.new HX7.out) true (by simp)).mono ?_
            rintro e w8 ⟨rfl, hx8⟩
            have HX8 : Hid (Ext w w8) := Ext.trans HX7.out hx8
            have HXM8 : Hid (Ext wM w8) := Ext.trans HXM7.out hx8
            clear hx8 HX7 HXM7
            obtain ⟨t1, t2⟩ := HC.out w8 HX8.out
            obtain ⟨t3, t4⟩ := HGU.out w8 HXM8.out
            have HX48 : Hid (Ext w4 w8) := Ext.trans HX4M.out HXM8.out
            clear HC HGU p0 p1 p2
            rcases Nat.lt_or_ge 1 du with q1 | q1
            · have t5 : (1 : Int) < (du : Int) := by omega
              have HU := Lib.hid (HJU'.out q1)
              rcases Nat.lt_or_ge 1 dv with q2 | q2
              · have t6 : (1 : Int) < (dv : Int) := by omega
                have HV := Lib.hid (HJV'.out q2)
                clear HJU' HJV'
                go_wp2_with (go_at_call 32; refine (HHAS.out _ _ HX48.out (by first | exact HU.out | exact HV.out)).mono ?_; rintro e w9 ⟨rfl, rfl⟩)
                go_roundw
                case rel => exact ⟨i + 1, by omega, by go_num, HXM8.out⟩
                case measure => simp [intOf]; omega
              · have t6 : ¬ (1 : Int) < (dv : Int) := by omega
                clear HJU' HJV'
                go_wp2_with (go_at_call 32; refine (HHAS.out _ _ HX48.out (by first | exact HU.out)).mono ?_; rintro e w9 ⟨rfl, rfl⟩)
                go_roundw
                case rel => exact ⟨i + 1, by omega, by go_num, HXM8.out⟩
                case measure => simp [intOf]; omega
            · have t5 : ¬ (1 : Int) < (du : Int) := by omega
              rcases Nat.lt_or_ge 1 dv with q2 | q2
              · have t6 : (1 : Int) < (dv : Int) := by omega
                have HV := Lib.hid (HJV'.out q2)
                clear HJU' HJV'
                go_wp2_with (go_at_call 32; refine (HHAS.out _ _ HX48.out (by first | exact HV.out)).mono ?_; rintro e w9 ⟨rfl, rfl⟩)
                go_roundw
                case rel => exact ⟨i + 1, by omega, by go_num, HXM8.out⟩
                case measure => simp [intOf]; omega
              · have t6 : ¬ (1 : Int) < (dv : Int) := by omega
                clear HJU' HJV'
                go_wp2
                go_roundw
                case rel => exact ⟨i + 1, by omega, by go_num, HXM8.out⟩
                case measure => simp [intOf]; omega
        · have HE : Hid (Ext w wr) := Ext.trans HXM.out hwr.out
          clear hwr
          go_wp2
          go_ret
          exact ⟨rfl, HE.out⟩
end Go.Proofs.YtakjakglkfhaaaaDoor
