/-
  The references' disk: Crash's walk. Condition: the disk lies as 'RAt' says, the row 'keep' as 'IntsAt', not in the disk's blocks.
-/
import Derived.Test.YtenjblonepegfaaDoorRd6
namespace Go.Proofs.YtenjblonepegfaaDoor
open Go Go.RowKit
set_option linter.unusedVariables false

set_option maxHeartbeats 2000000 in
set_option maxRecDepth 100000 in
theorem rcrash_any (w : World) (r : RD) (n : Nat) (d : DK.D) (h : RAt w r n d) (A : Option Addr) (m c : Nat) (keep : List Int) (hk : IntsAt w A keep) (hm : keep.length = m) (hmm : m ≤ maxLen) (hA : keep ≠ [] → ∀ x, A = some x → ¬ r.fp x.block) :
    Calls Tryd.prog 20 #[.pointer (some ⟨r.g, 0, none⟩), .slice A m c] w (RCrash w r n d keep) := by
  obtain ⟨B, wc, hwv, hwl, hB⟩ := rws_form h
  obtain ⟨L, hL⟩ : ∃ L, L = d.ws.length := ⟨_, rfl⟩
  rw [← hL] at hwv hwl hB
  unfold maxLen at hwl hmm
  have hle := h.le
  have hps := h.pos
  have HOK := Lib.hid h.ok
  have H0 : Hid (RC w r n d keep A (DK.lay keep 0 (d.ws.take 0) d.kept) w) := ⟨r.K, by simpa [DK.lay] using h, hk, Chg.refl _ _⟩
  have HL := Lib.hid hL
  have HM := Lib.hid hm
  have HA := Lib.hid hA
  have HWV := Lib.hid hwv
  have HB := Lib.hid hB
  have c2 : w.cell? ⟨r.g, 2, none⟩ = some (.slice B L wc) := by rw [← hwv]; exact h.blk.cell 2
  clear h hk hL hm hA hwv hB
  go_enter Tryd.func20, Tryd.ntmps20
  go_wp2
  go_loopw [4] (fun v4 wr => ∃ k : Nat, k ≤ L ∧ v4 = .int .i64 k ∧ Hid (RC w r n d keep A (DK.lay keep 0 (d.ws.take k) d.kept) wr)) (fun v4 _ => L - (intOf v4).toNat)
  case atStart => exact ⟨0, by omega, rfl, H0.out⟩
  case round =>
    obtain ⟨k, hk, rfl, HR⟩ := hrel
    obtain ⟨w0, rfl⟩ : ∃ w0, w0 = wr := ⟨_, rfl⟩
    obtain ⟨K1, hr1, hi1, hc1⟩ := HR.out
    have c2 : w0.cell? ⟨r.g, 2, none⟩ = some (.slice B L wc) := by rw [← HWV.out]; exact hr1.blk.cell 2
    have c0 : w0.cell? ⟨r.g, 0, none⟩ = some (.slice (some ⟨r.gk, 0, none⟩) n r.ck) := hr1.blk.cell 0
    have HR1 := Lib.hid hr1
    have HC1 := Lib.hid hc1
    clear hr1 hi1 hc1
    by_cases hkL : k < L
    · obtain ⟨x, hx⟩ : ∃ x, d.ws[k]? = some x := ⟨_, List.getElem?_eq_getElem (by have := HL.out; omega)⟩
      have HX := Lib.hid hx
      have HI : Hid (RC w r n d keep A (layj d keep k 0 x) w0) := by unfold Hid; rw [layj_zero]; exact HR.out
      clear hx c0
      go_wp2
      go_loopw [5] (fun v5 wr => ∃ j : Nat, j ≤ m ∧ v5 = .int .i64 j ∧ Hid (RC w r n d keep A (layj d keep k j x) wr)) (fun v5 _ => m - (intOf v5).toNat)
      case atStart => exact ⟨0, by omega, rfl, HI.out⟩
      case round =>
        obtain ⟨j, hj, rfl, HJ⟩ := hrel
        by_cases hjm : j < m
        · obtain ⟨y, hy⟩ : ∃ y, keep[j]? = some y := ⟨_, List.getElem?_eq_getElem (by have := HM.out; omega)⟩
          obtain ⟨K2, hr2, hi2, hc2⟩ := HJ.out
          rcases hi2 with h0 | ⟨bb, off, rfl, hbl, hkx⟩
          · rw [h0] at hy; simp at hy
          have e1 := hkx j y hy
          have HY := Lib.hid hy
          have z0 : (0 : Int) ≤ (j : Int) := by omega
          have z1 : (j : Int) < (m : Int) := by omega
          clear hkx
          by_cases e : y = (k : Int)
          · subst e
            obtain ⟨g, rfl⟩ := HB.out (by omega)
            obtain ⟨pr, hpr, hpp⟩ := hr2.ws_get HX.out
            obtain ⟨u1, u2⟩ := hr2.ws_cells HWV.out HL.out hpr
            have b0 : wr.cell? ⟨r.g, 0, none⟩ = some (.slice (some ⟨r.gk, 0, none⟩) n r.ck) := hr2.blk.cell 0
            have b2 : wr.cell? ⟨r.g, 2, none⟩ = some (.slice (some ⟨g, 0, none⟩) L wc) := by rw [← HWV.out]; exact hr2.blk.cell 2
            have hxn := (HOK.out.wp x (List.mem_of_getElem? HX.out)).2
            have hcl := World.ownsRow.cellAt hr2.rk x.1 (by omega)
            obtain ⟨q, hq⟩ : ∃ q, (K2.map pv)[x.1]? = some q := ⟨_, List.getElem?_eq_getElem (by have := hr2.rk.1; simp at this ⊢; omega)⟩
            rw [hq] at hcl
            have hfz := World.ownsRow.frozenAt hr2.rk x.1
            simp only at hcl hfz
            have HPR := Lib.hid hpr
            have HPP := Lib.hid hpp
            have HS : Hid (RC w r n d keep (some ⟨bb, off, none⟩) (layj d keep k (j + 1) x) (wr.drew.setCell ⟨r.gk, x.1, none⟩ (pv pr))) := by unfold Hid; rw [layj_yes HY.out]; exact (HJ.out.ext (Ext.drew _)).set HA.out HX.out HPR.out HPP.out
            obtain ⟨xa, xp⟩ := x
            obtain ⟨pb, pc, pp⟩ := pr
            simp only [pv] at u1 u2 hcl hfz HS hxn
            have y0 : (0 : Int) ≤ (xa : Int) := by omega
            have y1 : (xa : Int) < (n : Int) := by omega
            have y2 : (0 : Int) ≤ (k : Int) := by omega
            have y3 : (k : Int) < (L : Int) := by omega
            clear hr2 hc2 hq hpr hpp c2
            go_wp2
            go_region
            all_goals
              go_wp2
              go_roundw
              case rel => exact ⟨j + 1, by omega, by go_num, HS.out⟩
              case measure => simp [intOf]; omega
          · have e2 : (y == (k : Int)) = false := by simpa using e
            have HS : Hid (RC w r n d keep (some ⟨bb, off, none⟩) (layj d keep k (j + 1) x) wr) := by unfold Hid; rw [layj_no HY.out e]; exact HJ.out
            clear hr2 hc2 e c2
            go_wp2
            go_roundw
            case rel => exact ⟨j + 1, by omega, by go_num, HS.out⟩
            case measure => simp [intOf]; omega
        · have e : j = m := by omega
          have HS : Hid (RC w r n d keep A (DK.lay keep 0 (d.ws.take (k + 1)) d.kept) wr) := by unfold Hid; rw [← layj_end HX.out, HM.out, ← e]; exact HJ.out
          clear e c2
          go_wp2
          go_roundw
          case rel => exact ⟨k + 1, by omega, by go_num, HS.out⟩
          case measure => simp [intOf]; omega
    · have e : k = L := by omega
      subst e
      have HR1' : Hid (RAt w0 { r with K := K1 } n { d with kept := DK.lay keep 0 (d.ws.take d.ws.length) d.kept }) := by unfold Hid; rw [← HL.out]; exact HR1.out
      have HLN : Hid ((K1.map pv).length = n * 1) := by have := HR1.out.rk.1; exact this
      have HSRC := Lib.hid (rows_src HR1.out.rk)
      simp only at HSRC
      go_wp2_with (at_builtin; refine wpList_append_rows _ rfl (.tmp 49) (.tmp 53) 43 rfl 33 _ 1 24 Tryd.underlying43 infoPg rfl (by decide) (.slice none 0 0) 0 [] rfl (World.ownsRow_nil _ _ _ _) (some ⟨r.gk, 0, none⟩) n r.ck (K1.map pv) rfl HLN.out (fun h => by cases h) HSRC.out pv_one ⟨by omega, by omega⟩ ?_; intro A2 c2 w2 ho hc hg; simp only [Nat.zero_add, List.nil_append] at ho hg; obtain ⟨g, rfl⟩ := own_at ho hps; have HO := Lib.hid ho; have HC := Lib.hid hc; have HG : Hid (g = w0.heap.size) := (by rcases hg g (by simp [Value.ownBlock]) with h | h; (· simp [Value.ownBlock] at h); (· exact h)); have HD := Lib.hid (HR1.out.chg hc (fun k _ h => none_blk (P := fun _ => False) k h) none_blk); have b1 : w2.cell? ⟨r.g, 1, none⟩ = some (.slice (some ⟨r.gn, 0, none⟩) n r.cn) := HD.out.blk.cell 1; have b2 : w2.cell? ⟨r.g, 2, none⟩ = some r.wv := HD.out.blk.cell 2; have b3 : w2.cell? ⟨r.g, 3, none⟩ = some (.int .i64 d.left) := HD.out.blk.cell 3; have b4 : w2.cell? ⟨r.g, 4, none⟩ = some (.bool d.down) := HD.out.blk.cell 4; have f1 := HD.out.blk.frozen 1; have f2 := HD.out.blk.frozen 2; have f3 := HD.out.blk.frozen 3; have f4 := HD.out.blk.frozen 4; clear ho hc hg)
      go_end0
      exact rcrash_end HOK.out HR1'.out HC1.out HC.out HG.out HO.out
end Go.Proofs.YtenjblonepegfaaDoor
