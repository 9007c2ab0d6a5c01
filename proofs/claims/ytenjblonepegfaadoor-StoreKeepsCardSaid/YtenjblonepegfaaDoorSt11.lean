/-
  Walk of (*Store).lay. Conditions: the disk lies as 'DAt' says, the bytes as 'BytesAt' says, not in the disk's blocks.
-/
import Derived.Test.YtenjblonepegfaaDoorSt10
namespace Go.Proofs.YtenjblonepegfaaDoor
open Go Go.RowKit
set_option linter.unusedVariables false

set_option maxHeartbeats 1000000 in
set_option maxRecDepth 100000 in
theorem lay_any (w : World) (u : Dsk) (n : Nat) (d : DK.D) (h : DAt w u n d) (g : Nat) (cs : Array Value) (hS : Blk w g 160 cs) (hc : cs[0]? = some (.pointer (some ⟨u.g, 0, none⟩))) (t : Nat) (ht : t ≤ 200) (A : Option Addr) (m c : Nat) (b : List Int) (hm : b.length = m) (hm2 : m ≤ 960) (hmc : m ≤ c) (hcm : c ≤ maxLen)
    (hA : BytesAt w A b) (hAb : b ≠ [] → ∀ x, A = some x → ¬ u.fp x.block) (hws : d.ws.length ≤ 900) :
    Calls Tryd.prog 82 #[.pointer (some ⟨g, 0, none⟩), .agg #[.int .i64 t, .int .i64 m], .slice A m c] w (LayPost w u n (layR n d t b)) := by
  have HH := Lib.hid h
  have HS := Lib.hid hS
  have HC := Lib.hid hc
  have HA : Hid (BytesAt w A b ∧ (b ≠ [] → ∀ x, A = some x → ¬ u.fp x.block ∧ x.block < w.heap.size)) := ⟨hA, fun hne x hx => ⟨hAb hne x hx, hA.lt_ hne hx⟩⟩
  have HM := Lib.hid hm
  have HWS := Lib.hid hws
  clear h hS hc hA hAb hm hws
  unfold maxLen at hcm
  go_enter Tryd.func82, Tryd.ntmps82
  go_wp2_with fail
  refine (stfirst_any _ t (by omega)).mono ?_
  rintro e w' ⟨rfl, rfl⟩
  have HR0 : Hid (LyR w u n d (2 + (t : Int) % 2 * 30) b w.heap.size #[.int .i64 t, .int .i64 m] A m (2 + (t : Int) % 2 * 30) (w.alloc (.cells #[.int .i64 t, .int .i64 m] 156))) :=
    ⟨⟨30, d, b, u, rfl, HM.out, by omega, HH.out.ext (Ext.alloc _ _), DMoved.of_ext u (Ext.alloc _ _), HA.out.1, HA.out.2, by have := HWS.out; omega, by omega, by omega⟩, Blk.new _ _ _⟩
  go_wp2_with fail
  go_loopw [2, 7] (fun v2 v7 wr => ∃ (A' : Option Addr) (m' c' : Nat) (i : Int), v2 = .slice A' m' c' ∧ v7 = .int .i64 i ∧ m' ≤ c' ∧ c' ≤ 9223372036854775807 ∧ Hid (LyR w u n d (2 + (t : Int) % 2 * 30) b w.heap.size #[.int .i64 t, .int .i64 m] A' m' i wr)) (fun v2 _ _ => (match v2 with | .slice _ k _ => k | _ => 0))
  case atStart => exact ⟨_, _, _, _, rfl, rfl, hmc, hcm, HR0⟩
  case round =>
    obtain ⟨A', m', c', i, rfl, rfl, hmc', hcm', hR⟩ := hrel
    by_cases h0 : m' = 0
    · subst h0
      obtain ⟨⟨f, d', b', u', hlw, hbl, hmf, hD, hMv, hB, hBf, hdw, hi0, hi1⟩, hbox⟩ := hR.out
      have HD := Lib.hid hD
      have HMv := Lib.hid hMv
      have HBX := Lib.hid hbox
      have HG := Lib.hid hMv.1
      have HSr : Hid (Blk wr g 160 cs) := HS.out.chg hMv.2.1 (HH.out.notyp HS.out (by decide))
      have cS : wr.cell? ⟨g, 0, none⟩ = some (.pointer (some ⟨u.g, 0, none⟩)) := by rw [HSr.out.cell]; exact HC.out
      have HL : Hid (layR n d t b = layS n d' t m) := by
        have h1 : layW n 30 d (2 + (t : Int) % 2 * 30) b = (none, d') := by rw [hlw]; exact layW_nil hbl
        rw [Hid, layR_none (by rw [h1]), h1, HM.out]
      have hdw2 : d'.ws.length ≤ 1000 := by omega
      clear hlw hbl hD hMv hB hBf hbox hR HR0 hmf hi0 hi1 hdw
      go_wp2_with fail
      have hs := dsync_any wr u' n d' HD.out
      rw [HG.out] at hs
      refine hs.mono ?_
      rintro e w2 ⟨u2, rfl, hu2, hm2⟩
      clear hs
      by_cases hst : DK.stopped d' = true
      · rw [if_pos hst] at hu2 ⊢
        have HE : Hid (LayPost w u n (layR n d t b) (.returned (derrV 8)) w2) := by
          rw [Hid, HL.out, layS, syR, if_pos hst]
          exact ⟨u2, rfl, hu2, HMv.out.trans hm2⟩
        clear hu2 hm2 hst
        go_wp2
        go_ret
        exact HE.out
      · rw [if_neg hst] at hu2 ⊢
        have HL2 : Hid (layR n d t b = layH n (DK.sync (DK.step d')) t m) := by
          rw [Hid, HL.out, layS, syR, if_neg hst]
        have HU2 := Lib.hid hu2
        have HM2 := Lib.hid (HMv.out.trans hm2)
        have HG2 : Hid (u2.g = u.g) := HM2.out.1
        have HS2 : Hid (Blk w2 g 160 cs) := HSr.out.chg hm2.2.1 (HD.out.notyp HSr.out (by decide))
        have HB2 : Hid (Blk w2 w.heap.size 156 #[.int .i64 t, .int .i64 m]) := HBX.out.chg hm2.2.1 (HD.out.notyp HBX.out (by decide))
        have cS2 : w2.cell? ⟨g, 0, none⟩ = some (.pointer (some ⟨u.g, 0, none⟩)) := by rw [HS2.out.cell]; exact HC.out
        have x0 : w2.cell? ⟨w.heap.size, 0, none⟩ = some (.int .i64 t) := HB2.out.cell 0
        have x1 : w2.cell? ⟨w.heap.size, 1, none⟩ = some (.int .i64 m) := HB2.out.cell 1
        clear hu2 hm2 hst HL HBX HSr HMv HD cS hdw2
        have hws2 : (DK.sync (DK.step d')).ws.length ≤ 10000 := by simp [DK.sync]
        go_wp2_with fail
        go_region_held3 (fun w' => w'.cell? ⟨g, 0, none⟩ = some (.pointer (some ⟨u.g, 0, none⟩)) ∧ w'.cell? ⟨w.heap.size, 0, none⟩ = some (.int .i64 t) ∧ w'.cell? ⟨w.heap.size, 1, none⟩ = some (.int .i64 m)) (go_keep)
          (first
            | (go_at_call 79; refine (hb_any _ t m (by omega) (by omega) (by omega) (by omega)).mono ?_; rintro e w5 ⟨gb, rfl, hb, hbe, hge⟩; have HE5 : Hid (Ext w2 w5) := (Ext.drew _).trans hbe; have HGB := Lib.hid hb; have HS5 : Hid (Blk w5 g 160 cs) := HS2.out.chg (Chg.of_below HE5.out) (by have := HS2.out.lt; omega); have HB5 : Hid (Blk w5 w.heap.size 156 #[.int .i64 t, .int .i64 m]) := HB2.out.chg (Chg.of_below HE5.out) (by have := HB2.out.lt; omega); have y0 : w5.cell? ⟨g, 0, none⟩ = some (.pointer (some ⟨u.g, 0, none⟩)) := by { rw [HS5.out.cell]; exact HC.out }; have y1 : w5.cell? ⟨w.heap.size, 0, none⟩ = some (.int .i64 t) := HB5.out.cell 0; have y2 : w5.cell? ⟨w.heap.size, 1, none⟩ = some (.int .i64 m) := HB5.out.cell 1; clear hb hbe hge)
            | (go_at_call 15; have hdw2 := dwrite_any w5 u2 n _ (HU2.out.ext HE5.out) ((t : Int) % 2) (some ⟨gb, 0, none⟩) 7 7 (hbs t m) rfl hws2 (bytes_blk HGB.out) (by rintro _ x hx; injection hx with hx; subst hx; exact HGB.out.ne_ (HU2.out.ext HE5.out).blk (by decide)); rw [HG2.out] at hdw2; refine hdw2.mono ?_; rintro e w6 ⟨u6, rfl, hu6, hm6⟩; clear hdw2; have HM6 : Hid (DMoved w5 u2 u6 w6) := hm6; have HU6 := Lib.hid hu6; clear hu6 hm6; have HS6 : Hid (Blk w6 g 160 cs) := HS5.out.chg HM6.out.2.1 ((HU2.out.ext HE5.out).notyp HS5.out (by decide)); have HB6 : Hid (Blk w6 w.heap.size 156 #[.int .i64 t, .int .i64 m]) := HB5.out.chg HM6.out.2.1 ((HU2.out.ext HE5.out).notyp HB5.out (by decide));  have z0 : w6.cell? ⟨g, 0, none⟩ = some (.pointer (some ⟨u.g, 0, none⟩)) := by { rw [HS6.out.cell]; exact HC.out }; have z1 : w6.cell? ⟨w.heap.size, 0, none⟩ = some (.int .i64 t) := HB6.out.cell 0; have z2 : w6.cell? ⟨w.heap.size, 1, none⟩ = some (.int .i64 m) := HB6.out.cell 1))
        have HME : Hid (DMoved w u u6 w6) := (HM2.out.trans (DMoved.of_ext u2 HE5.out)).trans HM6.out
        have HG6 : Hid (u6.g = u.g) := HME.out.1
        clear HE5 HGB HS5 HB5 y0 y1 y2 HM6 HS2 HB2 cS2 x0 x1 HU2 HM2 HB6 z1 z2 hws2
        rcases hwe : wrErr n (DK.sync (DK.step d')) ((t : Int) % 2) (hbs t m) with _ | x
        · have HL3 : Hid (layR n d t b = syR (wrTo n (DK.sync (DK.step d')) ((t : Int) % 2) (hbs t m))) := by rw [Hid, HL2.out, layH, hwe]
          rw [optErr_none]
          clear hwe HL2
          go_wp2_with fail
          have hs := dsync_any w6 u6 n _ HU6.out
          rw [HG6.out] at hs
          refine hs.mono ?_
          rintro e w7 ⟨u7, rfl, hu7, hm7⟩
          clear hs
          by_cases hst : DK.stopped (wrTo n (DK.sync (DK.step d')) ((t : Int) % 2) (hbs t m)) = true
          · rw [if_pos hst] at hu7 ⊢
            have HE : Hid (LayPost w u n (layR n d t b) (.returned (derrV 8)) w7) := by
              rw [Hid, HL3.out, syR, if_pos hst]
              exact ⟨u7, rfl, hu7, HME.out.trans hm7⟩
            clear hu7 hm7 hst
            go_wp2
            go_ret
            exact HE.out
          · rw [if_neg hst] at hu7 ⊢
            have HE : Hid (LayPost w u n (layR n d t b) (.returned .nilIface) w7) := by
              rw [Hid, HL3.out, syR, if_neg hst]
              exact ⟨u7, rfl, hu7, HME.out.trans hm7⟩
            clear hu7 hm7 hst
            go_wp2
            go_ret
            exact HE.out
        · have HE : Hid (LayPost w u n (layR n d t b) (.returned (derrV x)) w6) := by
            rw [Hid, HL2.out, layH, hwe]
            exact ⟨u6, rfl, HU6.out, HME.out⟩
          rw [optErr_some]
          clear hwe HL2
          go_wp2
          go_ret
          exact HE.out
    · have h0' : (0 : Int) < (m' : Int) := by omega
      obtain ⟨⟨f, d', b', u', hlw, hbl, hmf, hD, hMv, hB, hBf, hdw, hi0, hi1⟩, hbox⟩ := hR.out
      have HLW := Lib.hid hlw
      have HBL := Lib.hid hbl
      have HD := Lib.hid hD
      have HMv := Lib.hid hMv
      have HB := Lib.hid hB
      have HBF := Lib.hid hBf
      have HBX := Lib.hid hbox
      have HG := Lib.hid hMv.1
      have HSr : Hid (Blk wr g 160 cs) := HS.out.chg hMv.2.1 (HH.out.notyp HS.out (by decide))
      have cS : wr.cell? ⟨g, 0, none⟩ = some (.pointer (some ⟨u.g, 0, none⟩)) := by rw [HSr.out.cell]; exact HC.out
      obtain ⟨bg, bo, rfl⟩ := bytes_form hB (by omega)
      obtain ⟨f1, rfl⟩ : ∃ f1, f = f1 + 1 := ⟨f - 1, by omega⟩
      clear hlw hbl hD hMv hB hBf hbox
      have hBw : Hid (BytesAt wr (some ⟨bg, bo, none⟩) (b'.take 32)) := (HB.out.chg HMv.out.2.1 (fun hne x hx => (HBF.out hne x hx).1)).take 32
      have hnu : Hid (b'.take 32 ≠ [] → ∀ x, some (⟨bg, bo, none⟩ : Addr) = some x → x.block ≠ u'.g) := fun hne x hx => by
        have hne' : b' ≠ [] := fun h => hne (by rw [h]; rfl)
        have := (HBF.out hne' x hx).1
        rw [HG.out]
        exact fun h => this (.inl h)
      have hk : ∃ k : Nat, ((m' ≤ 32 ∧ k = m') ∨ (32 < m' ∧ k = 32)) ∧ Hid ((b'.take 32).length = k) := by
        by_cases c32 : m' ≤ 32
        · exact ⟨m', .inl ⟨c32, rfl⟩, by rw [Hid, List.length_take, HBL.out]; omega⟩
        · exact ⟨32, .inr ⟨by omega, rfl⟩, by rw [Hid, List.length_take, HBL.out]; omega⟩
      obtain ⟨k, hkc, HLK⟩ := hk
      clear hR HR0
      have hkc2 : (k : Int) ≤ (c' : Int) := by omega
      have hkc3 : 32 < m' → (32 : Int) ≤ (c' : Int) := by omega
      rcases hkc with ⟨hk, rfl⟩ | ⟨hk, rfl⟩
      · clear hkc3
        go_wp2_with fail
        go_region_held3 (fun w' => w'.cell? ⟨g, 0, none⟩ = some (.pointer (some ⟨u.g, 0, none⟩))) (go_keep)
          ((go_at_call 15; have hdw2 := dwrite_any wr.drew u' n d' (HD.out.ext (Ext.drew wr)) i (some ⟨bg, bo, none⟩) _ c' (b'.take 32) HLK.out (by omega) (hBw.out.ext (Ext.drew wr)) hnu.out; rw [HG.out] at hdw2; refine hdw2.mono ?_; rintro e w5 ⟨u5, rfl, hu5, hm5⟩; clear hdw2; have HM5 : Hid (DMoved wr u' u5 w5) := ⟨hm5.1, hm5.2.1.undrew, hm5.2.2⟩; have HU5 := Lib.hid hu5; clear hu5 hm5; have HS5 : Hid (Blk w5 g 160 cs) := HSr.out.chg HM5.out.2.1 (HD.out.notyp HSr.out (by decide)); have y0 : w5.cell? ⟨g, 0, none⟩ = some (.pointer (some ⟨u.g, 0, none⟩)) := by rw [HS5.out.cell]; exact HC.out))
        rcases hwe : wrErr n d' i (b'.take 32) with _ | x
        · have HN : Hid (layW n 30 d (2 + (t : Int) % 2 * 30) b = layW n f1 (wrTo n d' i (b'.take 32)) (i + 1) (b'.drop 32)) := by rw [Hid, HLW.out]; exact layW_none (by rw [HBL.out]; exact h0) hwe
          rw [optErr_none]
          clear hwe HLW
          have HLR : ∀ A2, Hid (LyR w u n d (2 + (t : Int) % 2 * 30) b w.heap.size #[.int .i64 t, .int .i64 m] A2 0 (i + 1) w5) := fun A2 =>
            ⟨⟨f1, _, b'.drop 32, u5, HN.out, by rw [List.length_drop, HBL.out]; omega, by omega, HU5.out, HMv.out.trans HM5.out, .inl (List.drop_eq_nil_of_le (by rw [HBL.out]; exact hk)), fun hne => (hne (List.drop_eq_nil_of_le (by rw [HBL.out]; exact hk))).elim, by have := wrTo_ws n d' i (b'.take 32); omega, by omega, by omega⟩, HBX.out.chg HM5.out.2.1 (HD.out.notyp HBX.out (by decide))⟩
          go_wp2
          exact ⟨⟨_, _, _, _, rfl, rfl, by omega, by omega, HLR _⟩, by simp; omega⟩
        · rw [optErr_some]
          have HE : Hid (LayPost w u n (layR n d t b) (.returned (derrV x)) w5) := by
            have h1 : layW n 30 d (2 + (t : Int) % 2 * 30) b = (some x, wrTo n d' i (b'.take 32)) := by rw [HLW.out]; exact layW_some (by rw [HBL.out]; exact h0) hwe
            have h2 : layR n d t b = (some x, wrTo n d' i (b'.take 32)) := by rw [layR_some (by rw [h1]), h1]
            rw [Hid, h2]
            exact ⟨u5, rfl, HU5.out, HMv.out.trans HM5.out⟩
          clear hwe HLW
          go_wp2
          go_ret
          exact HE.out
      · replace hkc3 := hkc3 hk
        clear hkc2
        go_wp2_with fail
        go_region_held3 (fun w' => w'.cell? ⟨g, 0, none⟩ = some (.pointer (some ⟨u.g, 0, none⟩))) (go_keep)
          ((go_at_call 15; have hdw2 := dwrite_any wr.drew u' n d' (HD.out.ext (Ext.drew wr)) i (some ⟨bg, bo, none⟩) _ c' (b'.take 32) HLK.out (by omega) (hBw.out.ext (Ext.drew wr)) hnu.out; rw [HG.out] at hdw2; refine hdw2.mono ?_; rintro e w5 ⟨u5, rfl, hu5, hm5⟩; clear hdw2; have HM5 : Hid (DMoved wr u' u5 w5) := ⟨hm5.1, hm5.2.1.undrew, hm5.2.2⟩; have HU5 := Lib.hid hu5; clear hu5 hm5; have HS5 : Hid (Blk w5 g 160 cs) := HSr.out.chg HM5.out.2.1 (HD.out.notyp HSr.out (by decide)); have y0 : w5.cell? ⟨g, 0, none⟩ = some (.pointer (some ⟨u.g, 0, none⟩)) := by rw [HS5.out.cell]; exact HC.out))
        rcases hwe : wrErr n d' i (b'.take 32) with _ | x
        · have HN : Hid (layW n 30 d (2 + (t : Int) % 2 * 30) b = layW n f1 (wrTo n d' i (b'.take 32)) (i + 1) (b'.drop 32)) := by rw [Hid, HLW.out]; exact layW_none (by rw [HBL.out]; exact h0) hwe
          rw [optErr_none]
          clear hwe HLW
          have HLR : Hid (LyR w u n d (2 + (t : Int) % 2 * 30) b w.heap.size #[.int .i64 t, .int .i64 m] (some ⟨bg, bo + 32, none⟩) (m' - 32) (i + 1) w5) :=
            ⟨⟨f1, _, b'.drop 32, u5, HN.out, by rw [List.length_drop, HBL.out], by omega, HU5.out, HMv.out.trans HM5.out, HB.out.drop 32, fun hne x hx => by
              have hne' : b' ≠ [] := fun h => hne (by rw [h]; rfl)
              have := HBF.out hne' _ rfl
              injection hx with hx; subst hx; exact this, by have := wrTo_ws n d' i (b'.take 32); omega, by omega, by omega⟩, HBX.out.chg HM5.out.2.1 (HD.out.notyp HBX.out (by decide))⟩
          go_wp2
          exact ⟨⟨_, _, _, _, rfl, rfl, by omega, by omega, HLR⟩, by simp; omega⟩
        · rw [optErr_some]
          have HE : Hid (LayPost w u n (layR n d t b) (.returned (derrV x)) w5) := by
            have h1 : layW n 30 d (2 + (t : Int) % 2 * 30) b = (some x, wrTo n d' i (b'.take 32)) := by rw [HLW.out]; exact layW_some (by rw [HBL.out]; exact h0) hwe
            have h2 : layR n d t b = (some x, wrTo n d' i (b'.take 32)) := by rw [layR_some (by rw [h1]), h1]
            rw [Hid, h2]
            exact ⟨u5, rfl, HU5.out, HMv.out.trans HM5.out⟩
          clear hwe HLW
          go_wp2
          go_ret
          exact HE.out
end Go.Proofs.YtenjblonepegfaaDoor
