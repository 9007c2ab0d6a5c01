/-
  Walk of store.Open. Conditions: the disk lies as 'DAt' says; its pages are heads, blank, and the bytes of the best of them.
-/
import Derived.Test.YtenjblonepegfaaDoorSt13
namespace Go.Proofs.YtenjblonepegfaaDoor
open Go Go.RowKit
set_option linter.unusedVariables false

set_option maxHeartbeats 2000000 in
set_option maxRecDepth 100000 in
theorem open_any (w : World) (u : Dsk) (n : Nat) (d : DK.D) (h : DAt w u n d) (hn : 62 ≤ n) (T L : Nat → Int) (hT : ∀ i, i < 2 → HeadAt d i (T i) (L i)) (t l : Nat) (b : List Int) (hb : b.length = l) (hl : l ≤ 960) (ht : t ≤ 200) (hbest : bestH T L 2 = ((t : Int), (l : Int)))
    (hp : ∀ i, 32 * i < l → d.now[2 + t % 2 * 30 + i]? = some (DK.put ((b.drop (32 * i)).take 32))) :
    Calls Tryd.prog 41 #[.pointer (some ⟨u.g, 0, none⟩)] w (OpenPost w u t b) := by
  have HH := Lib.hid h
  have HT := Lib.hid hT
  have HB := Lib.hid hb
  have HBE := Lib.hid hbest
  have HP := Lib.hid hp
  have h1 : ¬ ((n : Int) < 62) := by omega
  clear h hT hb hbest hp
  go_enter Tryd.func41, Tryd.ntmps41
  go_wp2_with fail
  refine (dpages_any w u n d HH.out).mono ?_
  rintro e w' ⟨rfl, rfl⟩
  go_wp2_with fail
  have HR0 : Hid (OpR w w.heap.size (bestH T L 0).1 (bestH T L 0).2 (w.alloc (.cells #[.int .i64 (-1), .int .i64 0] 156))) := ⟨Ext.alloc _ _, Blk.new _ _ _⟩
  go_loopw [17] (fun v wr => ∃ i : Nat, i ≤ 2 ∧ v = .int .i64 i ∧ Hid (OpR w w.heap.size (bestH T L i).1 (bestH T L i).2 wr)) (fun v _ => 2 - (intOf v).toNat)
  case atStart => exact ⟨0, by omega, rfl, HR0⟩
  case round =>
    obtain ⟨i, hi, rfl, hR⟩ := hrel
    clear HR0
    by_cases hi2 : i < 2
    · have hi2' : (i : Int) < 2 := by omega
      obtain ⟨hE, hb⟩ := hR.out
      have HE := Lib.hid hE
      have HBK := Lib.hid hb
      clear hE hb hR
      go_wp2_with fail
      refine (readat_any wr u n d (HH.out.ext HE.out) i _ _ (HT.out i hi2)).mono ?_
      rintro e w1 ⟨rfl, hx⟩
      have HX := Lib.hid hx
      clear hx
      obtain ⟨ti, hti⟩ : ∃ x, x = T i := ⟨_, rfl⟩
      obtain ⟨li, hli⟩ : ∃ x, x = L i := ⟨_, rfl⟩
      have HBi : Hid (bestH T L (i + 1) = if (bestH T L i).1 < ti then (ti, li) else bestH T L i) := by rw [hti, hli]; rfl
      rw [← hti, ← hli]
      clear hti hli
      obtain ⟨bt, hbt⟩ : ∃ x, x = (bestH T L i).1 := ⟨_, rfl⟩
      obtain ⟨bl, hbl⟩ : ∃ x, x = (bestH T L i).2 := ⟨_, rfl⟩
      rw [← hbt] at HBi HBK
      rw [← hbl] at HBK
      have HBT := Lib.hid hbt
      have HBL := Lib.hid hbl
      clear hbt hbl
      have HB1 : Hid (Blk w1 w.heap.size 156 #[.int .i64 bt, .int .i64 bl]) := HBK.out.chg (Chg.of_below HX.out) (by have := HBK.out.lt; omega)
      have HBn : Hid (Blk (w1.alloc (.cells #[.int .i64 ti, .int .i64 li] 156)) w.heap.size 156 #[.int .i64 bt, .int .i64 bl]) := HB1.out.alloc _
      have x0 : (w1.alloc (.cells #[.int .i64 ti, .int .i64 li] 156)).cell? ⟨w.heap.size, 0, none⟩ = some (.int .i64 bt) := HBn.out.cell 0
      have x1 : (w1.alloc (.cells #[.int .i64 ti, .int .i64 li] 156)).cell? ⟨w.heap.size, 1, none⟩ = some (.int .i64 bl) := HBn.out.cell 1
      have f0 := HBn.out.frozen 0
      have f1 := HBn.out.frozen 1
      by_cases hc : bt < ti
      · have HN : Hid (OpR w w.heap.size (bestH T L (i + 1)).1 (bestH T L (i + 1)).2 (((w1.alloc (.cells #[.int .i64 ti, .int .i64 li] 156)).setCell ⟨w.heap.size, 0, none⟩ (.int .i64 ti)).setCell ⟨w.heap.size, 1, none⟩ (.int .i64 li))) := by
          rw [HBi.out, if_pos hc]
          refine ⟨?_, by simpa using (HBn.out.set_ 0 (.int .i64 ti)).set_ 1 (.int .i64 li)⟩
          exact (((Chg.of_below (Ext.trans (Ext.trans HE.out HX.out) (Ext.alloc _ _))).setCell (p := ⟨w.heap.size, 0, none⟩) (fun _ => Nat.le_refl _) _).setCell (p := ⟨w.heap.size, 1, none⟩) (fun _ => Nat.le_refl _) _).below (Nat.le_refl _) (fun _ _ h => h)
        clear HBi
        go_wp2
        exact ⟨⟨i + 1, by omega, by go_num, HN⟩, by simp [intOf]; omega⟩
      · have HN : Hid (OpR w w.heap.size (bestH T L (i + 1)).1 (bestH T L (i + 1)).2 (w1.alloc (.cells #[.int .i64 ti, .int .i64 li] 156))) := by
          rw [HBi.out, if_neg hc, ← HBT.out, ← HBL.out]
          exact ⟨Ext.trans (Ext.trans HE.out HX.out) (Ext.alloc _ _), HBn.out⟩
        clear HBi
        go_wp2
        exact ⟨⟨i + 1, by omega, by go_num, HN⟩, by simp [intOf]; omega⟩
    · have e2 : i = 2 := by omega
      subst e2
      rw [HBE.out] at hR
      obtain ⟨hE, hb⟩ := hR.out
      have HE := Lib.hid hE
      have HBK := Lib.hid hb
      have x0 : wr.cell? ⟨w.heap.size, 0, none⟩ = some (.int .i64 t) := hb.cell 0
      have x1 : wr.cell? ⟨w.heap.size, 1, none⟩ = some (.int .i64 l) := hb.cell 1
      clear hE hb hR
      have HS0 : Hid (OpS w u w.heap.size wr.heap.size t l b 0 (wr.alloc (.cells #[.pointer (some ⟨u.g, 0, none⟩), .int .i64 t, .int .i64 l, .slice none 0 0, .bool false] 160))) := by
        refine ⟨⟨Ext.trans HE.out (Ext.alloc _ _), HBK.out.alloc _⟩, _, Blk.new _ _ _, ?_, fun k hk => by simp [Value.ownBlock] at hk⟩
        simpa [DK.pgv] using World.ownsRow_nil _ 0 _ 1
      obtain ⟨gs, hgs⟩ : ∃ x, x = wr.heap.size := ⟨_, rfl⟩
      rw [← hgs] at HS0
      have HGS := Lib.hid hgs
      have hgw : w.heap.size ≤ gs := by have := HE.out.size; omega
      clear hgs
      go_wp2_with fail
      rw [← HGS.out]
      obtain ⟨wq, hwq⟩ : ∃ x, x = wr := ⟨_, rfl⟩
      subst hwq
      clear x0 x1 HBK HE HGS
      go_loopw [9] (fun v wr => ∃ i : Nat, i ≤ 30 ∧ v = .int .i64 i ∧ Hid (OpS w u w.heap.size gs t l b i wr)) (fun v _ => 31 - (intOf v).toNat)
      case atStart => exact ⟨0, by omega, rfl, HS0⟩
      case round =>
        obtain ⟨i, hi30, rfl, hR⟩ := hrel
        clear HS0
        obtain ⟨⟨hE, hbk⟩, v, hbs, hrow, hnew⟩ := hR.out
        have HE := Lib.hid hE
        have HBK := Lib.hid hbk
        have HBS := Lib.hid hbs
        have HROW := Lib.hid hrow
        have HNEW : Hid (∀ k, v.ownBlock = some k → w.heap.size ≤ k) := hnew
        have x0 : wr.cell? ⟨w.heap.size, 0, none⟩ = some (.int .i64 t) := hbk.cell 0
        have x1 : wr.cell? ⟨w.heap.size, 1, none⟩ = some (.int .i64 l) := hbk.cell 1
        clear hE hbk hbs hrow hnew hR
        by_cases hil : 32 * i < l
        · have hil' : (i : Int) * 32 < (l : Int) := by omega
          have hk : ((2 + t % 2 * 30 + i : Nat) : Int) = 2 + (t : Int) % 2 * 30 + (i : Int) := by omega
          have hd := dread_yes wr u n d (HH.out.ext HE.out) (2 + t % 2 * 30 + i) _ (HP.out i hil)
          rw [hk] at hd
          have HD := Lib.hid hd
          clear hk hd
          go_wp2_with fail
          refine (stfirst_any _ t (by omega)).mono ?_
          rintro e w' ⟨rfl, rfl⟩
          go_wp2_with fail
          refine HD.out.mono ?_
          rintro e w1 ⟨bg, bc, rfl, hge, hown, hbel⟩
          have hbc : 32 ≤ bc := by obtain ⟨A, c, h1, h2⟩ := own_slice3 hown; injection h1 with h1 h2' h3; omega
          have HO := Lib.hid hown
          have HW1 : Hid (Ext wr w1) := hbel
          have HK1 : Hid (Blk w1 w.heap.size 156 #[.int .i64 t, .int .i64 l]) := HBK.out.chg (Chg.of_below hbel) (by have := HBK.out.lt; omega)
          have HS1 : Hid (Blk w1 gs 160 #[.pointer (some ⟨u.g, 0, none⟩), .int .i64 t, .int .i64 l, v, .bool false]) := HBS.out.chg (Chg.of_below hbel) (by have := HBS.out.lt; omega)
          obtain ⟨q, hq⟩ : ∃ q, (b.take (32 * i)).length = q := ⟨_, rfl⟩
          have HQ := Lib.hid hq
          rw [hq] at HROW
          have HR1 : Hid (w1.ownsRow 0 5 1 v q (DK.pgv (b.take (32 * i)))) := own_chg HROW.out (Chg.of_below hbel) (fun k hk => by have := own_lt HROW.out hk; omega)
          have y1 : w1.cell? ⟨w.heap.size, 1, none⟩ = some (.int .i64 l) := HK1.out.cell 1
          have y3 : w1.cell? ⟨gs, 3, none⟩ = some v := HS1.out.cell 3
          have z3 := HS1.out.frozen 3
          have HLI : Hid (q ≤ 960) := by rw [Hid, ← hq, List.length_take, HB.out]; omega
          clear hown hbel hge HD x0 x1 HBK HBS HROW hq
          have hbc' : (32 : Int) ≤ (bc : Int) := by omega
          have wi : IntKind.i64.wrap ((i : Int) * 32) = (i : Int) * 32 := IntWalk.i64_in _ (by omega)
          obtain ⟨K, hK⟩ : ∃ K, K = l - 32 * i := ⟨_, rfl⟩
          have wk : IntKind.i64.wrap ((l : Int) - (i : Int) * 32) = (K : Int) := (IntWalk.i64_in _ (by omega)).trans (by omega)
          by_cases hc : K < 32
          · have k2 : (K : Int) < 32 := by omega
            have k3 : (K : Int) ≤ (bc : Int) := by omega
            have hk0 : 0 < K := by omega
            have HKL : Hid (((b.drop (32 * i)).take 32).length = K) := by rw [Hid, List.length_take, List.length_drop, HB.out]; omega
            clear hK hc
            go_wp2_with fail
            go_region_law (first
              | (refine step_append_bytes _ (by rfl) (.tmp 68) (.tmp 76) 33 rfl 5 _ 1 Tryd.underlying33 infoByte (by rfl) v _ _ (by rfl) HR1.out ⟨bg, 0, none⟩ K bc (DK.pgv ((b.drop (32 * i)).take 32)) (by rfl) (by rw [DK.pgv, List.length_map]; exact HKL.out) (page_cells HO.out (by rw [HKL.out]; omega)) pgv_one (by omega) ⟨by have := HLI.out; omega, by omega⟩ ?_; intro g2 c2 w2 ho hch hat; obtain ⟨q1, q2, HN⟩ := OpS.next (Ext.trans HE.out HW1.out) hgw HK1.out HS1.out HNEW.out HR1.out HQ.out HKL.out ho hch.undrew hat; clear ho hch hat) | fail)
            all_goals
              clear q1 q2 y1 y3 z3
              go_wp2
              exact ⟨⟨i + 1, by omega, by go_num, HN⟩, by simp [intOf]; omega⟩
          · have k2 : (if (K : Int) < 32 then (K : Int) else 32) = 32 := if_neg (by omega)
            have HKL : Hid (((b.drop (32 * i)).take 32).length = 32) := by rw [Hid, List.length_take, List.length_drop, HB.out]; omega
            clear hK hc
            go_wp2_with fail
            go_region_law (first
              | (refine step_append_bytes _ (by rfl) (.tmp 68) (.tmp 76) 33 rfl 5 _ 1 Tryd.underlying33 infoByte (by rfl) v _ _ (by rfl) HR1.out ⟨bg, 0, none⟩ 32 bc (DK.pgv ((b.drop (32 * i)).take 32)) (by rfl) (by rw [DK.pgv, List.length_map]; exact HKL.out) (page_cells HO.out (by rw [HKL.out]; omega)) pgv_one (by omega) ⟨by have := HLI.out; omega, by omega⟩ ?_; intro g2 c2 w2 ho hch hat; obtain ⟨q1, q2, HN⟩ := OpS.next (Ext.trans HE.out HW1.out) hgw HK1.out HS1.out HNEW.out HR1.out HQ.out HKL.out ho hch.undrew hat; clear ho hch hat) | fail)
            all_goals
              clear q1 q2 y1 y3 z3
              go_wp2
              exact ⟨⟨i + 1, by omega, by go_num, HN⟩, by simp [intOf]; omega⟩
        · have hil' : ¬ (i : Int) * 32 < (l : Int) := by omega
          have hbt : b.take (32 * i) = b := List.take_of_length_le (by rw [HB.out]; omega)
          rw [hbt] at HROW
          have HPO : Hid (OpenPost w u t b (.returned (.tuple #[.pointer (some ⟨gs, 0, none⟩), .nilIface])) wr) :=
            ⟨gs, v, rfl, ⟨by rw [HB.out]; exact HBS.out, HROW.out⟩, HE.out, hgw, HNEW.out⟩
          clear hbt HROW HBS HBK HNEW
          go_wp2
          go_ret2
          exact HPO.out
end Go.Proofs.YtenjblonepegfaaDoor
