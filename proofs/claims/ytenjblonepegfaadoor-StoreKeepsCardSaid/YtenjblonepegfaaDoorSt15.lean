/-
  Walk of store.Open at a disk without a head. Conditions: the disk lies as 'DAt' says; the best of its heads has a turn below zero.
-/
import Derived.Test.YtenjblonepegfaaDoorSt14
namespace Go.Proofs.YtenjblonepegfaaDoor
open Go Go.RowKit
set_option linter.unusedVariables false

set_option maxHeartbeats 2000000 in
set_option maxRecDepth 100000 in
theorem open_blank (w : World) (u : Dsk) (n : Nat) (d : DK.D) (h : DAt w u n d) (hn : 62 ≤ n) (T L : Nat → Int) (hT : ∀ i, i < 2 → HeadAt d i (T i) (L i)) (hbest : bestH T L 2 = (-1, 0)) :
    Calls Tryd.prog 41 #[.pointer (some ⟨u.g, 0, none⟩)] w fun e w' => e = .returned (.tuple #[.pointer none, derrV 5]) ∧ Ext w w' := by
  have HH := Lib.hid h
  have HT := Lib.hid hT
  have HBE := Lib.hid hbest
  have h1 : ¬ ((n : Int) < 62) := by omega
  clear h hT hbest
  go_enter Tryd.func41, Tryd.ntmps41
  go_wp2_with fail
  refine (dpages_any w u n d HH.out).mono ?_
  rintro e w' ⟨rfl, rfl⟩
  go_wp2_with fail
  have HR0 : Hid (OpR w w.heap.size (bestH T L 0).1 (bestH T L 0).2 (w.alloc (.cells #[.int .i64 (-1), .int .i64 0] 156))) := ⟨Ext.alloc _ _, Blk.new _ _ _⟩
  go_loopw [17] (fun v wr => ∃ i : Nat, i ≤ 2 ∧ v = .int .i64 i ∧ Hid (OpR w w.heap.size (bestH T L i).1 (bestH T L i).2 wr)) (fun v _ => 2 - (intOf v).toNat)
  case atStart => exact ⟨0, by omega, rfl, HR0⟩
  case round =>
    obtain ⟨i, hi, rfl, hR⟩ := hrel
    clear HR0
    by_cases hi2 : i < 2
    · have hi2' : (i : Int) < 2 := by omega
      obtain ⟨hE, hb⟩ := hR.out
      have HE := Lib.hid hE
      have HBK := Lib.hid hb
      clear hE hb hR
      go_wp2_with fail
      refine (readat_any wr u n d (HH.out.ext HE.out) i _ _ (HT.out i hi2)).mono ?_
      rintro e w1 ⟨rfl, hx⟩
      have HX := Lib.hid hx
      clear hx
      obtain ⟨ti, hti⟩ : ∃ x, x = T i := ⟨_, rfl⟩
      obtain ⟨li, hli⟩ : ∃ x, x = L i := ⟨_, rfl⟩
      have HBi : Hid (bestH T L (i + 1) = if (bestH T L i).1 < ti then (ti, li) else bestH T L i) := by rw [hti, hli]; rfl
      rw [← hti, ← hli]
      clear hti hli
      obtain ⟨bt, hbt⟩ : ∃ x, x = (bestH T L i).1 := ⟨_, rfl⟩
      obtain ⟨bl, hbl⟩ : ∃ x, x = (bestH T L i).2 := ⟨_, rfl⟩
      rw [← hbt] at HBi HBK
      rw [← hbl] at HBK
      have HBT := Lib.hid hbt
      have HBL := Lib.hid hbl
      clear hbt hbl
      have HB1 : Hid (Blk w1 w.heap.size 156 #[.int .i64 bt, .int .i64 bl]) := HBK.out.chg (Chg.of_below HX.out) (by have := HBK.out.lt; omega)
      have HBn : Hid (Blk (w1.alloc (.cells #[.int .i64 ti, .int .i64 li] 156)) w.heap.size 156 #[.int .i64 bt, .int .i64 bl]) := HB1.out.alloc _
      have x0 : (w1.alloc (.cells #[.int .i64 ti, .int .i64 li] 156)).cell? ⟨w.heap.size, 0, none⟩ = some (.int .i64 bt) := HBn.out.cell 0
      have x1 : (w1.alloc (.cells #[.int .i64 ti, .int .i64 li] 156)).cell? ⟨w.heap.size, 1, none⟩ = some (.int .i64 bl) := HBn.out.cell 1
      have f0 := HBn.out.frozen 0
      have f1 := HBn.out.frozen 1
      by_cases hc : bt < ti
      · have HN : Hid (OpR w w.heap.size (bestH T L (i + 1)).1 (bestH T L (i + 1)).2 (((w1.alloc (.cells #[.int .i64 ti, .int .i64 li] 156)).setCell ⟨w.heap.size, 0, none⟩ (.int .i64 ti)).setCell ⟨w.heap.size, 1, none⟩ (.int .i64 li))) := by
          rw [HBi.out, if_pos hc]
          refine ⟨?_, by simpa using (HBn.out.set_ 0 (.int .i64 ti)).set_ 1 (.int .i64 li)⟩
          exact (((Chg.of_below (Ext.trans (Ext.trans HE.out HX.out) (Ext.alloc _ _))).setCell (p := ⟨w.heap.size, 0, none⟩) (fun _ => Nat.le_refl _) _).setCell (p := ⟨w.heap.size, 1, none⟩) (fun _ => Nat.le_refl _) _).below (Nat.le_refl _) (fun _ _ h => h)
        clear HBi
        go_wp2
        exact ⟨⟨i + 1, by omega, by go_num, HN⟩, by simp [intOf]; omega⟩
      · have HN : Hid (OpR w w.heap.size (bestH T L (i + 1)).1 (bestH T L (i + 1)).2 (w1.alloc (.cells #[.int .i64 ti, .int .i64 li] 156))) := by
          rw [HBi.out, if_neg hc, ← HBT.out, ← HBL.out]
          exact ⟨Ext.trans (Ext.trans HE.out HX.out) (Ext.alloc _ _), HBn.out⟩
        clear HBi
        go_wp2
        exact ⟨⟨i + 1, by omega, by go_num, HN⟩, by simp [intOf]; omega⟩
    · have e2 : i = 2 := by omega
      subst e2
      rw [HBE.out] at hR
      obtain ⟨hE, hb⟩ := hR.out
      have HE := Lib.hid hE
      have HBK := Lib.hid hb
      have x0 : wr.cell? ⟨w.heap.size, 0, none⟩ = some (.int .i64 (-1)) := hb.cell 0
      have x1 : wr.cell? ⟨w.heap.size, 1, none⟩ = some (.int .i64 0) := hb.cell 1
      clear hE hb hR
      go_wp2
      go_ret2
      exact ⟨rfl, HE.out⟩
end Go.Proofs.YtenjblonepegfaaDoor
