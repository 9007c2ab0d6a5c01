/-
  The references' disk: NewDisk's walk. Condition: 0 < n ≤ 80.
-/
import Derived.Test.YtenjblonepegfaaDoorRd4
namespace Go.Proofs.YtenjblonepegfaaDoor
open Go Go.RowKit
set_option linter.unusedVariables false

set_option maxHeartbeats 2000000 in
set_option maxRecDepth 100000 in
theorem rnew_any (w : World) (n : Nat) (h1 : 0 < n) (h2 : n ≤ 80) :
    Calls Tryd.prog 13 #[.int .i64 n] w (RNew w n) := by
  have HZ := Lib.hid (NR.zero w)
  have H1 := Lib.hid h1
  clear h1
  go_enter Tryd.func13, Tryd.ntmps13
  go_wp2
  go_loopw [4] (fun v4 wr => ∃ k : Nat, k ≤ n ∧ v4 = .int .i64 k ∧ Hid (NRel w w.heap.size k wr)) (fun v4 _ => n - (intOf v4).toNat)
  case atStart => exact ⟨0, by omega, rfl, _, _, _, _, HZ.out⟩
  case round =>
    obtain ⟨k, hk, rfl, hR⟩ := hrel
    by_cases hkn : k < n
    · obtain ⟨kv, nv, K, N, hR⟩ := hR.out
      have HR := Lib.hid hR
      have hkn' : (k : Int) < (n : Int) := by omega
      have e0 : wr.cell? ⟨w.heap.size, 0, none⟩ = some kv := hR.blk.cell 0
      clear hR
      go_wp2_with fail
      go_region_law (first
        | (refine step_call (by rfl) 61 #[] #[] (by rfl) #[] (by simp) (callsBlank _) (blank_any _) ?_; rintro e w1 ⟨b, rfl, hb, hbl, hbb⟩; refine ⟨_, rfl, ?_⟩; have HB1 : Hid (Ext wr w1) := (Ext.drew wr).trans hbl; have HR1 := Lib.hid (HR.out.ext HB1.out); have e1 : w1.cell? ⟨w.heap.size, 0, none⟩ = some kv := HR1.out.blk.cell 0; have e2 : ∀ o, (w1.alloc o).cell? ⟨w.heap.size, 0, none⟩ = some kv := (fun o => (HR1.out.blk.alloc o).cell 0); have HBK := Lib.hid hb; clear hb hbl hbb)
        | (refine step_push _ (by rfl) (.tmp 16) (.tmp 18) 43 (by rfl) 33 (.slice none 0 0) 24 Tryd.underlying43 infoPg (by rfl) kv k (K.map pv) (by rfl) (HR1.out.rk.alloc _) ⟨by omega, by omega⟩ (.slice (some ⟨b, 0, none⟩) 32 32) w1.heap.size (by rfl) (cell_new1 rfl _ _) (by rfl) ?_; intro g1 c1 w2 ho hc hat; have HP := Lib.hid (HR1.out.push1 HBK.out ho hc hat); have f1 : w2.cell? ⟨w.heap.size, 0, none⟩ = some kv := HP.out.1.cell 0; have f2 := HP.out.1.frozen 0; clear ho hc hat))
      all_goals
        have HP2 := Lib.hid HP.out.2
        clear f1 f2 e0 e1 e2 HP HR1 HB1 HBK HR
        generalize (w2.setCell ⟨w.heap.size, 0, none⟩ (.slice (some ⟨g1, 0, none⟩) (k + 1) c1)) = w3 at HP2 ⊢
        have HR := HP2
        have e0 : w3.cell? ⟨w.heap.size, 1, none⟩ = some nv := HR.out.blk.cell 1
        clear HP2
        generalize Value.slice (some ⟨g1, 0, none⟩) (k + 1) c1 = kv2 at HR ⊢
        go_wp2_with fail
        go_region_law (first
          | (refine step_call (by rfl) 61 #[] #[] (by rfl) #[] (by simp) (callsBlank _) (blank_any _) ?_; rintro e w1 ⟨b, rfl, hb, hbl, hbb⟩; refine ⟨_, rfl, ?_⟩; have HB1 : Hid (Ext w3 w1) := (Ext.drew w3).trans hbl; have HR1 := Lib.hid (HR.out.ext HB1.out); have e1 : w1.cell? ⟨w.heap.size, 1, none⟩ = some nv := HR1.out.blk.cell 1; have e2 : ∀ o, (w1.alloc o).cell? ⟨w.heap.size, 1, none⟩ = some nv := (fun o => (HR1.out.blk.alloc o).cell 1); have HBK := Lib.hid hb; clear hb hbl hbb)
          | (refine step_push _ (by rfl) (.tmp 26) (.tmp 28) 43 (by rfl) 33 (.slice none 0 0) 24 Tryd.underlying43 infoPg (by rfl) nv k (N.map pv) (by rfl) (HR1.out.rn.alloc _) ⟨by omega, by omega⟩ (.slice (some ⟨b, 0, none⟩) 32 32) w1.heap.size (by rfl) (cell_new1 rfl _ _) (by rfl) ?_; intro g2 c2 w2 ho hc hat; have HP := Lib.hid (HR1.out.push2 HBK.out ho hc hat); have f1 : w2.cell? ⟨w.heap.size, 1, none⟩ = some nv := HP.out.1.cell 1; have f2 := HP.out.1.frozen 1; clear ho hc hat))
        all_goals
          have HP2 : Hid (NRel w w.heap.size (k + 1) (w2.setCell ⟨w.heap.size, 1, none⟩ (.slice (some ⟨g2, 0, none⟩) (k + 1) c2))) := ⟨_, _, _, _, HP.out.2⟩
          clear f1 f2 e0 e1 e2 HP HR1 HB1 HBK HR
          go_wp2
          go_roundw
          case rel => exact ⟨k + 1, by omega, by go_num, HP2.out⟩
          case measure => simp [intOf]; omega
    · have e : k = n := by omega
      subst e
      have h1 := H1.out
      have HE := Lib.hid (new_end h1 h2 hR.out)
      clear h1
      go_wp2
      go_ret
      exact HE.out
end Go.Proofs.YtenjblonepegfaaDoor
