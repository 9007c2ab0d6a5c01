/-
  Walk of bridge.Beside. Conditions: the edges lie in memory as 'EdsAt' says, their nodes are nodes.
-/
import Derived.Test.YtakjakglkfhaaaaDoorBs1
import Derived.Deep.CutBlock
import Derived.Deep.DeepCutAuto
import Derived.StillTailTactics
namespace Go.Proofs.YtakjakglkfhaaaaDoor
open Go Go.RowKit
set_option linter.unusedVariables false

set_option maxHeartbeats 2000000 in
set_option maxRecDepth 100000 in
theorem beside_in (w : World) (n : Nat) (A : Option Addr) (m c : Nat) (l : List AK.Ed) (hl : l.length = m) (h : EdsAt w A l) (hf : Fine n l) (hn0 : 0 < n) (hn : n ≤ 60) :
    Calls Tryd.prog 51 #[.int .i64 n, .slice A m c] w (BesPost2 w n l) := by
  obtain ⟨cs, hcs, hmk⟩ := run_rows n (by omega)
  have H := Lib.hid h
  have HL := Lib.hid hl
  have HF := Lib.hid hf
  have hm2 : m ≤ 200 := by rw [← hl]; exact hf.1
  have HB0 : Hid (BsV w n w.heap.size (fun v => nbs [] v) (fun _ => .slice none 0 0) (w.alloc (.cells cs 53))) := by
    have e : cs = rowV n (fun _ => .slice none 0 0) := by
      have : (rowV n (fun _ => Value.slice none 0 0)).toList = cs.toList := by rw [hcs]; simp only [rowV]; rw [List.map_const', List.length_range]
      exact (Array.toList_inj.1 this).symm
    refine ⟨by rw [e]; exact Blk.new _ _ _, fun v hv => by simpa [nbs, intsV] using World.ownsRow_nil _ 0 3 1, fun v hv k hk => by simp [Value.ownBlock] at hk, fun u v hu hv huv k hk => by simp [Value.ownBlock] at hk, Ext.alloc _ _, Nat.le_refl _⟩
  clear h hl hf hcs
  have hn0' : (0 : Int) ≤ (n : Int) := by omega
  go_enter Tryd.func51, Tryd.ntmps51
  go_wp2
  obtain ⟨G, hG⟩ : ∃ x, x = w.heap.size := ⟨_, rfl⟩
  rw [← hG] at HB0 ⊢
  have HG := Lib.hid hG
  clear hG
  go_loopw [14] (fun v wr => ∃ i : Nat, i ≤ m ∧ v = .int .i64 i ∧ Hid (∃ V, BsV w n G (fun v => nbs (l.take i) v) V wr)) (fun v _ => m - (intOf v).toNat)
  case atStart => exact ⟨0, by omega, rfl, _, by rw [List.take_zero]; exact HB0.out⟩
  case round =>
    obtain ⟨i, hi, rfl, hR⟩ := hrel
    clear HB0
    by_cases him : i < m
    · have him' : (i : Int) < (m : Int) := by omega
      have hi0 : (0 : Int) ≤ (i : Int) := by omega
      obtain ⟨V, hV⟩ := hR.out
      obtain ⟨bs, off, rfl, hbs, u, v, hlu, huv, hv, b0, b1⟩ := edge_at H.out HL.out HF.out him
      have b0 := (hV.ext.cell (p := ⟨bs, off + i * 2, none⟩) hbs).trans b0
      have b1 := (hV.ext.cell (p := ⟨bs, off + i * 2 + 1, none⟩) hbs).trans b1
      have hu : u < n := by omega
      have hu' : (u : Int) < (n : Int) := by omega
      have hv' : (v : Int) < (n : Int) := by omega
      have HLU := Lib.hid hlu
      have HV1 : Hid (BsV w n G (fun v => nbs (l.take i) v) V (wr.alloc (.cells #[.int .i64 u, .int .i64 v] 63))) := hV.moved (Ext.alloc _ _)
      have HX1 : Hid (Blk (wr.alloc (.cells #[.int .i64 u, .int .i64 v] 63)) wr.heap.size 63 #[.int .i64 u, .int .i64 v]) := Blk.new _ _ _
      clear hV hR hlu
      go_upto_region 5 with fail
      generalize wr.alloc (.cells #[.int .i64 u, .int .i64 v] 63) = w1 at HV1 HX1 ⊢
      generalize wr.heap.size = gx at HX1 ⊢
      clear b0 b1
      have hrl : (nbs (l.take i) u).length ≤ 400 := by have := nbs_len (l.take i) u; rw [List.length_take] at this; omega
      go_cut [] from 18 to 30 (fun wx => ∃ w3, w3 = wx ∧ Hid (∃ V2, BsV w n G (upd (fun v => nbs (l.take i) v) u (nbs (l.take i) u ++ [(v : Int)])) V2 w3 ∧ Blk w3 gx 63 #[.int .i64 u, .int .i64 v]))
      case first =>
        obtain ⟨c1, f1⟩ := HV1.out.cell hu
        have x0 : w1.cell? ⟨gx, 0, none⟩ = some (.int .i64 u) := HX1.out.cell 0
        have x1 : w1.cell? ⟨gx, 1, none⟩ = some (.int .i64 v) := HX1.out.cell 1
        have c1o : ∀ o, (w1.alloc o).cell? ⟨G, u, none⟩ = some (V u) := fun o => ((HV1.out.moved (Ext.alloc w1 o)).cell hu).1
        have x0o : ∀ o, (w1.alloc o).cell? ⟨gx, 0, none⟩ = some (.int .i64 u) := fun o => (HX1.out.alloc o).cell 0
        have x1o : ∀ o, (w1.alloc o).cell? ⟨gx, 1, none⟩ = some (.int .i64 v) := fun o => (HX1.out.alloc o).cell 1
        have HNX : Hid ((V u).ownBlock ≠ some gx) := own_ne (HV1.out.row u hu) HX1.out (by decide)
        have HGG : Hid (gx ≠ G) := HX1.out.ne_ HV1.out.blk (by decide)
        go_region_law (first
          | (refine step_push _ (by rfl) (.tmp 25) (.tmp 28) 53 rfl 3 (.int .i64 0) 8 Tryd.underlying53 infoI (by rfl) (V u) _ _ (by rfl) ((HV1.out.moved (Ext.trans (Ext.alloc w1 (.cells #[.int .i64 v] 3)) (Ext.drew _))).row u hu) ⟨by omega, by omega⟩ (.int .i64 v) w1.heap.size (by rfl) (cell_new1 rfl _ _) (by rfl) ?_; intro g2 c2 w2 ho hc hat; obtain ⟨q1, q2, HN⟩ := BsV.push (HV1.out.moved (Ext.trans (Ext.alloc w1 (.cells #[.int .i64 v] 3)) (Ext.drew _))) hu ho hc hat; have HX2 : Hid (Blk w2 gx 63 #[.int .i64 u, .int .i64 v]) := Blk.chg (S := fun k => (V u).ownBlock = some k) (HX1.out.alloc (.cells #[.int .i64 v] 3)).drew hc HNX.out; have y0 : w2.cell? ⟨gx, 0, none⟩ = some (.int .i64 u) := HX2.out.cell 0; have y1 : w2.cell? ⟨gx, 1, none⟩ = some (.int .i64 v) := HX2.out.cell 1; clear ho hc hat) | fail)
        all_goals
          have HCUT : Hid (∃ V2, BsV w n G (upd (fun v => nbs (l.take i) v) u (nbs (l.take i) u ++ [(v : Int)])) V2 (w2.setCell ⟨G, u, none⟩ (.slice (some ⟨g2, 0, none⟩) ((nbs (l.take i) u).length + 1) c2)) ∧ Blk (w2.setCell ⟨G, u, none⟩ (.slice (some ⟨g2, 0, none⟩) ((nbs (l.take i) u).length + 1) c2)) gx 63 #[.int .i64 u, .int .i64 v]) := ⟨_, HN.out, HX2.out.far (p := ⟨G, u, none⟩) HGG.out _⟩
          clear q1 q2 y0 y1 HX2 HN c1 f1 x0 x1 c1o x0o x1o HNX
          go_wp2
          go_meet
          exact ⟨_, rfl, HCUT⟩
      case rest =>
       obtain ⟨w3, hw3, hcut2⟩ := hcut
       subst hw3
       obtain ⟨V3, hV3, hX3⟩ := hcut2.out
       obtain ⟨R2, hR2⟩ : ∃ R2, R2 = upd (fun v => nbs (l.take i) v) u (nbs (l.take i) u ++ [(v : Int)]) := ⟨_, rfl⟩
       rw [← hR2] at hV3
       have HR2 := Lib.hid hR2
       have HV3 := Lib.hid hV3
       have HX3 := Lib.hid hX3
       clear hR2 hV3 hX3 HV1 HX1 hcut2
       go_wp2
       have hrl2 : (R2 v).length ≤ 400 := by
         rw [HR2.out]; simp only [upd]; rw [if_neg (by omega)]
         have := nbs_len (l.take i) v; rw [List.length_take] at this; omega
       obtain ⟨c1, f1⟩ := HV3.out.cell hv
       have x0 : w3.cell? ⟨gx, 0, none⟩ = some (.int .i64 u) := HX3.out.cell 0
       have x1 : w3.cell? ⟨gx, 1, none⟩ = some (.int .i64 v) := HX3.out.cell 1
       have c1o : ∀ o, (w3.alloc o).cell? ⟨G, v, none⟩ = some (V3 v) := fun o => ((HV3.out.moved (Ext.alloc w3 o)).cell hv).1
       have x0o : ∀ o, (w3.alloc o).cell? ⟨gx, 0, none⟩ = some (.int .i64 u) := fun o => (HX3.out.alloc o).cell 0
       have x1o : ∀ o, (w3.alloc o).cell? ⟨gx, 1, none⟩ = some (.int .i64 v) := fun o => (HX3.out.alloc o).cell 1
       have HNX : Hid ((V3 v).ownBlock ≠ some gx) := own_ne (HV3.out.row v hv) HX3.out (by decide)
       have HGG : Hid (gx ≠ G) := HX3.out.ne_ HV3.out.blk (by decide)
       go_region_law (first
         | (refine step_push _ (by rfl) (.tmp 38) (.tmp 41) 53 rfl 3 (.int .i64 0) 8 Tryd.underlying53 infoI (by rfl) (V3 v) _ _ (by rfl) ((HV3.out.moved (Ext.trans (Ext.alloc w3 (.cells #[.int .i64 u] 3)) (Ext.drew _))).row v hv) ⟨by omega, by omega⟩ (.int .i64 u) w3.heap.size (by rfl) (cell_new1 rfl _ _) (by rfl) ?_; intro g2 c2 w4 ho hc hat; obtain ⟨q1, q2, HN⟩ := BsV.push (HV3.out.moved (Ext.trans (Ext.alloc w3 (.cells #[.int .i64 u] 3)) (Ext.drew _))) hv ho hc hat; have HX2 : Hid (Blk w4 gx 63 #[.int .i64 u, .int .i64 v]) := Blk.chg (S := fun k => (V3 v).ownBlock = some k) (HX3.out.alloc (.cells #[.int .i64 u] 3)).drew hc HNX.out; have y0 : w4.cell? ⟨gx, 0, none⟩ = some (.int .i64 u) := HX2.out.cell 0; have y1 : w4.cell? ⟨gx, 1, none⟩ = some (.int .i64 v) := HX2.out.cell 1; clear ho hc hat) | fail)
       all_goals
         have HF4 : Hid (∃ V, BsV w n G (fun z => nbs (l.take (i + 1)) z) V (w4.setCell ⟨G, v, none⟩ (.slice (some ⟨g2, 0, none⟩) ((R2 v).length + 1) c2))) := by
           have e : upd R2 v (R2 v ++ [(u : Int)]) = fun z => nbs (l.take (i + 1)) z := funext fun z => by
             rw [HR2.out, take_snoc' HLU.out, nbs_snoc]
             by_cases ez : z = v
             · subst ez
               simp [upd, show ¬ z = u by omega, show ¬ (u : Int) = (z : Int) by omega]
             · by_cases eu : z = u
               · subst eu
                 simp [upd, ez, show ¬ (v : Int) = (z : Int) by omega]
               · simp [upd, ez, eu, show ¬ (v : Int) = (z : Int) by omega, show ¬ (u : Int) = (z : Int) by omega]
           exact ⟨_, by rw [← e]; exact HN.out⟩
         clear HN q1 q2 y0 y1 HX2 c1 f1 x0 x1 c1o x0o x1o HNX HV3 HX3 HR2
         go_wp2
         go_roundw
         case rel => exact ⟨i + 1, by omega, by go_num, HF4⟩
         case measure => simp [intOf]; omega
    · have e : i = m := by omega
      subst e
      obtain ⟨V, hV⟩ := hR.out
      rw [show l.take i = l by rw [← HL.out]; exact List.take_length] at hV
      have HS0 : Hid (BsV w n G (fun z => if z < 0 then sorted (nbs l z) else nbs l z) V wr) := by unfold Hid; simpa using hV
      clear hR hV
      go_wp2
      obtain ⟨wq, hwq⟩ : ∃ x, x = wr := ⟨_, rfl⟩
      subst hwq
      go_loopw [47] (fun v wr => ∃ k : Nat, k ≤ n ∧ v = .int .i64 k ∧ Hid (BsV w n G (fun z => if z < k then sorted (nbs l z) else nbs l z) V wr)) (fun v _ => n - (intOf v).toNat)
      case atStart => exact ⟨0, by omega, rfl, HS0⟩
      case round =>
        obtain ⟨k, hk, rfl, hS⟩ := hrel
        clear HS0
        by_cases hkn : k < n
        · have hkn' : (k : Int) < (n : Int) := by omega
          have hk0 : (0 : Int) ≤ (k : Int) := by omega
          obtain ⟨c1, f1⟩ := hS.out.cell hkn
          have hrow := hS.out.row k hkn
          simp only [if_neg (Nat.lt_irrefl k)] at hrow
          have HRW := Lib.hid hrow
          have hnl : (nbs l k).length ≤ 1000 := by have := nbs_len l k; have := HF.out.1; omega
          clear hrow
          go_wp2_with fail
          refine (sort_any wr (V k) _ _ HRW.out hnl).mono ?_
          rintro e w2 ⟨rfl, ho, hc⟩
          have HS2 : Hid (BsV w n G (fun z => if z < k + 1 then sorted (nbs l z) else nbs l z) V w2) := by
            have h1 := hS.out.sort hkn (by simpa using ho) hc
            have e : upd (fun z => if z < k then sorted (nbs l z) else nbs l z) k (sorted ((fun z => if z < k then sorted (nbs l z) else nbs l z) k)) = fun z => if z < k + 1 then sorted (nbs l z) else nbs l z := funext fun z => by
              simp only [upd]
              by_cases ez : z = k
              · subst ez; simp
              · rw [if_neg ez]
                by_cases hz : z < k
                · rw [if_pos hz, if_pos (by omega)]
                · rw [if_neg hz, if_neg (by omega)]
            rw [← e]; exact h1
          clear ho hc c1 f1 hS
          go_wp2
          go_roundw
          case rel => exact ⟨k + 1, by omega, by go_num, HS2⟩
          case measure => simp [intOf]; omega
        · have e : k = n := by omega
          subst e
          have HP : Hid (BesPost2 w k l (.returned (.slice (some ⟨G, 0, none⟩) k k)) wr) := by
            obtain ⟨N, h1, h2, h3⟩ := hS.out.done (l := l) (fun z hz => by simp [hz]) HF.out
            exact ⟨G, k, N, rfl, h1, h2, h3, hS.out.ext, hS.out.inn⟩
          clear hS
          go_wp2
          go_ret
          exact HP.out
theorem beside_any (w : World) (n : Nat) (A : Option Addr) (m c : Nat) (l : List AK.Ed) (hl : l.length = m) (h : EdsAt w A l) (hf : Fine n l) (hn0 : 0 < n) (hn : n ≤ 60) :
    Calls Tryd.prog 51 #[.int .i64 n, .slice A m c] w (BesPost w n l) :=
  (beside_in w n A m c l hl h hf hn0 hn).mono fun _ _ ⟨G, c, N, h1, h2, h3, h4, h5, _⟩ => ⟨G, c, N, h1, h2, h3, h4, h5⟩
end Go.Proofs.YtakjakglkfhaaaaDoor
