/-
  A tree, and its levels: the walk of GraphTrees. Conditions: the steps are read as 'QStepsAt' says.
-/
import Derived.Test.YtlcnoihmhaaekaaGtPk8
import Derived.Lib.QuietBelow
namespace Go.Proofs.Ytlcnoihmhaaekaa
open Go Go.RowKit SQ TR DF PD PT
set_option linter.unusedVariables false

theorem tri_cn : Cn (adj [((0 : Int), (2 : Int)), ((1 : Int), (2 : Int))]) 0 1 :=
  .trans (.edge (.inl (by simp)) : Cn (adj [((0 : Int), (2 : Int)), ((1 : Int), (2 : Int))]) 0 2) (.symm (.edge (.inl (by simp))))
theorem tri_cnt : PD.cnt (ldr [((0 : Int), (2 : Int)), ((1 : Int), (2 : Int))]) 3 + 2 = 3 := by
  have h0 : ldr [((0 : Int), (2 : Int)), ((1 : Int), (2 : Int))] 0 = true := ldr_iff.2 fun u hu => absurd hu (Nat.not_lt_zero _)
  have h1 : ldr [((0 : Int), (2 : Int)), ((1 : Int), (2 : Int))] 1 = false := by
    cases e : ldr [((0 : Int), (2 : Int)), ((1 : Int), (2 : Int))] 1 with
    | false => rfl
    | true => exact absurd tri_cn.symm (ldr_iff.1 e 0 (by omega))
  have h2 : ldr [((0 : Int), (2 : Int)), ((1 : Int), (2 : Int))] 2 = false := by
    cases e : ldr [((0 : Int), (2 : Int)), ((1 : Int), (2 : Int))] 2 with
    | false => rfl
    | true => exact absurd (.symm (.edge (.inl (by simp)))) (ldr_iff.1 e 0 (by omega))
  simp [PD.cnt, h0, h1, h2]
theorem zA1 : putE (AK.ek ((0 : Nat) : Int) ((1 : Nat) : Int)) [] = [((0 : Int), (1 : Int))] := by decide
theorem zA2 : putE (AK.ek ((1 : Nat) : Int) ((2 : Nat) : Int)) [((0 : Int), (1 : Int))] = [((0 : Int), (1 : Int)), ((1 : Int), (2 : Int))] := by decide
theorem zA3 : putE (AK.ek ((0 : Nat) : Int) ((2 : Nat) : Int)) [((0 : Int), (1 : Int)), ((1 : Int), (2 : Int))] = [((0 : Int), (1 : Int)), ((0 : Int), (2 : Int)), ((1 : Int), (2 : Int))] := by decide
theorem zA4 : cutE (AK.ek ((0 : Nat) : Int) ((1 : Nat) : Int)) [((0 : Int), (1 : Int)), ((0 : Int), (2 : Int)), ((1 : Int), (2 : Int))] = [((0 : Int), (2 : Int)), ((1 : Int), (2 : Int))] := by decide
/-- What lies there behind the graph's own part of a round. -/
structure TrZ (w wc : World) (G : GrP) (n N : Nat) (A A' : List AK.Ed) (f f' : AK.Ed → GM.St) (Aw Al A1 A2 : Option Addr) (gS : Nat) (cs : Array Value) : Prop where
  t : TrN w wc G n N A A' f f' Aw Al
  all : EdsAt wc A1 A'
  tree : EdsAt wc A2 (GM.lvl f' A' 0)
  o1 : ∀ x, A1 = some x → ¬ G.T x.block
  st : Blk wc gS 34 cs
theorem off_new {G : GrP} {w w' : World} {n N : Nat} {A : List AK.Ed} {f : AK.Ed → GM.St} {Es : Nat → List AK.Ed} (h : GrM w G n N A f Es) {B : Option Addr} {l c : Nat} {e : TypeId} {size : Nat} {xs : List Value} (ho : w'.ownsRow 0 e size (.slice B l c) l xs) (hn : ∀ j, (Value.slice B l c).ownBlock = some j → w.heap.size ≤ j) : ∀ x, B = some x → ¬ G.T x.block := fun x hx hs => by
  have h1 := h.ltT _ hs
  rcases ho.2 with ⟨h2, _⟩ | ⟨g', c', cur, h2, _⟩
  · simp at h2; rw [h2.1] at hx; cases hx
  · simp only [Value.slice.injEq] at h2
    have h3 := hn g' (by rw [h2.1]; simp [Value.ownBlock])
    rw [h2.1] at hx
    injection hx with hx
    subst hx
    simp only at h1
    omega
set_option maxHeartbeats 8000000 in
set_option maxRecDepth 100000 in
theorem gt_walk (n : Int) (a1 : Option Addr) (len1 cap1 : Nat) (s1 : Nat → QSt) (w : World) (hsa : QStepsAt w a1 len1 s1 ∧ len1 ≤ cap1 ∧ cap1 ≤ maxLen) :
    Calls Try.prog 5 #[.int .i64 n, .slice a1 len1 cap1] w fun e w' => e = .returned (.bool true) ∧ Below w.heap.size w w' := by
  obtain ⟨hs, hlc, hcm⟩ := hsa
  unfold maxLen at hcm
  have HSt := Lib.hid hs
  clear hs
  go_enter Try.func5, Try.ntmps5
  go_wp2_with fail
  refine (gnew_ok w 3 (by omega)).mono ?_
  intro e w1 hp
  obtain ⟨Z, rfl, hz, hx1⟩ := GcS.made (Ext.refl w) hp
  obtain ⟨z0, hz0⟩ : ∃ z, Z.gb = z := ⟨_, rfl⟩
  have HZ : Hid (GxS w w1 z0 3 3 []) := ⟨Z, _, hz0, hz⟩
  rw [hz0]
  clear hp hz hx1 hz0
  go_wp2_with fail
  refine (HZ.out.add (by omega) 0 1 (by omega) (by omega) (by omega) (by decide) (by decide)).mono ?_
  rintro e w2 ⟨rfl, h2⟩
  rw [zA1] at h2
  have HZ2 := Lib.hid h2
  clear h2 HZ
  go_wp2_with fail
  refine (HZ2.out.add (by omega) 1 2 (by omega) (by omega) (by omega) (by decide) (by decide)).mono ?_
  rintro e w3 ⟨rfl, h3⟩
  rw [zA2] at h3
  have HZ3 := Lib.hid h3
  clear h3 HZ2
  go_wp2_with fail
  refine (HZ3.out.add (by omega) 0 2 (by omega) (by omega) (by omega) (by decide) (by decide)).mono ?_
  rintro e w4 ⟨rfl, h4⟩
  rw [zA3] at h4
  have HZ4 := Lib.hid h4
  clear h4 HZ3
  go_wp2_with fail
  refine (HZ4.out.drop (by omega) (by decide) 0 1 (by omega) (by omega) (by decide)).mono ?_
  rintro e w5 ⟨rfl, h5⟩
  rw [zA4] at h5
  have HZ5 := Lib.hid h5
  clear h5 HZ4
  go_wp2_with fail
  refine (HZ5.out.joined 0 1 (by omega) (by omega) true (by simp [tri_cn])).mono ?_
  rintro e w6 ⟨rfl, h6⟩
  have HZ6 := Lib.hid h6
  clear h6 HZ5
  go_wp2_with fail
  refine (HZ6.out.tree (by decide) 2 tri_cnt).mono ?_
  rintro e w7 ⟨⟨Az, cz, rfl⟩, h7⟩
  have X7 : Hid (Ext w w7) := by obtain ⟨G, f, _, h⟩ := h7; exact h.ext
  clear h7 HZ6
  by_cases hn : n < 1 ∨ 60 < n
  · go_wp2_with fail
    refine (gnew_no w7 n hn).mono ?_
    rintro e w8 ⟨rfl, rfl⟩
    go_wp2
    go_ret
    exact ⟨rfl, X7.out⟩
  obtain ⟨n, rfl⟩ := Int.eq_ofNat_of_zero_le (show 0 ≤ n by omega)
  have hn2 : 1 ≤ n ∧ n ≤ 60 := by omega
  clear hn
  go_wp2_with fail
  refine (gnew_ok w7 n hn2).mono ?_
  intro e w8 hp
  obtain ⟨G, rfl, hgc, hx8⟩ := GcS.made X7.out hp
  obtain ⟨g0, hg0⟩ : ∃ g, G.gb = g := ⟨_, rfl⟩
  have R0 : Hid (TrL w w8 g0 n 0 [] (fun _ => ⟨0, false⟩) none none) := ⟨G, hg0, TrR.start hgc, Nat.le_refl _⟩
  rw [hg0]
  clear hp hgc hx8 hg0 X7
  go_wp2
  go_loopw [10, 11, 12] (fun v10 v11 v12 wr => ∃ (i : Nat) (A : List AK.Ed) (f : AK.Ed → GM.St) (Aw Al : Option Addr) (cw cl : Nat), i ≤ len1 ∧ i ≤ 60 ∧ v10 = .slice Aw A.length cw ∧ v11 = .slice Al A.length cl ∧ v12 = .int .i64 i ∧ Hid (TrL w wr g0 n i A f Aw Al)) (fun _ _ v12 _ => len1 - (intOf v12).toNat)
  case atStart => exact ⟨0, [], _, none, none, 0, 0, Nat.zero_le _, Nat.zero_le _, rfl, rfl, rfl, R0.out⟩
  case round =>
    as_aux_lemma =>
    obtain ⟨i, A, f, Aw, Al, cw, cl, hi, hi6, rfl, rfl, rfl, HR⟩ := hrel
    clear R0
    by_cases c0 : i < len1 ∧ i < 60
    · obtain ⟨c1, c2⟩ := c0
      rcases HSt.out.ext HR.out.ext with h0 | ⟨b, off, rfl, hlt, hc⟩
      · omega
      obtain ⟨q, x, y, sA, sm, sc, p0, p1, p2, p3, ix, iy⟩ := (hc i c1).cells
      have HI : Hid (in64 x ∧ in64 y) := ⟨ix, iy⟩
      have z0' : (0 : Int) ≤ (i : Int) := by omega
      have z1 : (i : Int) < (len1 : Int) := by omega
      clear hc ix iy hlt
      have hA60 : A.length ≤ 60 := by
        obtain ⟨G, _, _, h⟩ := HR.out
        omega
      go_upto_if 103 with fail
      have BG := Lib.hid (Blk.new wr 34 #[.int .i64 q, .int .i64 x, .int .i64 y, .slice sA sm sc])
      have H3 := Lib.hid (HR.out.moved (Ext.alloc wr (.cells #[.int .i64 q, .int .i64 x, .int .i64 y, .slice sA sm sc] 34)))
      have HGs : Hid (w.heap.size ≤ wr.heap.size) := HR.out.ext.size
      obtain ⟨gS, hGe⟩ : ∃ G, wr.heap.size = G := ⟨_, rfl⟩
      rw [hGe] at BG ⊢
      clear hGe
      generalize wr.alloc (.cells #[.int .i64 q, .int .i64 x, .int .i64 y, .slice sA sm sc] 34) = w3 at BG H3 ⊢
      go_cut [] from 87 to 115 (fun wx => Hid (TrM w wx g0 n (i + 1) A f Aw Al ∧ Blk wx gS 34 #[.int .i64 q, .int .i64 x, .int .i64 y, .slice sA sm sc]))
      case first =>
        as_aux_lemma =>
        have y1 : w3.cell? ⟨gS, 1, none⟩ = some (.int .i64 x) := BG.out.cell 1
        have y2 : w3.cell? ⟨gS, 2, none⟩ = some (.int .i64 y) := BG.out.cell 2
        clear HR p0 p1 p2 p3
        by_cases q3 : q < 3
        · go_wp2_with fail
          refine (H3.out.add c2 hn2.2 x y HI.out.1 HI.out.2).mono ?_
          rintro e w4 ⟨v, rfl, h4, hs4⟩
          have HN : Hid (TrM w w4 g0 n (i + 1) A f Aw Al ∧ Blk w4 gS 34 #[.int .i64 q, .int .i64 x, .int .i64 y, .slice sA sm sc]) := ⟨h4, hs4 _ _ BG.out⟩
          clear h4 hs4
          go_wp2
          go_meet
          exact HN
        · go_wp2_with fail
          refine (H3.out.drop c2 hn2.2 x y).mono ?_
          rintro e w4 ⟨v, rfl, h4, hs4⟩
          have HN : Hid (TrM w w4 g0 n (i + 1) A f Aw Al ∧ Blk w4 gS 34 #[.int .i64 q, .int .i64 x, .int .i64 y, .slice sA sm sc]) := ⟨h4, hs4 _ _ BG.out⟩
          clear h4 hs4
          go_wp2
          go_meet
          exact HN
      case rest =>
        as_aux_lemma =>
        clear BG H3 HR p0 p1 p2 p3 HGs
        obtain ⟨⟨G, A', f', hG, hN, hl'⟩, hB⟩ := hcut.out
        subst hG
        have HN := Lib.hid hN
        have HB := Lib.hid hB
        have hlA : A'.length ≤ 60 := by omega
        have HL' := Lib.hid hl'
        clear hcut hN hB hl'
        go_wp2_with fail
        refine (gedges_any HN.out.g.at_.m HN.out.g.at_.k.ok HN.out.g.at_.k.up (by omega)).mono ?_
        rintro e w4 ⟨A1, cA, rfl, hd4, hx4, hn4⟩
        have D4 : Hid (EdsAt w4 A1 A' ∧ (∀ x, A1 = some x → ¬ G.T x.block) ∧ Blk w4 gS 34 #[.int .i64 q, .int .i64 x, .int .i64 y, .slice sA sm sc]) := ⟨(DRow.eds hd4 rfl).1, off_new HN.out.g.at_.m hd4 hn4, step_ext hx4 _ _ HB.out⟩
        have HN4 := Lib.hid (HN.out.moved hx4)
        obtain ⟨al, hal⟩ : ∃ m, A'.length = m := ⟨_, rfl⟩
        have HAL := Lib.hid hal
        rw [hal] at hlA ⊢
        clear hd4 hx4 hn4 HN HB hal
        go_wp2_with fail
        refine (gtree_any HN4.out.g.at_.m HN4.out.g.at_.k.ok HN4.out.g.at_.k.up (by have := HAL.out; omega)).mono ?_
        rintro e w5 ⟨A2, cT, rfl, hd5, hx5, _⟩
        have HZ : Hid (TrZ w w5 G n (n + 4000 * (i + 1)) A A' f f' Aw Al A1 A2 gS #[.int .i64 q, .int .i64 x, .int .i64 y, .slice sA sm sc]) := ⟨HN4.out.moved hx5, D4.out.1.ext hx5, (DRow.eds hd5 rfl).1, D4.out.2.1, step_ext hx5 _ _ D4.out.2.2⟩
        obtain ⟨tl, htl⟩ : ∃ m, (GM.lvl f' A' 0).length = m := ⟨_, rfl⟩
        have HTL := Lib.hid htl
        have htl60 : tl ≤ 60 := by rw [← htl]; exact Nat.le_trans (List.length_filter_le _ _) (by have := HAL.out; omega)
        rw [htl]
        clear hd5 hx5 D4 HN4 htl
        go_wp2_with fail
        refine (tnew_ok w5 n hn2).mono ?_
        rintro e w6 ⟨F, rfl, hf6, hx6, hn6⟩
        have HF6 : Hid (∃ E, TcS w5 w6 F n (n + 0) E ∧ GT.Pre (GM.lvl f' A' 0) (fun _ => true) 0 E) := ⟨[], ⟨hf6, hx6, hn6⟩, GT.Pre.start _ _⟩
        have FT : Hid (Fo n (GM.lvl f' A' 0)) := HZ.out.t.g.at_.k.fo 0
        clear hf6 hx6 hn6
        go_wp2
        go_loopw [18] (fun v18 wr => ∃ k : Nat, k ≤ tl ∧ v18 = .int .i64 k ∧ Hid (∃ E, TcS w5 wr F n (n + k) E ∧ GT.Pre (GM.lvl f' A' 0) (fun _ => true) k E)) (fun v18 _ => tl - (intOf v18).toNat)
        case atStart => exact ⟨0, Nat.zero_le _, rfl, HF6.out⟩
        case round =>
          as_aux_lemma =>
          obtain ⟨k, hk, rfl, HE⟩ := hrel
          clear HF6
          by_cases hlt : k < tl
          · as_aux_lemma =>
            obtain ⟨E, hE1, hE2⟩ := HE.out
            obtain ⟨b2, o2, rfl, hb2, xe, hxe, g1, g2⟩ := eds_at HZ.out.tree (show k < (GM.lvl f' A' 0).length by rw [HTL.out]; exact hlt)
            have hm0 := List.mem_of_getElem? hxe
            have hxo := FT.out.ok xe hm0
            obtain ⟨u, hu⟩ := Int.eq_ofNat_of_zero_le hxo.1
            obtain ⟨v, hv⟩ := Int.eq_ofNat_of_zero_le (show 0 ≤ xe.2 by omega)
            obtain rfl : xe = ((u : Int), (v : Int)) := Prod.ext hu hv
            obtain ⟨huv, hvn, hek, hnc⟩ := hE2.new FT.out hxe
            simp only at g1 g2
            have hE0 : Ext w5 wr := hE1.ext
            obtain ⟨j, hj⟩ : ∃ j, RF.place A' ((u : Int), (v : Int)) = some j := by
              cases e : RF.place A' ((u : Int), (v : Int)) with
              | none => exact absurd (GM.lvl_mem.1 hm0).1 (RF.place_mem.1 e)
              | some j => exact ⟨j, rfl⟩
            have HPL : Hid (∀ W, Ext wr W → Calls Try.prog 21 #[.slice A1 al cA, .int .i64 (u : Nat), .int .i64 (v : Nat)] W fun e w' => e = .returned (.int .i64 (j : Nat)) ∧ Ext W w') := fun W hW => by
              have q := place_any W A1 al cA A' (u : Nat) (v : Nat) HAL.out (by omega) (HZ.out.all.ext (hE0.trans hW))
              rw [hek, hj] at q
              exact q
            have HLK : Hid (∀ W, Ext wr W → Calls Try.prog 8 #[.pointer (some ⟨F.fb, 0, none⟩), .int .i64 (u : Nat), .int .i64 (v : Nat)] W fun e w' => e = .returned .nilIface ∧ ∃ E, TcS w5 w' F n (n + (k + 1)) E ∧ GT.Pre (GM.lvl f' A' 0) (fun _ => true) (k + 1) E) := fun W hW => by
              have h1 := hE1.moved hW
              refine (tlink_ok h1.at_ (by omega) u v (by omega) hvn hnc).mono ?_
              rintro e w' ⟨rfl, r1, r2⟩
              refine ⟨rfl, _, h1.step r1 r2, ?_⟩
              rw [hek]
              exact hE2.add hxe rfl
            have HC : Hid (∀ W, Ext w5 W → Ext w5 W ∧ W.cell? ⟨b2, o2 + k * 2, none⟩ = some (.int .i64 (u : Nat)) ∧ W.cell? ⟨b2, o2 + k * 2 + 1, none⟩ = some (.int .i64 (v : Nat))) := fun W hW => ⟨hW, (hW.cell (p := ⟨b2, _, none⟩) hb2).trans g1, (hW.cell (p := ⟨b2, _, none⟩) hb2).trans g2⟩
            have hx1 := (HC.out wr hE0).2.1
            have hx2 := (HC.out wr hE0).2.2
            have zk0 : (0 : Int) ≤ (k : Int) := by omega
            have zk1 : (k : Int) < (tl : Int) := by omega
            have zj : ¬ (j : Int) < 0 := by omega
            have zj2 : decide ((j : Int) < 0) = false := by simp
            clear hE1 hE2 hxe hm0 hxo hu hv hek hnc hj g1 g2 HE hb2
            go_wp2
            go_region_held3 (fun W => Ext w5 W ∧ W.cell? ⟨b2, o2 + k * 2, none⟩ = some (.int .i64 (u : Nat)) ∧ W.cell? ⟨b2, o2 + k * 2 + 1, none⟩ = some (.int .i64 (v : Nat)))
              (exact HC.out _ (by first | assumption | exact Ext.trans hE0 (Ext.drew _) | exact fst_ (by assumption) | exact Ext.trans (fst_ (by assumption)) (by assumption)))
              (first
                | (go_at_call 21; refine (HPL.out _ (Ext.drew _)).mono ?_; rintro e w7 ⟨rfl, hb7⟩; have hE7 : Ext wr w7 := Ext.trans (Ext.drew _) hb7)
                | (go_at_call 8; refine (HLK.out _ (by assumption)).mono ?_; rintro e w8 ⟨rfl, h8⟩; have HO8 := Lib.hid h8; have hF8 : Ext w5 w8 := by { obtain ⟨E, h, _⟩ := h8; exact h.ext }; clear h8)
                | fail)
            rename_i hHeld
            clear HC HPL HLK hHeld hx1 hx2
            go_wp2
            go_roundw
            case rel => exact ⟨k + 1, by omega, by go_num, HO8⟩
            case measure => simp [intOf]; omega
          · obtain rfl : k = tl := by omega
            have HFT : Hid (TcS w5 wr F n (n + k) (GM.lvl f' A' 0)) := by
              obtain ⟨E, hE1, hE2⟩ := HE.out
              rw [← HTL.out] at hE2
              have e := hE2.all_end FT.out.up hE1.at_.fo.up
              subst e
              exact hE1
            clear HE
            go_wp2
            go_loopw [19, 20, 21] (fun v19 v20 v21 wr => ∃ (m tp : Nat) (An : Option Addr) (cn : Nat), m ≤ al ∧ tp ≤ 4 ∧ v19 = .slice An m cn ∧ v20 = .int .i64 tp ∧ v21 = .int .i64 m ∧ Hid (NwR w5 wr F n (n + k) (GM.lvl f' A' 0) A' f' m An cn)) (fun _ _ v21 _ => al - (intOf v21).toNat)
            case atStart => exact ⟨0, 0, none, 0, Nat.zero_le _, Nat.zero_le _, rfl, rfl, rfl, NwR.start HFT.out⟩
            case round =>
              as_aux_lemma =>
              obtain ⟨m, tp, An, cn, hm, htp, rfl, rfl, rfl, HNW⟩ := hrel
              clear HFT
              by_cases hlt2 : m < al
              · as_aux_lemma =>
                have hE0 : Ext w5 wr := HNW.out.fo.ext
                obtain ⟨b1, o1, rfl, hb1, xe, hxe, g1, g2⟩ := eds_at HZ.out.all (show m < A'.length by rw [HAL.out]; exact hlt2)
                have hm0 := List.mem_of_getElem? hxe
                have hxo := HZ.out.t.g.at_.k.ok xe hm0
                obtain ⟨u, hu⟩ := Int.eq_ofNat_of_zero_le hxo.1
                obtain ⟨v, hv⟩ := Int.eq_ofNat_of_zero_le (show 0 ≤ xe.2 by omega)
                obtain rfl : xe = ((u : Int), (v : Int)) := Prod.ext hu hv
                simp only at g1 g2 hxo
                have hek : AK.ek (u : Int) v = ((u : Int), (v : Int)) := by unfold AK.ek; rw [Int.min_eq_left (by omega), Int.max_eq_right (by omega)]
                have hun : u < n := by omega
                have hvn : v < n := by omega
                have hadj : adj A' u v := .inl hm0
                obtain ⟨lv, hlv⟩ : ∃ l, (f' ((u : Int), (v : Int))).lv = l := ⟨_, rfl⟩
                have hlv4 : lv ≤ 4 := by
                  have := HZ.out.t.g.at_.k.lv_le hn2.2 hadj
                  rw [hek, hlv] at this
                  exact this
                have hrose := HZ.out.t.rose _ hm0
                rw [hlv] at hrose
                have HLVE := Lib.hid hlv
                have HXE := Lib.hid hxe
                have HLV : Hid (∀ W, Ext w5 W → Calls Try.prog 26 #[.pointer (some ⟨G.gb, 0, none⟩), .int .i64 (u : Nat), .int .i64 (v : Nat)] W fun e w' => e = .returned (.tuple #[.int .i64 (lv : Nat), .nilIface]) ∧ Ext W w') := fun W hW => by
                  have q := glevel_ok (HZ.out.t.g.moved hW).at_.m u v hun hvn (by rw [hek]; exact hm0)
                  rwa [hek, hlv] at q
                have HSM : Hid (∀ W, Ext wr W → Calls Try.prog 14 #[.pointer (some ⟨F.fb, 0, none⟩), .int .i64 (u : Nat), .int .i64 (v : Nat)] W fun e w' => e = .returned (.tuple #[.bool true, .nilIface]) ∧ Ext W w') := fun W hW =>
                  tsame_ok (HNW.out.fo.moved hW).at_ u v hun hvn true (by simp only [true_iff]; exact HZ.out.t.g.at_.k.joins.1 (.edge hadj))
                obtain ⟨pw, hpw⟩ : ∃ p, RF.placeV (RF.place A ((u : Int), (v : Int))) = p := ⟨_, rfl⟩
                have HPW : Hid (∀ W, Ext w5 W → Calls Try.prog 21 #[.slice Aw A.length cw, .int .i64 (u : Nat), .int .i64 (v : Nat)] W fun e w' => e = .returned (.int .i64 pw) ∧ Ext W w') := fun W hW => by
                  have q := place_any W Aw A.length cw A (u : Nat) (v : Nat) rfl (by omega) (HZ.out.t.was.ext hW)
                  rw [hek, hpw] at q
                  exact q
                have HPC : Hid ((pw = -1 ∧ lv = 0) ∨ ∃ (j lo b3 o3 : Nat), pw = j ∧ j < A.length ∧ lo ≤ lv ∧ Al = some ⟨b3, o3, none⟩ ∧ b3 < w5.heap.size ∧ w5.cell? ⟨b3, o3 + j, none⟩ = some (.int .i64 (lo : Nat))) := by
                  cases e : RF.place A ((u : Int), (v : Int)) with
                  | none =>
                    rw [e] at hpw
                    exact .inl ⟨hpw.symm, hrose.2 (RF.place_mem.1 e)⟩
                  | some j =>
                    rw [e] at hpw
                    have hj := RF.place_get e
                    have hjl := (List.getElem?_eq_some_iff.1 hj).1
                    rcases HZ.out.t.lev with h0 | ⟨b3, o3, hA3, hb3, hc3⟩
                    · have := lvs_len A f; rw [h0] at this; simp at this; omega
                    · exact .inr ⟨j, _, b3, o3, hpw.symm, hjl, hrose.1 (List.mem_of_getElem? hj), hA3, hb3, hc3 j _ (lvs_at hj)⟩
                have HC : Hid (∀ W, Ext w5 W → Ext w5 W ∧ W.cell? ⟨b1, o1 + m * 2, none⟩ = some (.int .i64 (u : Nat)) ∧ W.cell? ⟨b1, o1 + m * 2 + 1, none⟩ = some (.int .i64 (v : Nat))) := fun W hW => ⟨hW, (hW.cell (p := ⟨b1, _, none⟩) hb1).trans g1, (hW.cell (p := ⟨b1, _, none⟩) hb1).trans g2⟩
                have hx1 := (HC.out wr hE0).2.1
                have hx2 := (HC.out wr hE0).2.2
                have zm0 : (0 : Int) ≤ (m : Int) := by omega
                have zm1 : (m : Int) < (al : Int) := by omega
                have zl : ¬ (lv : Int) < 0 := by omega
                have zl2 : decide ((lv : Int) < 0) = false := by simp
                clear hxe hm0 hxo hu hv hek hadj hlv hrose hpw g1 g2 hb1
                go_wp2
                go_region_held3 (fun W => Ext w5 W ∧ W.cell? ⟨b1, o1 + m * 2, none⟩ = some (.int .i64 (u : Nat)) ∧ W.cell? ⟨b1, o1 + m * 2 + 1, none⟩ = some (.int .i64 (v : Nat)))
                  (exact HC.out _ (by first | assumption | exact Ext.trans hE0 (Ext.drew _) | exact fst_ (by assumption) | exact Ext.trans (fst_ (by assumption)) (by assumption)))
                  (first
                    | (go_at_call 26; refine (HLV.out _ (Ext.trans hE0 (Ext.drew _))).mono ?_; rintro e wa ⟨rfl, ha⟩; have hEa : Ext wr wa := Ext.trans (Ext.drew _) ha; have hFa : Ext w5 wa := Ext.trans hE0 hEa)
                    | fail)
                rename_i hHeld
                have ga1 := (HC.out wa hFa).2.1
                have ga2 := (HC.out wa hFa).2.2
                clear hHeld ha HLV hx1 hx2
                go_wp2
                go_region_held3 (fun W => Ext w5 W ∧ W.cell? ⟨b1, o1 + m * 2, none⟩ = some (.int .i64 (u : Nat)) ∧ W.cell? ⟨b1, o1 + m * 2 + 1, none⟩ = some (.int .i64 (v : Nat)))
                  (exact HC.out _ (by first | assumption | exact Ext.trans hFa (Ext.drew _) | exact fst_ (by assumption) | exact Ext.trans (fst_ (by assumption)) (by assumption)))
                  (first
                    | (go_at_call 14; refine (HSM.out _ (Ext.trans hEa (Ext.drew _))).mono ?_; rintro e wb ⟨rfl, hb⟩; have hEb : Ext wr wb := Ext.trans (Ext.trans hEa (Ext.drew _)) hb; have hFb : Ext w5 wb := Ext.trans hE0 hEb)
                    | fail)
                rename_i hHeld
                have gb1 := (HC.out wb hFb).2.1
                have gb2 := (HC.out wb hFb).2.2
                clear hHeld hb HSM ga1 ga2 hEa hFa
                go_wp2
                go_region_held3 (fun W => Ext w5 W ∧ W.cell? ⟨b1, o1 + m * 2, none⟩ = some (.int .i64 (u : Nat)) ∧ W.cell? ⟨b1, o1 + m * 2 + 1, none⟩ = some (.int .i64 (v : Nat)))
                  (exact HC.out _ (by first | assumption | exact Ext.trans hFb (Ext.drew _) | exact fst_ (by assumption) | exact Ext.trans (fst_ (by assumption)) (by assumption)))
                  (first
                    | (go_at_call 21; refine (HPW.out _ (Ext.trans hFb (Ext.drew _))).mono ?_; rintro e wd ⟨rfl, hd⟩; have hEd : Ext wr wd := Ext.trans (Ext.trans hEb (Ext.drew _)) hd; have hFd : Ext w5 wd := Ext.trans hE0 hEd)
                    | fail)
                rename_i hHeld
                clear hHeld hd HPW gb1 gb2 hEb hFb HC
                have HMV : Hid (∀ nq, NwR w5 (wd.drewN nq) F n (n + k) (GM.lvl f' A' 0) A' f' m An cn) := fun nq => (HNW.out.moved hEd).moved (Ext.drewN wd nq)
                rcases HPC.out with ⟨rfl, rfl⟩ | ⟨j, lo, b3, o3, rfl, hj, hlo, rfl, hb3, hc3⟩
                · have zp : ¬ (0 : Int) ≤ -1 := by omega
                  have zgt : ¬ (tp : Int) < ((0 : Nat) : Int) := by omega
                  clear HNW hE0 hEd hFd
                  go_wp2
                  go_quiet (fail)
                  have HP0 := Lib.hid (HMV.out nq)
                  generalize wd.drewN nq = we at HP0 ⊢
                  clear HMV
                  go_wp2_with (at_builtin; refine wpList_push _ rfl (.tmp 256) (.tmp 258) 29 rfl 3 (.int .i64 0) 8 Try.underlying29 infoI rfl (.slice An m cn) m (intsV (lvs (A'.take m) f')) rfl ((HP0.out.moved (Ext.alloc _ _)).row) ⟨by omega, by omega⟩ (.int .i64 ((0 : Nat) : Int)) we.heap.size rfl (cell_new1 rfl _ _) rfl ?_; intro g5 c5 wf ho5 hc5 hat5 _; have HP := Lib.hid (HP0.out.push (Ext.alloc _ _) HXE.out (by rw [HLVE.out]; exact ho5) hc5 hat5); clear ho5 hc5 hat5)
                  go_roundw
                  case rel => exact ⟨m + 1, tp, some ⟨g5, 0, none⟩, c5, by omega, htp, by first | rfl | simp, rfl, by go_num, HP.out⟩
                  case measure => simp [intOf]; omega
                · have zj0 : (0 : Int) ≤ (j : Int) := by omega
                  have zj1 : (j : Int) < (A.length : Int) := by omega
                  have zlo : ¬ (lv : Int) < (lo : Int) := by omega
                  have zlo2 : decide ((lv : Int) < (lo : Int)) = false := by simp; omega
                  have zlo3 : decide (lv < lo) = false := by simp; omega
                  have zj3 : decide ((0 : Int) ≤ (j : Int)) = true := by simp
                  have zj2 : ¬ (j : Int) < 0 := by omega
                  have hcd : wd.cell? ⟨b3, o3 + j, none⟩ = some (.int .i64 (lo : Nat)) := (hFd.cell (p := ⟨b3, _, none⟩) hb3).trans hc3
                  clear HNW hE0 hEd hFd hc3
                  go_wp2
                  go_quiet (fail)
                  have HP0 := Lib.hid (HMV.out nq)
                  generalize wd.drewN nq = we at HP0 ⊢
                  clear HMV
                  by_cases hgt : tp < lv
                  · have zgt : (tp : Int) < (lv : Int) := by omega
                    go_wp2_with (at_builtin; refine wpList_push _ rfl (.tmp 256) (.tmp 258) 29 rfl 3 (.int .i64 0) 8 Try.underlying29 infoI rfl (.slice An m cn) m (intsV (lvs (A'.take m) f')) rfl ((HP0.out.moved (Ext.alloc _ _)).row) ⟨by omega, by omega⟩ (.int .i64 (lv : Nat)) we.heap.size rfl (cell_new1 rfl _ _) rfl ?_; intro g5 c5 wf ho5 hc5 hat5 _; have HP := Lib.hid (HP0.out.push (Ext.alloc _ _) HXE.out (by rw [HLVE.out]; exact ho5) hc5 hat5); clear ho5 hc5 hat5)
                    go_roundw
                    case rel => exact ⟨m + 1, lv, some ⟨g5, 0, none⟩, c5, by omega, hlv4, by first | rfl | simp, rfl, by go_num, HP.out⟩
                    case measure => simp [intOf]; omega
                  · have zgt : ¬ (tp : Int) < (lv : Int) := by omega
                    go_wp2_with (at_builtin; refine wpList_push _ rfl (.tmp 256) (.tmp 258) 29 rfl 3 (.int .i64 0) 8 Try.underlying29 infoI rfl (.slice An m cn) m (intsV (lvs (A'.take m) f')) rfl ((HP0.out.moved (Ext.alloc _ _)).row) ⟨by omega, by omega⟩ (.int .i64 (lv : Nat)) we.heap.size rfl (cell_new1 rfl _ _) rfl ?_; intro g5 c5 wf ho5 hc5 hat5 _; have HP := Lib.hid (HP0.out.push (Ext.alloc _ _) HXE.out (by rw [HLVE.out]; exact ho5) hc5 hat5); clear ho5 hc5 hat5)
                    go_roundw
                    case rel => exact ⟨m + 1, tp, some ⟨g5, 0, none⟩, c5, by omega, htp, by first | rfl | simp, rfl, by go_num, HP.out⟩
                    case measure => simp [intOf]; omega
              · obtain rfl : m = al := by omega
                obtain ⟨wv, hwv⟩ : ∃ W, W = wr := ⟨_, rfl⟩
                subst hwv
                have NI : Hid (Ext w5 wv ∧ IntsAt wv An (lvs A' f') ∧ w5.heap.size ≤ wv.heap.size ∧ ∀ x, An = some x → ¬ G.T x.block) := by
                  have hrow := HNW.out.row
                  rw [List.take_of_length_le (by rw [HAL.out]; exact Nat.le_refl _)] at hrow
                  refine ⟨HNW.out.fo.ext, (IntsAt.of_own hrow).1, HNW.out.fo.ext.size, off_new HZ.out.t.g.at_.m hrow HNW.out.new⟩
                clear HNW
                go_wp2
                go_loopw [27, 28] (fun v27 v28 wq => ∃ v : Nat, v ≤ tp + 1 ∧ v28 = .int .i64 v ∧ v27 = .int .i64 ((n / 2 ^ v : Nat) : Int) ∧ Hid (Ext wv wq)) (fun _ v28 _ => tp + 1 - (intOf v28).toNat)
                case atStart => exact ⟨0, Nat.zero_le _, rfl, by simp, Ext.refl _⟩
                case round =>
                  as_aux_lemma =>
                  obtain ⟨v, hv1, rfl, rfl, HX⟩ := hrel
                  by_cases hv2 : v ≤ tp
                  · have zv : (v : Int) ≤ (tp : Int) := by omega
                    have zv10 : (v : Int) < 10 := by omega
                    obtain ⟨sz, hsz⟩ : ∃ z, n / 2 ^ v = z := ⟨_, rfl⟩
                    have HSZ := Lib.hid hsz
                    rw [hsz]
                    have hsz60 : sz ≤ 60 := by rw [← hsz]; exact Nat.le_trans (Nat.div_le_self _ _) hn2.2
                    clear hsz
                    go_wp2_with fail
                    refine (tnew_ok wr n hn2).mono ?_
                    rintro e w9 ⟨F2, rfl, hf9, hx9, hn9⟩
                    obtain ⟨wu, hwu⟩ : ∃ W, W = wr := ⟨_, rfl⟩
                    subst hwu
                    have HF9 : Hid (∃ E, TcS wu w9 F2 n (n + 0) E ∧ GT.Pre (GM.lvl f' A' 0) (fun x => decide (v ≤ (f' x).lv)) 0 E) := ⟨[], ⟨hf9, hx9, hn9⟩, GT.Pre.start _ _⟩
                    clear hf9 hx9 hn9
                    go_wp2
                    go_loopw [31] (fun v31 wr => ∃ k2 : Nat, k2 ≤ k ∧ v31 = .int .i64 k2 ∧ Hid (∃ E, TcS wu wr F2 n (n + k2) E ∧ GT.Pre (GM.lvl f' A' 0) (fun x => decide (v ≤ (f' x).lv)) k2 E)) (fun v31 _ => k - (intOf v31).toNat)
                    case atStart => exact ⟨0, Nat.zero_le _, rfl, HF9.out⟩
                    case round =>
                      as_aux_lemma =>
                      obtain ⟨k2, hk2, rfl, HE⟩ := hrel
                      clear HF9
                      by_cases hlt3 : k2 < k
                      · as_aux_lemma =>
                          obtain ⟨E, hE1, hE2⟩ := HE.out
                          obtain ⟨b2, o2, rfl, hb2, xe, hxe, g1, g2⟩ := eds_at HZ.out.tree (show k2 < (GM.lvl f' A' 0).length by rw [HTL.out]; exact hlt3)
                          have hm0 := List.mem_of_getElem? hxe
                          have hxo := FT.out.ok xe hm0
                          obtain ⟨u, hu⟩ := Int.eq_ofNat_of_zero_le hxo.1
                          obtain ⟨y, hy⟩ := Int.eq_ofNat_of_zero_le (show 0 ≤ xe.2 by omega)
                          obtain rfl : xe = ((u : Int), (y : Int)) := Prod.ext hu hy
                          obtain ⟨huv, hvn, hek, hnc⟩ := hE2.new FT.out hxe
                          simp only at g1 g2
                          have hE0 : Ext wv wr := HX.out.trans hE1.ext
                          obtain ⟨j, hj⟩ : ∃ j, RF.place A' ((u : Int), (y : Int)) = some j := by
                            cases e : RF.place A' ((u : Int), (y : Int)) with
                            | none => exact absurd (GM.lvl_mem.1 hm0).1 (RF.place_mem.1 e)
                            | some j => exact ⟨j, rfl⟩
                          have hjA := RF.place_get hj
                          have hjl : j < m := by rw [← HAL.out]; exact (List.getElem?_eq_some_iff.1 hjA).1
                          obtain ⟨lv, hlv⟩ : ∃ l, (f' ((u : Int), (y : Int))).lv = l := ⟨_, rfl⟩
                          obtain ⟨bn, on, rfl, hbn, hcn⟩ : ∃ bn on, An = some ⟨bn, on, none⟩ ∧ bn < wv.heap.size ∧ wv.cell? ⟨bn, on + j, none⟩ = some (.int .i64 (lv : Nat)) := by
                            rcases NI.out.2.1 with h0 | ⟨bn, on, hA, hb, hc⟩
                            · have := lvs_len A' f'; rw [h0, HAL.out] at this; simp at this; omega
                            · exact ⟨bn, on, hA, hb, by rw [hc j _ (lvs_at hjA), hlv]⟩
                          have HPL : Hid (∀ W, Ext wv W → Calls Try.prog 21 #[.slice A1 m cA, .int .i64 (u : Nat), .int .i64 (y : Nat)] W fun e w' => e = .returned (.int .i64 (j : Nat)) ∧ Ext W w') := fun W hW => by
                            have q := place_any W A1 m cA A' (u : Nat) (y : Nat) HAL.out (by omega) (HZ.out.all.ext (NI.out.1.trans hW))
                            rw [hek, hj] at q
                            exact q
                          have HC : Hid (∀ W, Ext wv W → Ext wv W ∧ W.cell? ⟨b2, o2 + k2 * 2, none⟩ = some (.int .i64 (u : Nat)) ∧ W.cell? ⟨b2, o2 + k2 * 2 + 1, none⟩ = some (.int .i64 (y : Nat)) ∧ W.cell? ⟨bn, on + j, none⟩ = some (.int .i64 (lv : Nat))) := fun W hW =>
                            ⟨hW, ((NI.out.1.trans hW).cell (p := ⟨b2, _, none⟩) hb2).trans g1, ((NI.out.1.trans hW).cell (p := ⟨b2, _, none⟩) hb2).trans g2, (hW.cell (p := ⟨bn, _, none⟩) hbn).trans hcn⟩
                          have zk0 : (0 : Int) ≤ (k2 : Int) := by omega
                          have zk1 : (k2 : Int) < (k : Int) := by omega
                          have zj0 : (0 : Int) ≤ (j : Int) := by omega
                          have zj1 : (j : Int) < (m : Int) := by omega
                          by_cases hvl : v ≤ lv
                          · have HLK : Hid (∀ W, Ext wr W → Calls Try.prog 8 #[.pointer (some ⟨F2.fb, 0, none⟩), .int .i64 (u : Nat), .int .i64 (y : Nat)] W fun e w' => e = .returned .nilIface ∧ ∃ E, TcS wu w' F2 n (n + (k2 + 1)) E ∧ GT.Pre (GM.lvl f' A' 0) (fun x => decide (v ≤ (f' x).lv)) (k2 + 1) E) := fun W hW => by
                              have h1 := hE1.moved hW
                              refine (tlink_ok h1.at_ (by omega) u y (by omega) hvn hnc).mono ?_
                              rintro e w' ⟨rfl, r1, r2⟩
                              refine ⟨rfl, _, h1.step r1 r2, ?_⟩
                              rw [hek]
                              exact hE2.add hxe (by simp only [hlv]; simp [hvl])
                            have hx1 := (HC.out wr hE0).2.1
                            have hx2 := (HC.out wr hE0).2.2.1
                            have hx3 := (HC.out wr hE0).2.2.2
                            have zc : (v : Int) ≤ (lv : Int) := by omega
                            have zc2 : decide ((v : Int) ≤ (lv : Int)) = true := by simp; omega
                            have HXv := HX
                            clear hE1 hE2 hxe hm0 hxo hu hy hek hnc hj hjA hlv g1 g2 HE hb2 hbn hcn hvl hjl
                            go_wp2
                            go_region_held3 (fun W => Ext wv W ∧ W.cell? ⟨b2, o2 + k2 * 2, none⟩ = some (.int .i64 (u : Nat)) ∧ W.cell? ⟨b2, o2 + k2 * 2 + 1, none⟩ = some (.int .i64 (y : Nat)) ∧ W.cell? ⟨bn, on + j, none⟩ = some (.int .i64 (lv : Nat)))
                              (exact HC.out _ (by first | assumption | exact Ext.trans hE0 (Ext.drew _) | exact fst_ (by assumption) | exact Ext.trans (fst_ (by assumption)) (by assumption)))
                              (first
                                | (go_at_call 21; refine (HPL.out _ (Ext.trans hE0 (Ext.drew _))).mono ?_; rintro e w7 ⟨rfl, hb7⟩; have hE7 : Ext wr w7 := Ext.trans (Ext.drew _) hb7; have hF7 : Ext wv w7 := Ext.trans hE0 hE7)
                                | (go_at_call 8; refine (HLK.out _ (by assumption)).mono ?_; rintro e w8 ⟨rfl, h8⟩; have HO8 := Lib.hid h8; have hF8 : Ext wv w8 := by { obtain ⟨E, h, _⟩ := h8; exact Ext.trans HXv.out h.ext }; clear h8)
                                | fail)
                            rename_i hHeld
                            clear HC HPL HLK hHeld hx1 hx2 hx3
                            go_wp2
                            go_roundw
                            case rel => exact ⟨k2 + 1, by omega, by go_num, HO8⟩
                            case measure => simp [intOf]; omega
                          · have hstay : Hid (∀ W, Ext wr W → ∃ E, TcS wu W F2 n (n + (k2 + 1)) E ∧ GT.Pre (GM.lvl f' A' 0) (fun x => decide (v ≤ (f' x).lv)) (k2 + 1) E) := fun W hW => by
                              have h1 := hE1.moved hW
                              exact ⟨E, ⟨h1.at_.mono (by omega), h1.ext, h1.new⟩, hE2.stay hxe (by simp only [hlv]; simp; omega)⟩
                            obtain ⟨s1, s2, s3⟩ : (∀ d os, (Go.Sort.grow (redrawn wr d) os).cell? ⟨b2, o2 + k2 * 2, none⟩ = some (.int .i64 (u : Nat))) ∧ (∀ d os, (Go.Sort.grow (redrawn wr d) os).cell? ⟨b2, o2 + k2 * 2 + 1, none⟩ = some (.int .i64 (y : Nat))) ∧ (∀ d os, (Go.Sort.grow (redrawn wr d) os).cell? ⟨bn, on + j, none⟩ = some (.int .i64 (lv : Nat))) :=
                              ⟨fun d os => (HC.out _ (Ext.trans hE0 (below_regrown wr d os))).2.1, fun d os => (HC.out _ (Ext.trans hE0 (below_regrown wr d os))).2.2.1, fun d os => (HC.out _ (Ext.trans hE0 (below_regrown wr d os))).2.2.2⟩
                            have zc : ¬ (v : Int) ≤ (lv : Int) := by omega
                            have zc2 : decide ((v : Int) ≤ (lv : Int)) = false := by simp; omega
                            have zc3 : decide (v ≤ lv) = false := by simp; omega
                            clear hE1 hE2 hxe hm0 hxo hu hy hek hnc hj hjA hlv g1 g2 HE hb2 hbn hcn hjl
                            go_wp2
                            refine wp_region_quiet_below (by kernel_rfl) (by kernel_rfl) ?_
                            repeat (go_big_quiet_step ((go_at_call 21; exact Calls.regrown_of (HPL.out _ (Ext.trans hE0 (below_regrown wr _ _))))))
                            refine wpQuiet_nil ?_
                            intro _ hw'
                            obtain ⟨⟨dq, osq⟩, hw''⟩ := hw'
                            subst hw''
                            have HO8 := Lib.hid (hstay.out _ (below_regrown wr dq osq))
                            clear HC HPL hstay s1 s2 s3
                            go_wp2
                            go_roundw
                            case rel => exact ⟨k2 + 1, by omega, by go_num, HO8.out⟩
                            case measure => simp [intOf]; omega
                      · obtain rfl : k2 = k := by omega
                        have HF10 : Hid (TcS wu wr F2 n (n + k2) (GM.lvl f' A' v)) := by
                          obtain ⟨E, hE1, hE2⟩ := HE.out
                          rw [← HTL.out] at hE2
                          have e := hE2.lvl_end HZ.out.t.g.at_.k.up hE1.at_.fo.up
                          subst e
                          exact hE1
                        clear HE
                        go_wp2
                        go_loopw [32] (fun v32 wr => ∃ k3 : Nat, k3 ≤ m ∧ v32 = .int .i64 k3 ∧ Hid (TcS wu wr F2 n (n + k2) (GM.lvl f' A' v))) (fun v32 _ => m - (intOf v32).toNat)
                        case atStart => exact ⟨0, Nat.zero_le _, rfl, HF10.out⟩
                        case round =>
                          as_aux_lemma =>
                          obtain ⟨k3, hk3, rfl, HS⟩ := hrel
                          clear HF10
                          by_cases hlt4 : k3 < m
                          · as_aux_lemma =>
                              have hE0 : Ext wv wr := HX.out.trans HS.out.ext
                              obtain ⟨b1, o1, rfl, hb1, xe, hxe, g1, g2⟩ := eds_at HZ.out.all (show k3 < A'.length by rw [HAL.out]; exact hlt4)
                              have hm0 := List.mem_of_getElem? hxe
                              have hxo := HZ.out.t.g.at_.k.ok xe hm0
                              obtain ⟨u, hu⟩ := Int.eq_ofNat_of_zero_le hxo.1
                              obtain ⟨y, hy⟩ := Int.eq_ofNat_of_zero_le (show 0 ≤ xe.2 by omega)
                              obtain rfl : xe = ((u : Int), (y : Int)) := Prod.ext hu hy
                              simp only at g1 g2 hxo
                              have hek : AK.ek (u : Int) y = ((u : Int), (y : Int)) := by unfold AK.ek; rw [Int.min_eq_left (by omega), Int.max_eq_right (by omega)]
                              have hun : u < n := by omega
                              have hyn : y < n := by omega
                              have hadj : adj A' u y := .inl hm0
                              obtain ⟨lv, hlv⟩ : ∃ l, (f' ((u : Int), (y : Int))).lv = l := ⟨_, rfl⟩
                              obtain ⟨bn, on, rfl, hbn, hcn⟩ : ∃ bn on, An = some ⟨bn, on, none⟩ ∧ bn < wv.heap.size ∧ wv.cell? ⟨bn, on + k3, none⟩ = some (.int .i64 (lv : Nat)) := by
                                rcases NI.out.2.1 with h0 | ⟨bn, on, hA, hb, hc⟩
                                · have := lvs_len A' f'; rw [h0, HAL.out] at this; simp at this; omega
                                · exact ⟨bn, on, hA, hb, by rw [hc k3 _ (lvs_at hxe), hlv]⟩
                              obtain ⟨t, ht⟩ : ∃ t : Bool, t = true ↔ Cn (adj (GM.lvl f' A' v)) u y := by classical exact ⟨decide (Cn (adj (GM.lvl f' A' v)) u y), by simp⟩
                              obtain ⟨mm, hmm⟩ : ∃ z, (comp n (GM.lvl f' A' v) u).length = z := ⟨_, rfl⟩
                              have hsize : 1 < mm → mm ≤ sz := fun h1 => by
                                rw [← HSZ.out]
                                exact GT.size_le HZ.out.t.g.at_.k hun (by rw [← hmm, comp_sz]) h1
                              have hcon : lv = v → t = true := fun e => by
                                have q := HZ.out.t.g.at_.k.con u y hadj
                                rw [hek, hlv, e] at q
                                exact ht.2 q
                              have HSM : Hid (∀ W, Ext wr W → Calls Try.prog 14 #[.pointer (some ⟨F2.fb, 0, none⟩), .int .i64 (u : Nat), .int .i64 (y : Nat)] W fun e w' => e = .returned (.tuple #[.bool t, .nilIface]) ∧ Ext W w') := fun W hW =>
                                tsame_ok (HS.out.moved hW).at_ u y hun hyn t ht
                              have HSI : Hid (∀ W, Ext wr W → Calls Try.prog 27 #[.pointer (some ⟨F2.fb, 0, none⟩), .int .i64 (u : Nat)] W fun e w' => e = .returned (.tuple #[.int .i64 (mm : Nat), .nilIface]) ∧ Ext W w') := fun W hW => by
                                have q := tsize_ok (HS.out.moved hW).at_ u hun
                                rwa [hmm] at q
                              have HC : Hid (∀ W, Ext wv W → Ext wv W ∧ W.cell? ⟨b1, o1 + k3 * 2, none⟩ = some (.int .i64 (u : Nat)) ∧ W.cell? ⟨b1, o1 + k3 * 2 + 1, none⟩ = some (.int .i64 (y : Nat)) ∧ W.cell? ⟨bn, on + k3, none⟩ = some (.int .i64 (lv : Nat))) := fun W hW =>
                                ⟨hW, ((NI.out.1.trans hW).cell (p := ⟨b1, _, none⟩) hb1).trans g1, ((NI.out.1.trans hW).cell (p := ⟨b1, _, none⟩) hb1).trans g2, (hW.cell (p := ⟨bn, _, none⟩) hbn).trans hcn⟩
                              have HMV : Hid (∀ W, Ext wr W → TcS wu W F2 n (n + k2) (GM.lvl f' A' v)) := fun W hW => HS.out.moved hW
                              have zk0 : (0 : Int) ≤ (k3 : Int) := by omega
                              have zk1 : (k3 : Int) < (m : Int) := by omega
                              have hmn : mm ≤ 60 := by rw [← hmm]; exact Nat.le_trans (by unfold comp; rw [List.length_map]; exact Nat.le_trans (List.length_filter_le _ _) (by simp)) hn2.2
                              have hx1 := (HC.out wr hE0).2.1
                              have hx2 := (HC.out wr hE0).2.2.1
                              have HCO := Lib.hid hcon
                              have HSIZ := Lib.hid hsize
                              clear hxe hm0 hxo hu hy hek hadj hlv g1 g2 hb1 hbn hcn ht hmm hcon hsize HS
                              go_wp2
                              go_region_held3 (fun W => Ext wv W ∧ W.cell? ⟨b1, o1 + k3 * 2, none⟩ = some (.int .i64 (u : Nat)) ∧ W.cell? ⟨b1, o1 + k3 * 2 + 1, none⟩ = some (.int .i64 (y : Nat)))
                                (exact (fun h => ⟨h.1, h.2.1, h.2.2.1⟩) (HC.out _ (by first | assumption | exact Ext.trans hE0 (Ext.drew _) | exact fst_ (by assumption) | exact Ext.trans (fst_ (by assumption)) (by assumption))))
                                (first
                                  | (go_at_call 14; refine (HSM.out _ (Ext.drew _)).mono ?_; rintro e wa ⟨rfl, ha⟩; have hEa : Ext wr wa := Ext.trans (Ext.drew _) ha; have hFa : Ext wv wa := Ext.trans hE0 hEa)
                                  | fail)
                              rename_i hHeld
                              have ga1 := (HC.out wa hFa).2.1
                              clear hHeld ha HSM hx1 hx2
                              go_wp2_with fail
                              refine (HSI.out _ hEa).mono ?_
                              rintro e wb ⟨rfl, hb⟩
                              have hEb : Ext wr wb := Ext.trans hEa hb
                              have gb3 := (HC.out wb (Ext.trans hE0 hEb)).2.2.2
                              have HN := Lib.hid (HMV.out wb hEb)
                              clear hb HSI hEa hFa ga1 HC HMV hEb hE0
                              by_cases h1 : 1 < mm
                              · have z1 : (1 : Int) < (mm : Int) := by omega
                                have z2 : ¬ (sz : Int) < (mm : Int) := by have := HSIZ.out h1; omega
                                have z2b : decide ((sz : Int) < (mm : Int)) = false := by simp; omega
                                by_cases hl : lv = v
                                · have htt := HCO.out hl
                                  subst htt
                                  subst hl
                                  go_wp2
                                  go_roundw
                                  case rel => exact ⟨k3 + 1, by omega, by go_num, HN.out⟩
                                  case measure => simp [intOf]; omega
                                · have z3 : ((lv : Int) == (v : Int)) = false := by rw [beq_eq_false_iff_ne]; omega
                                  go_wp2
                                  go_roundw
                                  case rel => exact ⟨k3 + 1, by omega, by go_num, HN.out⟩
                                  case measure => simp [intOf]; omega
                              · have z1 : ¬ (1 : Int) < (mm : Int) := by omega
                                by_cases hl : lv = v
                                · have htt := HCO.out hl
                                  subst htt
                                  subst hl
                                  go_wp2
                                  go_roundw
                                  case rel => exact ⟨k3 + 1, by omega, by go_num, HN.out⟩
                                  case measure => simp [intOf]; omega
                                · have z3 : ((lv : Int) == (v : Int)) = false := by rw [beq_eq_false_iff_ne]; omega
                                  go_wp2
                                  go_roundw
                                  case rel => exact ⟨k3 + 1, by omega, by go_num, HN.out⟩
                                  case measure => simp [intOf]; omega
                          · have HXN : Hid (Ext wv wr) := HX.out.trans HS.out.ext
                            have hq : (sz : Int).tdiv 2 = ((n / 2 ^ (v + 1) : Nat) : Int) := by
                              rw [← GT.half_of, HSZ.out]; rfl
                            obtain ⟨s2, hs2⟩ : ∃ z, n / 2 ^ (v + 1) = z := ⟨_, rfl⟩
                            have HS2 := Lib.hid hs2
                            have hs260 : s2 ≤ 60 := by rw [← hs2]; exact Nat.le_trans (Nat.div_le_self _ _) hn2.2
                            rw [hs2] at hq
                            clear hs2 HS HX
                            go_wp2
                            go_roundw
                            case rel => exact ⟨v + 1, by omega, by go_num, by rw [HS2.out], HXN.out⟩
                            case measure => simp [intOf]; omega
                  · have hfin : Hid (TrL w wr G.gb n (i + 1) A' f' A1 An) := by
                      have hx5 : Ext w5 wr := NI.out.1.trans HX.out
                      exact ⟨G, rfl, ⟨HZ.out.t.g.moved hx5, HZ.out.all.ext hx5, NI.out.2.1.ext HX.out, fun _ => HZ.out.o1, fun _ => NI.out.2.2.2⟩, HL'.out⟩
                    have zt : ¬ (10 : Int) ≤ (tp : Int) := by omega
                    have zt2 : decide ((10 : Int) ≤ (tp : Int)) = false := by simp; omega
                    have hAL := HAL.out
                    have zv : ¬ (v : Int) ≤ (tp : Int) := by omega
                    clear HX NI HZ
                    go_wp2
                    go_roundw
                    case rel => exact ⟨i + 1, A', f', A1, An, cA, cn, by omega, by omega, by rw [hAL], by rw [hAL], by go_num, hfin⟩
                    case measure => simp [intOf]; omega
    · have hii : (i < len1 ∧ ¬ i < 60) ∨ ¬ i < len1 := by omega
      clear c0
      rcases hii with ⟨c1, c2⟩ | c1
      all_goals
        go_wp2
        go_ret
        exact ⟨rfl, HR.out.ext⟩
end Go.Proofs.Ytlcnoihmhaaekaa
