/-
  Walk of (*solver).solve. Conditions: the events lie in memory as 'EvsAt' says, nothing is wrong of them, and the lives at hand tell what is there at each time.
-/
import Derived.Test.YtenjblonepegfaaDoorAs4
import Derived.Deep.RegionHeld3
namespace Go.Proofs.YtenjblonepegfaaDoor
open Go Go.RowKit
set_option linter.unusedVariables false

def SvPost (W : World) (gs g n : Nat) (EA : Option Addr) (len c : Nat) (w : World) (u : Uni) (ov : Value) (hs : UF.Hs) (outs : List Bool) (e : Ending) (w' : World) : Prop :=
  ∃ u' ov', e = .returned .nilIface ∧ SAt W gs g n EA len c w' u' ov' hs outs ∧ SMv gs w u ov u' ov' w'
def SvAsks (W : World) (gs g n : Nat) (EA : Option Addr) (len c : Nat) (l : List AK.Ev) (d : Nat) : Prop :=
  ∀ (low high : Nat) (w : World) (u : Uni) (ov : Value) (hs : UF.Hs) (outs : List Bool) (A : Option Addr) (m cx : Nat) (xs : List AK.Lf) (es : List (Nat × Nat)),
    high - low < d → low ≤ high → high ≤ len → outs.length ≤ low → xs.length = m → m ≤ 120 → SAt W gs g n EA len c w u ov hs outs → LRow w (.slice A m cx) xs →
    (∀ x ∈ xs, (0 ≤ x.ed.1 ∧ x.ed.1 < n ∧ 0 ≤ x.ed.2 ∧ x.ed.2 < n) ∧ x.fr ≤ 120 ∧ x.til ≤ 120) → UF.Tells hs es → AK.Fits l es xs low high →
    Calls Tryd.prog 77 #[.pointer (some ⟨gs, 0, none⟩), .int .i64 low, .int .i64 high, .slice A m cx] w (SvPost W gs g n EA len c w u ov hs (outs ++ AK.asked l low (high - low)))

set_option maxHeartbeats 4000000 in
set_option maxRecDepth 100000 in
theorem solve_step (W : World) (gs g n : Nat) (EA : Option Addr) (len c : Nat) (l : List AK.Ev) (hl : l.length = len) (hev : EvsAt W EA l) (hgd : AK.Good (n : Int) l) (d : Nat) (ih : SvAsks W gs g n EA len c l d) : SvAsks W gs g n EA len c l (d + 1) := by
  intro low high w u ov hs outs A m cx xs es hd hlh hh hol hxm hm hS hX hin hT hF
  have HL := Lib.hid hl
  have HEV := Lib.hid hev
  have HGD := Lib.hid hgd
  have IH := Lib.hid ih
  have HS := Lib.hid hS
  have HX := Lib.hid hX
  have HIN := Lib.hid hin
  have HT := Lib.hid hT
  have HF := Lib.hid hF
  have HXM := Lib.hid hxm
  have HWW := Lib.hid hS.bel.size
  have HLX : Hid (∀ j, (Value.slice A m cx).ownBlock = some j → j < w.heap.size) := fun j hj => own_lt hX hj
  have hlm : len ≤ 120 := by have := hgd.2.2.1; omega
  have c0 : w.cell? ⟨gs, 0, none⟩ = some (.pointer (some ⟨g, 0, none⟩)) := hS.blk.cell 0
  clear hl hev hgd ih hS hX hin hT hF hxm
  by_cases h0 : low = high
  · have e0 : ((low : Int) == (high : Int)) = true := by simp [h0]
    have hp : Hid (outs ++ AK.asked l low (high - low) = outs) := by unfold Hid; rw [h0, Nat.sub_self, AK.asked, List.append_nil]
    clear h0
    go_enter Tryd.func77, Tryd.ntmps77
    go_wp2
    go_ret
    rw [hp.out]
    exact ⟨u, ov, rfl, HS.out, SMv.refl _ _ _ _⟩
  · have e0 : ((low : Int) == (high : Int)) = false := by rw [beq_eq_false_iff_ne]; omega
    have hlt : low < high := by omega
    clear h0
    go_enter Tryd.func77, Tryd.ntmps77
    go_wp2_with fail
    refine (mark_in HS.out.un HS.out.ug).mono ?_
    rintro e w' ⟨rfl, rfl⟩
    go_wp2
    go_loopw [31, 10] (fun v s wr => ∃ (k nr : Nat) (A' : Option Addr) (c' : Nat) (u' : Uni), k ≤ m ∧ v = .int .i64 k ∧ s = .slice A' nr c' ∧ nr = (AK.rest low high (xs.take k)).length ∧ LpRel W gs g n EA len c w u ov hs outs low high k xs (.slice A m cx) s u' wr) (fun v _ _ => m - (intOf v).toNat)
    case atStart =>
      exact ⟨0, 0, none, 0, u, by omega, rfl, rfl, rfl, by simpa [AK.joinTo] using HS.out, SMv.refl _ _ _ _, World.ownsRow_nil _ _ _ _, by simp [Value.ownBlock], HX.out⟩
    case round =>
      obtain ⟨k, nr, A', c', u', hk, rfl, rfl, hnr, hR⟩ := hrel
      have HR := Lib.hid hR
      have HNR := Lib.hid hnr
      have hnr120 : nr ≤ 120 := by rw [hnr]; unfold AK.rest; have h1 := List.length_filter_le (AK.cut low high) (xs.take k); have h2 : (xs.take k).length ≤ k := List.length_take_le _ _; omega
      clear hR hnr
      by_cases hkm : k < m
      · obtain ⟨x, hx⟩ : ∃ x, xs[k]? = some x := ⟨_, List.getElem?_eq_getElem (by have := HXM.out; omega)⟩
        have hxin := HIN.out x (List.mem_of_getElem? hx)
        have hrow : wr.ownsRow 0 154 4 (.slice A m cx) m (rowsOf lfV xs) := by have := HR.out.lrow; unfold LRow at this; rwa [HXM.out] at this
        obtain ⟨gx, cg, hv, hcg, _⟩ := own_form hrow (by omega)
        simp only [Value.slice.injEq] at hv
        obtain ⟨rfl, _, rfl⟩ := hv
        have y0 := (World.ownsRow.cellAt hrow (k * 4 + 0) (by omega)).trans (rowsOf_get (f := lfV) (S := 4) (fun a _ => lfV_len a) hx (j := 0) rfl)
        have y1 := (World.ownsRow.cellAt hrow (k * 4 + 1) (by omega)).trans (rowsOf_get (f := lfV) (S := 4) (fun a _ => lfV_len a) hx (j := 1) rfl)
        have y2 := (World.ownsRow.cellAt hrow (k * 4 + 2) (by omega)).trans (rowsOf_get (f := lfV) (S := 4) (fun a _ => lfV_len a) hx (j := 2) rfl)
        have y3 := (World.ownsRow.cellAt hrow (k * 4 + 3) (by omega)).trans (rowsOf_get (f := lfV) (S := 4) (fun a _ => lfV_len a) hx (j := 3) rfl)
        simp only [Nat.add_zero] at y0
        obtain ⟨⟨xa, xb⟩, fr, tl⟩ := x
        simp only at y0 y1 y2 y3 hxin
        have HXK := Lib.hid hx
        have c0' : wr.cell? ⟨gs, 0, none⟩ = some (.pointer (some ⟨g, 0, none⟩)) := HR.out.at_.blk.cell 0
        have lgs := HR.out.at_.blk.lt
        have HA := Lib.hid (HR.out.ext ((Below.refl _ _).alloc (Nat.le_refl _) (.cells #[.int .i64 xa, .int .i64 xb, .int .i64 (fr : Nat), .int .i64 (tl : Nat)] 154)))
        obtain ⟨⟨q1, q2, q3, q4⟩, q5, q6⟩ := hxin
        clear hx hrow
        by_cases hcv : fr ≤ low ∧ high ≤ tl
        · obtain ⟨v1, v2⟩ := hcv
          have HCV : Hid (AK.cov low high ⟨(xa, xb), fr, tl⟩ = true) := by simp [AK.cov, Hid, v1, v2]
          go_wp2
          have d0 : (wr.alloc (.cells #[.int .i64 xa, .int .i64 xb, .int .i64 (fr : Nat), .int .i64 (tl : Nat)] 154)).cell? ⟨wr.heap.size, 0, none⟩ = some (.int .i64 xa) := (Blk.new wr 154 #[.int .i64 xa, .int .i64 xb, .int .i64 (fr : Nat), .int .i64 (tl : Nat)]).cell 0
          have d1 : (wr.alloc (.cells #[.int .i64 xa, .int .i64 xb, .int .i64 (fr : Nat), .int .i64 (tl : Nat)] 154)).cell? ⟨wr.heap.size, 1, none⟩ = some (.int .i64 xb) := (Blk.new wr 154 #[.int .i64 xa, .int .i64 xb, .int .i64 (fr : Nat), .int .i64 (tl : Nat)]).cell 1
          have c0'' : (wr.alloc (.cells #[.int .i64 xa, .int .i64 xb, .int .i64 (fr : Nat), .int .i64 (tl : Nat)] 154)).cell? ⟨gs, 0, none⟩ = some (.pointer (some ⟨g, 0, none⟩)) := HA.out.at_.blk.cell 0
          have DD := Lib.hid (Blk.new wr 154 #[.int .i64 xa, .int .i64 xb, .int .i64 (fr : Nat), .int .i64 (tl : Nat)])
          have NF : Hid (¬ u'.fp wr.heap.size) := fun hf => by have := HR.out.at_.un.lt hf; omega
          generalize wr.alloc (.cells #[.int .i64 xa, .int .i64 xb, .int .i64 (fr : Nat), .int .i64 (tl : Nat)] 154) = w9 at HA d0 d1 c0'' DD ⊢
          go_region_held3 (fun w' => w'.cell? ⟨gs, 0, none⟩ = some (.pointer (some ⟨g, 0, none⟩)) ∧ w'.cell? ⟨wr.heap.size, 0, none⟩ = some (.int .i64 xa) ∧ w'.cell? ⟨wr.heap.size, 1, none⟩ = some (.int .i64 xb)) (go_keep)
            ((go_at_call 98; refine (join_in (HA.out.at_.un.drew) HA.out.at_.ug xa xb ⟨q1, q2⟩ ⟨q3, q4⟩).mono ?_; rintro e w' ⟨u2, rfl, hu2, hm2⟩; have HZ := Lib.hid ((HA.out.ext (Below.refl _ _).drew).join HXK.out HCV.out hu2 hm2); have p0 : w'.cell? ⟨gs, 0, none⟩ = some (.pointer (some ⟨g, 0, none⟩)) := HZ.out.at_.blk.cell 0; have p1 : w'.cell? ⟨wr.heap.size, 0, none⟩ = some (.int .i64 xa) := (DD.out.drew.chg hm2.2.1 NF.out).cell 0; have p2 : w'.cell? ⟨wr.heap.size, 1, none⟩ = some (.int .i64 xb) := (DD.out.drew.chg hm2.2.1 NF.out).cell 1; clear hu2 hm2))
          have HLN : Hid ((AK.rest low high (xs.take (k + 1))).length = nr) := by rw [HNR.out, AK.take_next HXK.out, AK.rest_snoc, if_neg (by simp [AK.cut, HCV.out])]; rfl
          go_wp2
          go_roundw
          case rel => exact ⟨k + 1, nr, A', c', u2, by omega, by go_num, rfl, HLN.out.symm, HZ.out⟩
          case measure => simp [intOf]; omega
        · have HCV : Hid (AK.cov low high ⟨(xa, xb), fr, tl⟩ = false) := by simp [AK.cov, Hid]; omega
          rcases (show ¬ fr ≤ low ∨ (fr ≤ low ∧ ¬ high ≤ tl) by omega) with v1 | ⟨v1, v2⟩
          all_goals
            clear hcv
            by_cases hct : fr < high ∧ low < tl
            · obtain ⟨v3, v4⟩ := hct
              have HCT : Hid (AK.cut low high ⟨(xa, xb), fr, tl⟩ = true) := by have := HCV.out; simp [AK.cut, Hid, this, v3, v4]
              have hown : (wr.alloc (.cells #[.int .i64 xa, .int .i64 xb, .int .i64 (fr : Nat), .int .i64 (tl : Nat)] 154)).ownsRow 0 154 4 (.slice A' nr c') nr (rowsOf lfV (AK.rest low high (xs.take k))) := by
                have := HA.out.rest; unfold LRow at this; rwa [← HNR.out] at this
              have HOWN := Lib.hid (hown.alloc (.cells (lfV ⟨(xa, xb), fr, tl⟩).toArray 154))
              clear hown
              go_wp2_with (first
                | (at_builtin; refine wpList_pushS _ rfl (.tmp 74) (.tmp 76) 151 rfl 154 _ 4 32 Tryd.underlying151 infoLife rfl (by decide) _ _ _ rfl HOWN.out ⟨by omega, by omega⟩ (lfV ⟨(xa, xb), fr, tl⟩) (wr.heap.size + 1) rfl rfl (news_cells (by simp) _ _) (by simp [lfV, Value.oneCell']) ?_; intro g5 c5 w5 ho5 hc5 hat5 _; have HZ := Lib.hid (HA.out.push HXK.out HCV.out HCT.out HLX.out HWW.out (by rw [← HNR.out]; exact ho5) hc5 hat5); clear ho5 hc5 hat5))
              have HLN : Hid ((AK.rest low high (xs.take (k + 1))).length = nr + 1) := by rw [HNR.out]; exact LpRel.len_cut HXK.out HCT.out
              have HZZ : Hid (LpRel W gs g n EA len c w u ov hs outs low high (k + 1) xs (.slice (some ⟨gx, 0, none⟩) m cx) (.slice (some ⟨g5, 0, none⟩) (nr + 1) c5) u' w5) := by have := HZ.out; rwa [← HNR.out] at this
              go_roundw
              case rel => exact ⟨k + 1, nr + 1, some ⟨g5, 0, none⟩, c5, u', by omega, by go_num, rfl, HLN.out.symm, HZZ.out⟩
              case measure => simp [intOf]; omega
            · have HCT : Hid (AK.cut low high ⟨(xa, xb), fr, tl⟩ = false) := by have := HCV.out; simp [AK.cut, Hid, this]; omega
              have HZ := Lib.hid (HA.out.skip HXK.out HCV.out HCT.out)
              have HLN : Hid ((AK.rest low high (xs.take (k + 1))).length = nr) := by rw [HNR.out, AK.take_next HXK.out, AK.rest_snoc, HCT.out]; rfl
              rcases (show ¬ fr < high ∨ (fr < high ∧ ¬ low < tl) by omega) with v3 | ⟨v3, v4⟩
              all_goals first
                | (exfalso; omega)
                | (clear hct
                   go_wp2
                   go_roundw
                   case rel => exact ⟨k + 1, nr, A', c', u', by omega, by go_num, rfl, HLN.out.symm, HZ.out⟩
                   case measure => simp [intOf]; omega)
      · have hkk : k = m := by omega
        have hR := HR.out
        have hnr' := HNR.out
        rw [hkk] at hR hnr'
        have htk : xs.take m = xs := List.take_of_length_le (by rw [HXM.out]; exact Nat.le_refl _)
        rw [htk] at hnr'
        have HR' : Hid (LpRel W gs g n EA len c w u ov hs outs low high m xs (.slice A m cx) (.slice A' nr c') u' wr) := hR
        have HTK := Lib.hid htk
        clear htk
        have HNR' := Lib.hid hnr'
        have ok' : UF.Tells (AK.joinTo low high hs xs) _ := AK.tells_joinTo low high xs hs es HT.out
        have HT' := Lib.hid ok'
        obtain ⟨bk1, bk2⟩ := AK.joinTo_back low high xs hs
        have BK1 := Lib.hid bk1
        have BK2 := Lib.hid bk2
        have c0' : wr.cell? ⟨gs, 0, none⟩ = some (.pointer (some ⟨g, 0, none⟩)) := hR.at_.blk.cell 0
        have c1' : wr.cell? ⟨gs, 1, none⟩ = some (.slice EA len c) := hR.at_.blk.cell 1
        have c2' : wr.cell? ⟨gs, 2, none⟩ = some ov := hR.at_.blk.cell 2
        have lgs := hR.at_.blk.lt
        have fz2 := hR.at_.blk.frozen 2
        clear hR hnr' hkk HR HNR ok' bk1 bk2
        by_cases h1 : high = low + 1
        · subst h1
          have e1 : (((low + 1 : Nat) : Int) - (low : Int) == 1) = true := by simp; omega
          obtain ⟨e, he⟩ : ∃ e, l[low]? = some e := ⟨_, List.getElem?_eq_getElem (by have := HL.out; omega)⟩
          have hbad := HGD.out.2.2.2 low e he
          rcases (HEV.out.ext (HR'.out.at_.bel)) with h0 | ⟨b, off, rfl, hbl, hev⟩
          · rw [h0] at he; simp at he
          obtain ⟨x1, x2, x3⟩ := hev low e he
          obtain ⟨ew, ea, eb⟩ := e
          simp only at x1 x2 x3
          have hin := AK.good_in hbad
          have HE := Lib.hid he
          have z0 : (0 : Int) ≤ (low : Int) := by omega
          have z1 : (low : Int) < (len : Int) := by omega
          clear hev he hbad
          have hSA : SAt W gs g n (some ⟨b, off, none⟩) len c wr u' ov (AK.joinTo low (low + 1) hs xs) outs := by have := HR'.out.at_; rwa [HTK.out] at this
          have HSA := Lib.hid (hSA.ext ((Below.refl _ _).alloc (Nat.le_refl _) (.cells #[.int .i64 ew, .int .i64 ea, .int .i64 eb] 138)))
          have HMV := Lib.hid (HR'.out.mv.ext ((Below.refl _ _).alloc (Nat.le_refl _) (.cells #[.int .i64 ew, .int .i64 ea, .int .i64 eb] 138)))
          have d1 : (wr.alloc (.cells #[.int .i64 ew, .int .i64 ea, .int .i64 eb] 138)).cell? ⟨wr.heap.size, 1, none⟩ = some (.int .i64 ea) := (Blk.new wr 138 #[.int .i64 ew, .int .i64 ea, .int .i64 eb]).cell 1
          have d2 : (wr.alloc (.cells #[.int .i64 ew, .int .i64 ea, .int .i64 eb] 138)).cell? ⟨wr.heap.size, 2, none⟩ = some (.int .i64 eb) := (Blk.new wr 138 #[.int .i64 ew, .int .i64 ea, .int .i64 eb]).cell 2
          have d0 : (wr.alloc (.cells #[.int .i64 ew, .int .i64 ea, .int .i64 eb] 138)).cell? ⟨gs, 0, none⟩ = some (.pointer (some ⟨g, 0, none⟩)) := HSA.out.blk.cell 0
          have DD := Lib.hid (Blk.new wr 138 #[.int .i64 ew, .int .i64 ea, .int .i64 eb])
          have ZW := Lib.hid (show wr.heap.size < (wr.alloc (.cells #[.int .i64 ew, .int .i64 ea, .int .i64 eb] 138)).heap.size by simp)
          clear hSA
          by_cases hw : ew = 3
          · have W3 := Lib.hid hw
            have hw' : (ew == 3) = true := by simpa using hw
            have hlf : Hid ((UF.rt (AK.joinTo low (low + 1) hs xs) ea.toNat == UF.rt (AK.joinTo low (low + 1) hs xs) eb.toNat) = AK.ansAt l low) := by
              have := AK.Fits.leaf HF.out HT.out
              rwa [List.getD_eq_getElem?_getD, HE.out] at this
            have hask : Hid (AK.asked l low (low + 1 - low) = [AK.ansAt l low]) := by
              unfold Hid
              rw [show low + 1 - low = 1 by omega, AK.asked, AK.asked, Nat.add_zero, List.getD_eq_getElem?_getD, HE.out, Option.getD_some, if_pos W3.out]; rfl
            clear hw
            go_wp2
            generalize wr.alloc (.cells #[.int .i64 ew, .int .i64 ea, .int .i64 eb] 138) = w9 at HSA HMV d0 d1 d2 DD ZW ⊢
            go_region_held3 (fun w' => w'.cell? ⟨gs, 0, none⟩ = some (.pointer (some ⟨g, 0, none⟩)) ∧ w'.cell? ⟨wr.heap.size, 1, none⟩ = some (.int .i64 ea) ∧ w'.cell? ⟨wr.heap.size, 2, none⟩ = some (.int .i64 eb)) (go_keep)
              ((go_at_call 90; refine (same_in (HSA.out.un.drew) HSA.out.ug ea eb ⟨hin.2.2.1, hin.2.2.2.1⟩ ⟨hin.2.2.2.2.1, hin.2.2.2.2.2⟩).mono ?_; rintro e w' ⟨rfl, hb⟩; have HS2 := Lib.hid (HSA.out.ext ((Below.refl _ _).drew.trans hb)); have HM2 := Lib.hid (HMV.out.ext ((Below.refl _ _).drew.trans hb)); have p0 : w'.cell? ⟨gs, 0, none⟩ = some (.pointer (some ⟨g, 0, none⟩)) := HS2.out.blk.cell 0; have p1 : w'.cell? ⟨wr.heap.size, 1, none⟩ = some (.int .i64 ea) := (DD.out.drew.chg (Chg.of_below hb) (by have := ZW.out; simp; omega)).cell 1; have p2 : w'.cell? ⟨wr.heap.size, 2, none⟩ = some (.int .i64 eb) := (DD.out.drew.chg (Chg.of_below hb) (by have := ZW.out; simp; omega)).cell 2; clear hb))
            rw [hlf.out]
            have p3 : w'.cell? ⟨gs, 2, none⟩ = some ov := HS2.out.blk.cell 2
            have f3 := HS2.out.blk.frozen 2
            clear p1 p2
            go_wp2_with (first
              | (at_builtin; refine wpList_push _ rfl (.tmp 112) (.tmp 114) 72 rfl 4 (.bool false) 1 Tryd.underlying72 infoBool1 rfl _ _ _ rfl (HS2.out.row.alloc _) ⟨by omega, by omega⟩ (.bool (AK.ansAt l low)) w'.heap.size rfl (cell_new1 rfl _ _) rfl ?_; intro g5 c5 w5 ho5 hc5 hat5 _; have b5 := (HS2.out.blk.alloc (.cells #[.bool (AK.ansAt l low)] 4)).chg hc5 HS2.out.ogapart; have q3 : w5.cell? ⟨gs, 2, none⟩ = some ov := b5.cell 2; have q4 := b5.frozen 2; have q5 : w5.cell? ⟨gs, 0, none⟩ = some (.pointer (some ⟨g, 0, none⟩)) := b5.cell 0; have HP := Lib.hid (HS2.out.push ho5 hc5 hat5); clear b5 ho5 hc5 hat5))
            refine (back_in HP.out.1.un HP.out.1.ug hs.length BK2.out).mono ?_
            rintro e w8 ⟨u4, rfl, hu4, hm4⟩
            rw [BK1.out] at hu4
            have HZ := Lib.hid (HP.out.1.union_ hu4 hm4)
            have HMZ := Lib.hid ((HM2.out.trans HP.out.2).trans (SMv.union_ hm4))
            clear hu4 hm4
            go_wp2
            go_ret
            rw [hask.out]
            exact ⟨u4, _, rfl, HZ.out, HMZ.out⟩
          · have W3 := Lib.hid hw
            have hw' : (ew == 3) = false := by simpa using hw
            have hask : Hid (AK.asked l low (low + 1 - low) = []) := by
              unfold Hid
              rw [show low + 1 - low = 1 by omega, AK.asked, AK.asked, Nat.add_zero, List.getD_eq_getElem?_getD, HE.out, Option.getD_some, if_neg W3.out]; rfl
            clear hw
            go_wp2_with fail
            refine (back_in HSA.out.un HSA.out.ug hs.length BK2.out).mono ?_
            rintro e w' ⟨u4, rfl, hu4, hm4⟩
            rw [BK1.out] at hu4
            have HZ := Lib.hid (HSA.out.union_ hu4 hm4)
            have HMZ := Lib.hid (HMV.out.trans (SMv.union_ hm4))
            clear hu4 hm4
            go_wp2
            go_ret
            rw [hask.out, List.append_nil]
            exact ⟨u4, ov, rfl, HZ.out, HMZ.out⟩
        · have e1 : ((high : Int) - (low : Int) == 1) = false := by rw [beq_eq_false_iff_ne]; omega
          obtain ⟨mid, hmid⟩ : ∃ mid, mid = (low + high) / 2 := ⟨_, rfl⟩
          have hm1 : low < mid := by omega
          have hm2 : mid < high := by omega
          have hme : ((low : Int) + (high : Int)) / 2 = (mid : Int) := by omega
          have HME := Lib.hid hme
          have HMID := Lib.hid hmid
          have hSA : SAt W gs g n EA len c wr u' ov (AK.joinTo low high hs xs) outs := by have := HR'.out.at_; rwa [HTK.out] at this
          have HSA := Lib.hid hSA
          have HMV := Lib.hid HR'.out.mv
          have hRW : LRow wr (.slice A' nr c') (AK.rest low high xs) := by have := HR'.out.rest; rwa [HTK.out] at this
          have HRW := Lib.hid hRW
          have hin' : ∀ x ∈ AK.rest low high xs, (0 ≤ x.ed.1 ∧ x.ed.1 < n ∧ 0 ≤ x.ed.2 ∧ x.ed.2 < n) ∧ x.fr ≤ 120 ∧ x.til ≤ 120 := fun x hx => HIN.out x (List.mem_filter.1 hx).1
          have HIN' := Lib.hid hin'
          have HFA := Lib.hid (HF.out.sub (a := low) (b := mid) (Nat.le_refl _) (by omega))
          have HFB := Lib.hid (HF.out.sub (a := mid) (b := high) (by omega) (Nat.le_refl _))
          have halen := AK.asked_len l low (mid - low)
          have hsum : Hid (outs ++ AK.asked l low (mid - low) ++ AK.asked l mid (high - mid) = outs ++ AK.asked l low (high - low)) := by
            unfold Hid
            have := AK.asked_add l low (mid - low) (high - mid)
            rw [show mid - low + (high - mid) = high - low by omega, show low + (mid - low) = mid by omega] at this
            rw [this, List.append_assoc]
          clear hmid hme hSA hRW hin'
          go_wp2_with fail
          rw [HME.out]
          refine (IH.out low mid wr u' ov _ outs A' nr c' (AK.rest low high xs) _ (by omega) (by omega) (by omega) hol HNR'.out.symm (by omega) HSA.out HRW.out HIN'.out HT'.out HFA.out).mono ?_
          rintro e w2 ⟨u2, ov2, rfl, hs2, hv2⟩
          have HS2 := Lib.hid hs2
          have HM2 := Lib.hid (HMV.out.trans hv2)
          have HRW2 : Hid (LRow w2 (.slice A' nr c') (AK.rest low high xs)) := own_chg HRW.out hv2.1 (fun j hj hf => HSA.out.lapart HRW.out hj hf)
          clear hs2 hv2
          go_wp2_with fail
          refine (IH.out mid high w2 u2 ov2 _ _ A' nr c' (AK.rest low high xs) _ (by omega) (by omega) (by omega) (by rw [List.length_append]; omega) HNR'.out.symm (by omega) HS2.out HRW2.out HIN'.out HT'.out HFB.out).mono ?_
          rintro e w3 ⟨u3, ov3, rfl, hs3, hv3⟩
          rw [hsum.out] at hs3
          have HS3 := Lib.hid hs3
          have HM3 := Lib.hid (HM2.out.trans hv3)
          have c03 : w3.cell? ⟨gs, 0, none⟩ = some (.pointer (some ⟨g, 0, none⟩)) := HS3.out.blk.cell 0
          clear hs3 hv3
          go_wp2_with fail
          refine (back_in HS3.out.un HS3.out.ug hs.length BK2.out).mono ?_
          rintro e w8 ⟨u4, rfl, hu4, hm4⟩
          rw [BK1.out] at hu4
          have HZ := Lib.hid (HS3.out.union_ hu4 hm4)
          have HMZ := Lib.hid (HM3.out.trans (SMv.union_ hm4))
          clear hu4 hm4
          go_wp2
          go_ret
          exact ⟨u4, ov3, rfl, HZ.out, HMZ.out⟩
theorem solve_any (W : World) (gs g n : Nat) (EA : Option Addr) (len c : Nat) (l : List AK.Ev) (hl : l.length = len) (hev : EvsAt W EA l) (hgd : AK.Good (n : Int) l) : ∀ d, SvAsks W gs g n EA len c l d
  | 0 => fun low high w u ov hs outs A m cx xs es h1 => absurd h1 (Nat.not_lt_zero _)
  | d + 1 => solve_step W gs g n EA len c l hl hev hgd d (solve_any W gs g n EA len c l hl hev hgd d)
end Go.Proofs.YtenjblonepegfaaDoor
