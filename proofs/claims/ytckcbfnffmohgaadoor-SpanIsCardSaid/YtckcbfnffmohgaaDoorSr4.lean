/-
  SpanIs' walk. Conditions: the edges lie in memory as 'HvAt' says; errors.errorType's cell.
-/
import Derived.Test.YtckcbfnffmohgaaDoorSn3
import Derived.Test.YtckcbfnffmohgaaDoorSn6
import Derived.Test.YtckcbfnffmohgaaDoorSr3
import Derived.Test.YtckcbfnffmohgaaDoorTd2
namespace Go.Proofs.YtckcbfnffmohgaaDoor
open Go Go.RowKit Go.Lib NK
set_option linter.unusedVariables false

def nodeI (n a : Int) : Bool := decide (0 ≤ a) && decide (a < n)
theorem nodeI_iff {n a : Int} : nodeI n a = true ↔ 0 ≤ a ∧ a < n := by unfold nodeI; simp
theorem rnodeS (w : World) (n a : Int) : Calls Tryd.prog 11 #[.int .i64 n, .int .i64 a] w fun e w' => e = .returned (.bool (nodeI n a)) ∧ w = w' := by
  by_cases c1 : 0 ≤ a
  · by_cases c2 : a < n
    · have HB : Hid (nodeI n a = true) := nodeI_iff.2 ⟨c1, c2⟩
      have c3 : decide (a < n) = true := decide_eq_true c2
      go_enter Tryd.func11, Tryd.ntmps11
      go_wp2
      go_ret
      exact ⟨by rw [HB.out]; rfl, rfl⟩
    · have HB : Hid (nodeI n a = false) := by unfold Hid nodeI; simp; omega
      have c3 : decide (a < n) = false := decide_eq_false c2
      go_enter Tryd.func11, Tryd.ntmps11
      go_wp2
      go_ret
      exact ⟨by rw [HB.out]; rfl, rfl⟩
  · have HB : Hid (nodeI n a = false) := by unfold Hid nodeI; simp; omega
    go_enter Tryd.func11, Tryd.ntmps11
    go_wp2
    go_ret
    exact ⟨by rw [HB.out]; rfl, rfl⟩
theorem serr (w : World) (x : Int) (hg : Td.Door w) : Calls Tryd.prog 6 #[errH x, .int .i64 x] w fun e w' => e = .returned (.bool true) ∧ Ext w w' := by
  by_cases h : x = 0
  · subst h; exact same_nil w 0 true rfl
  · rw [errH_ne h]; exact same_errno w x x hg true (by simp)

set_option maxRecDepth 100000 in
set_option maxHeartbeats 4000000 in
theorem si_walk (n : Int) (A : Option Addr) (m c : Nat) (L : List He) (a b : Int) (w : World) (hd : Td.Door w) (hs : HvAt w A L ∧ L.length = m ∧ m ≤ c ∧ c ≤ maxLen) :
    Calls Tryd.prog 3 #[.int .i64 n, .slice A m c, .int .i64 a, .int .i64 b] w fun e w' => e = .returned (.bool true) ∧ Below w.heap.size w w' := by
  obtain ⟨hH, hl, hmc, hcm⟩ := hs
  unfold maxLen at hcm
  have hm63 : m ≤ 9223372036854775807 := by omega
  have HL : Hid (L.length = m ∧ HvAt w A L) := ⟨hl, hH⟩
  have HHF := Lib.hid (rheavy_any w n A m c L hl hm63 hH)
  have HCK := Lib.hid (fun W (hW : Ext w W) => scheck_any W n A m c L hl hm63 (hH.ext hW))
  have HSP := Lib.hid (fun W (hW : Ext w W) => span_any W n A m c L hl hm63 (hH.ext hW))
  have HWT := Lib.hid (fun W (hW : Ext w W) => weight_any W n A m c L hl hm63 (hH.ext hW))
  have HNK := Lib.hid (fun W (hW : Ext w W) => neck_any W n A m c L a b hl hm63 (hH.ext hW))
  have HSE : Hid (∀ W x, Ext w W → Calls Tryd.prog 6 #[errH x, .int .i64 x] W fun e w' => e = .returned (.bool true) ∧ Ext W w') := fun W x hW => serr W x (hd.new hW)
  clear hH hl hmc hcm hd
  go_enter Tryd.func3, Tryd.ntmps3
  go_wp2_with fail
  refine HHF.out.mono ?_
  rintro e w1 ⟨rfl, hx1⟩
  have X1 : Hid (Ext w w1) := hx1
  clear hx1 HHF
  obtain ⟨p, hp⟩ : ∃ p, (hvF n L).1 = p := ⟨_, rfl⟩
  obtain ⟨q, hq⟩ : ∃ q, (hvF n L).2 = q := ⟨_, rfl⟩
  rw [hp, hq]
  go_wp2_with fail
  go_at_call 5
  refine (HCK.out w1 X1.out).mono ?_
  rintro e w2 ⟨rfl, hx2⟩
  have X2 : Hid (Ext w w2) := Ext.trans X1.out hx2
  rw [hp, hq]
  have HQ := Lib.hid hq
  clear hx2 HCK X1 hp hq
  go_wp2_with fail
  go_at_call 6
  refine (HSE.out w2 q X2.out).mono ?_
  rintro e w3 ⟨rfl, hx3⟩
  have X3 : Hid (Ext w w3) := Ext.trans X2.out hx3
  clear hx3 X2
  by_cases hq0 : q = 0
  · subst hq0
    have HOK := Lib.hid (okH_of.1 HQ.out)
    obtain ⟨n, hn0⟩ := Int.eq_ofNat_of_zero_le (show 0 ≤ n by have := HOK.out.n1; omega)
    subst hn0
    have HSE0 : Hid (∀ W x, Ext w W → (x = 0 → Calls Tryd.prog 6 #[.nilIface, .int .i64 x] W fun e w' => e = .returned (.bool true) ∧ Ext W w') ∧ (x ≠ 0 → Calls Tryd.prog 6 #[errVU x, .int .i64 x] W fun e w' => e = .returned (.bool true) ∧ Ext W w')) := fun W x hW => by
      have := HSE.out W x hW
      refine ⟨fun h => ?_, fun h => ?_⟩
      · rw [h] at this ⊢; exact this
      · rwa [errH_ne h] at this
    rw [show errH 0 = .nilIface from rfl]
    have HSO := Lib.hid (spanOf_any w3 n A m c L HL.out.1 HOK.out (HL.out.2.ext X3.out))
    clear HSE
    go_wp2_with fail
    refine HSO.out.mono ?_
    rintro e w4 ⟨R, cr, rfl, hI, hx4⟩
    have X4 : Hid (Ext w w4) := Ext.trans X3.out hx4
    obtain ⟨ss, hss⟩ : ∃ ss, spanH L = ss := ⟨_, rfl⟩
    have HXI : Hid (∀ x ∈ ss, ∃ i : Nat, i < m ∧ x = (i : Int)) := fun x hx => by
      rw [← hss] at hx
      obtain ⟨i, h1, _, h3⟩ := mem_spanH.1 hx
      exact ⟨i, by rw [← HL.out.1]; exact h1, h3.symm⟩
    have hxl : ss.length ≤ 200 := by rw [← hss]; have := spanH_len L; have := HOK.out.len; omega
    have HSS := Lib.hid hss
    rw [hss] at hI ⊢
    have HI := Lib.hid hI
    have HV := Lib.hid (HL.out.2.ext X4.out)
    clear hx4 X3 HSO hI hss
    go_wp2
    go_loopw [15, 16] (fun v15 v16 wr => ∃ k : Nat, k ≤ ss.length ∧ v15 = .int .i64 (wsum L (ss.take k)) ∧ v16 = .int .i64 k ∧ Hid (wr = w4)) (fun _ v16 _ => ss.length - (intOf v16).toNat)
    case atStart => exact ⟨0, Nat.zero_le _, rfl, rfl, rfl⟩
    case round =>
      as_aux_lemma =>
      obtain ⟨k, hk, rfl, rfl, HWE⟩ := hrel
      have hwe := HWE.out
      subst hwe
      by_cases c1 : k < ss.length
      · have hgx : ss[k]? = some ss[k] := List.getElem?_eq_getElem c1
        obtain ⟨i, hi, hxi⟩ := HXI.out _ (List.getElem_mem c1)
        rw [hxi] at hgx
        rcases HI.out with h0 | ⟨gr, ofr, rfl, _, hcr⟩
        · rw [h0] at c1; simp at c1
        have r1 := hcr k _ hgx
        obtain ⟨bs, off, x, rfl, hbs, hx, _, _, a2⟩ := HV.out.at_ (i := i) (by rw [HL.out.1]; exact hi)
        have hst : wsum L (ss.take (k + 1)) = wsum L (ss.take k) + x.2 := by
          rw [List.take_add_one, hgx, Option.toList_some, wsum_snoc, wtH_at hx]
        have hb := wsum_in HOK.out (ss.take k) fun y hy => by
          obtain ⟨j, _, e⟩ := HXI.out y (List.mem_of_mem_take hy)
          omega
        have hbl : (ss.take k).length ≤ k := by rw [List.length_take]; omega
        have hxo := HOK.out.ok x (List.mem_of_getElem? hx)
        have HS := Lib.hid hst
        obtain ⟨⟨x1, x2⟩, x3⟩ := x
        simp only at a2 hxo HS
        generalize wsum L (ss.take k) = s at hb HS ⊢
        have hkz : (k : Int) < (ss.length : Int) := by omega
        have hkg : (0 : Int) ≤ (k : Int) := by omega
        have hiz : (i : Int) < (m : Int) := by omega
        have hig : (0 : Int) ≤ (i : Int) := by omega
        have rw1 : IntKind.i64.wrap (s + x3) = s + x3 := IntWalk.i64_in _ (by omega)
        clear hst hgx hcr hx hxo hb hxi HWE
        go_wp2
        go_roundw
        case rel => exact ⟨k + 1, by omega, by rw [HS.out], by go_num, by first | rfl | trivial⟩
        case measure => simp [intOf]; omega
      · obtain rfl : k = ss.length := by omega
        have hkz : ¬ (ss.length : Int) < (ss.length : Int) := by omega
        rw [List.take_length]
        obtain ⟨sw, hsw⟩ : ∃ q, wsum L ss = q := ⟨_, rfl⟩
        rw [hsw]
        have HSW := Lib.hid hsw
        clear hsw HWE HV
        go_wp2_with fail
        refine (HSP.out wr X4.out).mono ?_
        rintro e w5 ⟨hx5, ⟨hb, _⟩ | ⟨_, _, R5, c5, rfl, hr5, _⟩⟩
        · exact absurd HQ.out hb
        rw [HSS.out] at hr5 ⊢
        obtain ⟨hI5, _⟩ := IntsAt.of_own hr5
        have HI5 : Hid (IntsAt w5 R5 ss ∧ IntsAt w5 R ss) := ⟨hI5, HI.out.ext hx5⟩
        have X5 : Hid (Ext w w5) := Ext.trans X4.out hx5
        clear hx5 hr5 hI5 HI X4 HSP
        go_wp2_with fail
        refine ((HSE0.out w5 0 X5.out).1 rfl).mono ?_
        rintro e w6 ⟨rfl, hx6⟩
        have X6 : Hid (Ext w w6) := Ext.trans X5.out hx6
        have HI6 : Hid (IntsAt w6 R5 ss ∧ IntsAt w6 R ss) := ⟨HI5.out.1.ext hx6, HI5.out.2.ext hx6⟩
        clear hx6 HI5 X5
        go_wp2_with fail
        refine (ints_any w6 R5 R ss.length ss.length c5 cr ss ss HI6.out.1 HI6.out.2 rfl rfl (by omega) (by omega) true (by simp)).mono ?_
        rintro e w7 ⟨rfl, hx7⟩
        have X7 : Hid (Ext w w7) := Ext.trans X6.out hx7
        clear hx7 HI6 X6
        go_wp2_with fail
        refine (HWT.out w7 X7.out).mono ?_
        rintro e w8 ⟨hx8, ⟨hb, _⟩ | ⟨_, rfl⟩⟩
        · exact absurd HQ.out hb
        rw [HSS.out, HSW.out]
        have X8 : Hid (Ext w w8) := Ext.trans X7.out hx8
        clear hx8 HWT X7
        go_wp2_with fail
        refine ((HSE0.out w8 0 X8.out).1 rfl).mono ?_
        rintro e w9 ⟨rfl, hx9⟩
        have X9 : Hid (Ext w w9) := Ext.trans X8.out hx9
        clear hx9 X8 HSW HSS HXI
        go_wp2_with fail
        refine (rnodeS w9 n a).mono ?_
        rintro e w10 ⟨rfl, rfl⟩
        go_wp2_with fail
        refine (rnodeS w9 n b).mono ?_
        rintro e w10 ⟨rfl, rfl⟩
        by_cases hin : In2 n a b
        · have e1 : nodeI n a = true := nodeI_iff.2 hin.1
          have e2 : nodeI n b = true := nodeI_iff.2 hin.2
          have HIN := Lib.hid hin
          obtain ⟨a, rfl⟩ := Int.eq_ofNat_of_zero_le hin.1.1
          obtain ⟨b, rfl⟩ := Int.eq_ofNat_of_zero_le hin.2.1
          have HNO := Lib.hid (neckOf_any w9 n A m c L a b HL.out.1 HOK.out (HL.out.2.ext X9.out) (by have := hin.1.2; omega) (by have := hin.2.2; omega))
          rw [e1, e2]
          clear hin e1 e2
          go_wp2_with fail
          refine HNO.out.mono ?_
          rintro e w10 ⟨y, o, rfl, hy, hx10⟩
          have X10 : Hid (Ext w w10) := Ext.trans X9.out hx10
          have HY := Lib.hid hy
          clear hx10 hy HNO X9
          have HFIN : Hid (∀ x k, NeckX n L a b x k → (o = true → x = y ∧ k = 0) ∧ (o = false → x = 0 ∧ k = 4)) := fun x k hx => by
            cases hx with
            | bad h => exact absurd HQ.out h
            | range _ h => exact absurd HIN.out h
            | self _ _ e =>
              rcases HY.out with ⟨q1, q2, q3⟩ | ⟨q1, _⟩ | ⟨q1, _⟩
              · exact ⟨fun _ => ⟨q2.symm, rfl⟩, fun h => by rw [q3] at h; cases h⟩
              · exact absurd (by omega) q1
              · exact absurd (by omega) q1
            | none _ _ e h =>
              simp only [Int.toNat_natCast] at h
              rcases HY.out with ⟨q1, _⟩ | ⟨_, _, q2, q3⟩ | ⟨_, _, q2, q3⟩
              · exact absurd (by omega) e
              · exact ⟨(fun h => by rw [q3] at h; cases h), fun _ => ⟨rfl, rfl⟩⟩
              · exact absurd (le_all q2.le) h
            | some _ _ e t0 h =>
              simp only [Int.toNat_natCast] at h
              rcases HY.out with ⟨q1, _⟩ | ⟨_, q2, _, q3⟩ | ⟨_, _, q2, q3⟩
              · exact absurd (by omega) e
              · exact absurd (le_all h.le) q2
              · exact ⟨fun _ => ⟨h.uniq q2, rfl⟩, fun h => by rw [q3] at h; cases h⟩
          have HF1 : Hid (o = true → ∀ x k, NeckX n L a b x k → x = y ∧ k = 0) := fun h x k hx => (HFIN.out x k hx).1 h
          have HF2 : Hid (o = false → ∀ x k, NeckX n L a b x k → x = 0 ∧ k = 4) := fun h x k hx => (HFIN.out x k hx).2 h
          clear HFIN
          cases o with
          | true =>
            go_wp2_with fail
            refine (HNK.out w10 X10.out).mono ?_
            rintro e w11 ⟨x, k, rfl, hx, hx11⟩
            have X11 : Hid (Ext w w11) := Ext.trans X10.out hx11
            obtain ⟨rfl, rfl⟩ := HF1.out (by first | rfl | trivial) x k hx
            rw [show errH 0 = .nilIface from rfl]
            clear hx hx11 X10 HNK HF1 HF2 HY
            go_wp2_with fail
            refine ((HSE0.out w11 0 X11.out).1 rfl).mono ?_
            rintro e w12 ⟨rfl, hx12⟩
            have X12 : Hid (Ext w w12) := Ext.trans X11.out hx12
            clear hx12 X11
            go_wp2
            go_ret
            exact ⟨rfl, X12.out⟩
          | false =>
            go_wp2_with fail
            refine (HNK.out w10 X10.out).mono ?_
            rintro e w11 ⟨x, k, rfl, hx, hx11⟩
            have X11 : Hid (Ext w w11) := Ext.trans X10.out hx11
            obtain ⟨rfl, rfl⟩ := HF2.out (by first | rfl | trivial) x k hx
            rw [show errH 4 = errVU 4 from rfl]
            clear hx hx11 X10 HNK HF1 HF2 HY
            go_wp2_with fail
            refine ((HSE0.out w11 4 X11.out).2 (by decide)).mono ?_
            rintro e w12 ⟨rfl, hx12⟩
            have X12 : Hid (Ext w w12) := Ext.trans X11.out hx12
            clear hx12 X11
            go_wp2
            go_ret
            exact ⟨rfl, X12.out⟩
        · have hand : (nodeI n a && nodeI n b) = false := by
            cases h : nodeI n a && nodeI n b with
            | false => rfl
            | true =>
              rw [Bool.and_eq_true] at h
              exact absurd ⟨nodeI_iff.1 h.1, nodeI_iff.1 h.2⟩ hin
          have HRX : Hid (∀ x k, NeckX n L a b x k → x = 0 ∧ k = 1) := fun x k hx => by
            cases hx with
            | bad h => exact absurd HQ.out h
            | range _ h => exact ⟨rfl, rfl⟩
            | self _ h _ => exact absurd h hin
            | none _ h _ _ => exact absurd h hin
            | some _ h _ _ _ => exact absurd h hin
          have HEND : Hid (∀ W, Ext w W → Calls Tryd.prog 13 #[.int .i64 n, .slice A m c, .int .i64 a, .int .i64 b] W fun e w' => e = .returned (.tuple #[.int .i64 0, errVU 1]) ∧ Ext W w') := fun W hW => (HNK.out W hW).mono fun e w' ⟨x, k, he, hx, hx'⟩ => by
            obtain ⟨rfl, rfl⟩ := HRX.out x k hx
            exact ⟨he, hx'⟩
          have HE1 := Lib.hid (fun W (hW : Ext w W) => (HSE0.out W 1 hW).2 (by decide))
          clear hin HNK HRX HSE0
          generalize nodeI n a = na at hand ⊢
          generalize nodeI n b = nb at hand ⊢
          cases na with
          | false =>
            go_wp2_with fail
            refine (HEND.out w9 X9.out).mono ?_
            rintro e w11 ⟨rfl, hx11⟩
            have X11 : Hid (Ext w w11) := Ext.trans X9.out hx11
            clear hx11 X9 HEND
            go_wp2_with fail
            refine (HE1.out w11 X11.out).mono ?_
            rintro e w12 ⟨rfl, hx12⟩
            have X12 : Hid (Ext w w12) := Ext.trans X11.out hx12
            clear hx12 X11
            go_wp2
            go_ret
            exact ⟨rfl, X12.out⟩
          | true =>
            obtain rfl : nb = false := by simpa using hand
            go_wp2_with fail
            refine (HEND.out w9 X9.out).mono ?_
            rintro e w11 ⟨rfl, hx11⟩
            have X11 : Hid (Ext w w11) := Ext.trans X9.out hx11
            clear hx11 X9 HEND
            go_wp2_with fail
            refine (HE1.out w11 X11.out).mono ?_
            rintro e w12 ⟨rfl, hx12⟩
            have X12 : Hid (Ext w w12) := Ext.trans X11.out hx12
            clear hx12 X11
            go_wp2
            go_ret
            exact ⟨rfl, X12.out⟩
  · have HQ0 := Lib.hid hq0
    have HSE2 : Hid (∀ W, Ext w W → Calls Tryd.prog 6 #[errVU q, .int .i64 q] W fun e w' => e = .returned (.bool true) ∧ Ext W w') := fun W hW => by
      have := HSE.out W q hW
      rwa [errH_ne hq0] at this
    have e1 : (q == 0) = false := by rw [beq_eq_false_iff_ne]; exact hq0
    rw [errH_ne hq0]
    clear hq0 HSE
    go_wp2
    refine wp_loop_rounds 1 ?_
    rw [rounds_succ]
    go_wp2_with fail
    refine (HSP.out w3 X3.out).mono ?_
    rintro e w4 ⟨hx4, ⟨_, rfl⟩ | ⟨hok, _⟩⟩
    rotate_left
    · exact absurd ((okH_of.2 hok).symm.trans HQ.out).symm HQ0.out
    rw [HQ.out]
    have X4 : Hid (Ext w w4) := Ext.trans X3.out hx4
    clear hx4 X3 HSP
    go_wp2_with fail
    refine (HSE2.out w4 X4.out).mono ?_
    rintro e w5 ⟨rfl, hx5⟩
    have X5 : Hid (Ext w w5) := Ext.trans X4.out hx5
    clear hx5 X4
    go_wp2_with fail
    refine (ints_any w5 none none 0 0 0 0 [] [] (.inl rfl) (.inl rfl) rfl rfl (by decide) (by decide) true rfl).mono ?_
    rintro e w6 ⟨rfl, hx6⟩
    have X6 : Hid (Ext w w6) := Ext.trans X5.out hx6
    clear hx6 X5
    go_wp2_with fail
    refine (HWT.out w6 X6.out).mono ?_
    rintro e w7 ⟨hx7, ⟨_, rfl⟩ | ⟨hok, _⟩⟩
    rotate_left
    · exact absurd ((okH_of.2 hok).symm.trans HQ.out).symm HQ0.out
    rw [HQ.out]
    have X7 : Hid (Ext w w7) := Ext.trans X6.out hx7
    clear hx7 X6 HWT
    go_wp2_with fail
    refine (HSE2.out w7 X7.out).mono ?_
    rintro e w8 ⟨rfl, hx8⟩
    have X8 : Hid (Ext w w8) := Ext.trans X7.out hx8
    clear hx8 X7
    go_wp2_with fail
    refine (rnodeS w8 n a).mono ?_
    rintro e w9 ⟨rfl, rfl⟩
    go_wp2_with fail
    refine (rnodeS w8 n b).mono ?_
    rintro e w9 ⟨rfl, rfl⟩
    go_wp2_with fail
    refine (HNK.out w8 X8.out).mono ?_
    rintro e w9 ⟨x, k, rfl, hx, hx9⟩
    have X9 : Hid (Ext w w9) := Ext.trans X8.out hx9
    have hxk : x = 0 ∧ k = q := by
      cases hx with
      | bad h => exact ⟨rfl, HQ.out⟩
      | range h _ => exact absurd ((okH_of.2 h).symm.trans HQ.out).symm HQ0.out
      | self h _ _ => exact absurd ((okH_of.2 h).symm.trans HQ.out).symm HQ0.out
      | none h _ _ _ => exact absurd ((okH_of.2 h).symm.trans HQ.out).symm HQ0.out
      | some h _ _ _ _ => exact absurd ((okH_of.2 h).symm.trans HQ.out).symm HQ0.out
    obtain ⟨rfl, rfl⟩ := hxk
    rw [errH_ne HQ0.out]
    clear hx hx9 X8 HNK
    go_wp2_with fail
    refine (HSE2.out w9 X9.out).mono ?_
    rintro e w10 ⟨rfl, hx10⟩
    have X10 : Hid (Ext w w10) := Ext.trans X9.out hx10
    clear hx10 X9
    go_wp2
    go_ret
    exact ⟨rfl, X10.out⟩
end Go.Proofs.YtckcbfnffmohgaaDoor
