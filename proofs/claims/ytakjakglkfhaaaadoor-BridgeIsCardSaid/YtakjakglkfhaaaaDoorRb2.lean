/-
  Walk of the references' BridgesOf. Conditions: the edges lie in memory as 'EdsAt' says, and are edges that may be.
-/
import Derived.Test.YtakjakglkfhaaaaDoorRb1
import Derived.Test.YtakjakglkfhaaaaDoorGr
namespace Go.Proofs.YtakjakglkfhaaaaDoor
open Go Go.RowKit PT
set_option linter.unusedVariables false

def RbPost (w : World) (n : Nat) (l : List AK.Ed) (e : Ending) (w' : World) : Prop := ∃ A c x, e = .returned (.slice A (x : List AK.Ed).length c) ∧ EdsAt w' A x ∧ x.length ≤ 200 ∧ Ext w w' ∧ BrsOf n l x
theorem take_filter {l : List AK.Ed} {P : AK.Ed → Bool} {i : Nat} {x : AK.Ed} (h : l[i]? = some x) : (l.take (i + 1)).filter P = (l.take i).filter P ++ if P x = true then [x] else [] := by
  rw [take_snoc' h, List.filter_append]
  congr 1
  by_cases q : P x = true
  · rw [if_pos q, List.filter_cons_of_pos q]; rfl
  · rw [if_neg q, List.filter_cons_of_neg q]; rfl
theorem filt_len (l : List AK.Ed) (P : AK.Ed → Bool) (i : Nat) : ((l.take i).filter P).length ≤ i := Nat.le_trans (List.length_filter_le _ _) (by rw [List.length_take]; omega)
set_option maxHeartbeats 4000000 in
set_option maxRecDepth 100000 in
theorem bridgesOf_any (w : World) (n : Nat) (A : Option Addr) (m c : Nat) (l : List AK.Ed) (hl : l.length = m) (hm : m ≤ 200) (hmc : m ≤ c) (hcm : c ≤ maxLen) (h : EdsAt w A l) (hn0 : 1 ≤ n) (hn : n ≤ 60) (hok : ∀ x ∈ l, 0 ≤ x.1 ∧ x.1 < x.2 ∧ x.2 < (n : Int)) (hp : l.Pairwise ltE) :
    Calls Tryd.prog 22 #[.int .i64 (n : Int), .slice A m c] w (RbPost w n l) := by
  have H := Lib.hid h
  have HL := Lib.hid hl
  have HOK := Lib.hid hok
  have HP := Lib.hid hp
  clear h hl hok hp
  go_enter Tryd.func22, Tryd.ntmps22
  go_wp2_with fail
  refine (parts_any w A n m c l HL.out hn0 (by omega) (by omega) H.out (inn_fine HOK.out)).mono ?_
  rintro e w1 ⟨p, gp, cp, rfl, hrow, hip, hb1, _⟩
  have HI1 := Lib.hid (natv_ints hrow)
  have HPP := Lib.hid hip
  have HX1 : Hid (Ext w w1) := hb1
  clear hrow hip hb1
  go_wp2_with fail
  refine (count_any w1 _ n cp p HI1.out.1 HI1.out.2 (by omega)).mono ?_
  rintro e w2 ⟨rfl, hb2⟩
  have HX2 : Hid (Ext w w2) := Ext.trans HX1.out hb2
  obtain ⟨all, hall⟩ : ∃ t, cntP n p = t := ⟨_, rfl⟩
  rw [hall]
  have HALL := Lib.hid hall
  have hall60 : all ≤ 60 := by rw [← hall]; exact Nat.le_trans (PD.cnt_le _ _) hn
  clear HI1 HX1 hb2 hall
  go_wp2
  go_loopw [6, 7] (fun v6 v7 wr => ∃ (i : Nat) (d : List AK.Ed), i ≤ m ∧ d.length ≤ i ∧ v7 = .int .i64 i ∧ Hid (GrE w d v6 wr ∧ d = (l.take i).filter (brP l))) (fun _ v7 _ => m - (intOf v7).toNat)
  case atStart => exact ⟨0, [], Nat.zero_le _, Nat.le_refl _, rfl, GrE.nil HX2.out, by simp⟩
  case round =>
    obtain ⟨i, d, hi, hd, rfl, hR⟩ := hrel
    rename_i u6
    by_cases hlt : i < m
    · have hi0 : (0 : Int) ≤ (i : Int) := by omega
      have hi1 : (i : Int) < (m : Int) := by omega
      obtain ⟨x, hx⟩ : ∃ x, l[i]? = some x := ⟨_, List.getElem?_eq_getElem (by rw [HL.out]; exact hlt)⟩
      have hxo := HOK.out x (List.mem_of_getElem? hx)
      obtain ⟨u, v, rfl, huv, hvn⟩ : ∃ u v : Nat, x = ((u : Int), (v : Int)) ∧ u < v ∧ v < n := by
        obtain ⟨u, hu⟩ := Int.eq_ofNat_of_zero_le hxo.1
        obtain ⟨v, hv⟩ := Int.eq_ofNat_of_zero_le (show 0 ≤ x.2 by omega)
        exact ⟨u, v, Prod.ext hu hv, by omega, by omega⟩
      have hmn := erase_mn HOK.out HP.out hx
      have hokE : ∀ z ∈ l.eraseIdx i, 0 ≤ z.1 ∧ z.1 < z.2 ∧ z.2 < (n : Int) := fun z hz => HOK.out z (List.mem_of_mem_eraseIdx hz)
      have HBC : Hid (∀ q, IsParts n (prs (l.eraseIdx i)) q → (all < cntP n q ↔ ¬ DF.Go2 l u v)) := fun q hq => by
        rw [← HALL.out]
        exact DF.bridge_count (prs_iff (inn_fine HOK.out)) (prs_iff (inn_fine hokE)) HPP.out hq hmn (.inl (List.mem_of_getElem? hx)) (by omega) hvn
      have HLE : Hid ((l.eraseIdx i).length ≤ 200) := by rw [Hid, List.length_eraseIdx]; have := HL.out; split <;> omega
      have HIE : Hid (Inn n (l.eraseIdx i)) := inn_fine hokE
      have HTF := Lib.hid (take_filter (P := brP l) hx)
      have HBI := Lib.hid (brP_iff (l := l) (u := u) (v := v))
      rcases H.out with h0 | ⟨bl, off, rfl, hbl, hev⟩
      · rw [h0] at hx; simp at hx
      have HC : Hid (∀ w', Ext w w' → w'.cell? ⟨bl, off + i * 2, none⟩ = some (.int .i64 (u : Int)) ∧ w'.cell? ⟨bl, off + i * 2 + 1, none⟩ = some (.int .i64 (v : Int))) := fun w' hw => by
        obtain ⟨e1, e2⟩ := hev i _ hx
        exact ⟨(hw.cell (p := ⟨bl, _, none⟩) hbl).trans e1, (hw.cell (p := ⟨bl, _, none⟩) hbl).trans e2⟩
      have HRO := Lib.hid (rout_any wr (some ⟨bl, off, none⟩) m c l i HL.out (by omega) hmc hcm hlt (H.out.ext hR.out.1.ext))
      have HG := Lib.hid hR.out
      clear hmn hokE hx hev hR hxo
      go_wp2_with fail
      refine HRO.out.mono ?_
      rintro e w3 ⟨A3, c3, rfl, hr3, hb3, _⟩
      obtain ⟨le, hle⟩ : ∃ t, (l.eraseIdx i).length = t := ⟨_, rfl⟩
      have HE3 := Lib.hid (DRow.eds hr3 rfl).1
      rw [hle] at HLE ⊢
      have HLEE := Lib.hid hle
      have HX3 : Hid (Ext wr w3) := hb3
      clear hr3 hb3 hle HRO
      go_wp2_with fail
      refine (parts_any w3 A3 n le c3 (l.eraseIdx i) HLEE.out hn0 (by omega) (by have := HLE.out; omega) HE3.out HIE.out).mono ?_
      rintro e w4 ⟨q, gq, cq, rfl, hrow, hiq, hb4, _⟩
      have HI4 := Lib.hid (natv_ints hrow)
      have HX4 : Hid (Ext wr w4) := Ext.trans HX3.out hb4
      have hbc := HBC.out q hiq
      clear hrow hiq hb4 HE3
      go_wp2_with fail
      refine (count_any w4 _ n cq q HI4.out.1 HI4.out.2 (by omega)).mono ?_
      rintro e w5 ⟨rfl, hb5⟩
      have HX5 : Hid (Ext wr w5) := Ext.trans HX4.out hb5
      have HG5 := Lib.hid (HG.out.1.moved HX5.out)
      obtain ⟨cn, hcn⟩ : ∃ t, cntP n q = t := ⟨_, rfl⟩
      rw [hcn] at hbc ⊢
      clear hb5 hcn HI4 HX4 HX3
      obtain ⟨e1, e2⟩ := HC.out w5 HG5.out.ext
      by_cases hgo : DF.Go2 l u v
      · have h1 : ¬ (all : Int) < (cn : Int) := by have := (not_congr hbc).2 (fun z => z hgo); omega
        have HD : Hid (d = (l.take (i + 1)).filter (brP l)) := by
          rw [Hid, HTF.out, if_neg (fun z => HBI.out.1 z hgo), ← HG.out.2, List.append_nil]
        clear hbc hgo
        go_wp2
        go_roundw
        case rel => exact ⟨i + 1, d, by omega, by omega, by go_num, HG5.out, HD.out⟩
        case measure => simp [intOf]; omega
      · have h1 : (all : Int) < (cn : Int) := by have := hbc.2 hgo; omega
        have HD : Hid (d ++ [((u : Int), (v : Int))] = (l.take (i + 1)).filter (brP l)) := by
          rw [Hid, HTF.out, if_pos (HBI.out.2 hgo), ← HG.out.2]
        clear hbc hgo
        go_wp2_with (at_builtin; refine wpList_pushS _ rfl (.tmp 26) (.tmp 31) 22 rfl 63 _ 2 16 Tryd.underlying22 infoEdge rfl (by decide) _ _ _ rfl (HG5.out.moved (Ext.alloc _ _)).row ⟨by omega, by omega⟩ (edC ((u : Int), (v : Int))) _ rfl rfl (news_cells rfl _ _) (by simp [edC, Value.oneCell']) ?_; intro g6 c6 w6 ho6 hc6 hat6 _; have HZ := Lib.hid ((HG5.out.moved (Ext.alloc _ _)).push ho6 hc6 hat6); clear ho6 hc6 hat6)
        go_roundw
        case rel => exact ⟨i + 1, _, by omega, by rw [snoc_len']; omega, by go_num, HZ.out, HD.out⟩
        case measure => simp [intOf]; omega
    · obtain rfl : m = i := by omega
      have HZ : Hid (RbPost w n l (.returned u6) wr) := by
        obtain ⟨A', c', rfl, h1, _, _⟩ := hR.out.1.eds
        have e : d = l.filter (brP l) := by rw [hR.out.2, List.take_of_length_le (by rw [HL.out]; exact Nat.le_refl _)]
        exact ⟨A', c', d, rfl, h1, by omega, hR.out.1.ext, by rw [e]; exact brs_filter HOK.out HP.out⟩
      clear hR
      go_wp2
      go_ret
      exact HZ.out
end Go.Proofs.YtakjakglkfhaaaaDoor
