/-
  The walk of NoteBack; footbridgesame.Pick. Conditions: the edges lie in memory as 'EdsAt' says; the package variables' cells.
-/
import Derived.Test.YtakjakglkfhaaaaDoorNt5
import Derived.Test.YtakjakglkfhaaaaDoorNt3
import Derived.Test.YtakjakglkfhaaaaDoorSer
import Derived.Test.YtakjakglkfhaaaaDoorSe
namespace Go.Proofs.YtakjakglkfhaaaaDoor
open Go Go.RowKit
set_option linter.unusedVariables false

theorem pick_any (w : World) (c : Int) (n : Nat) (h1 : -9223372036854775808 ≤ c) (h2 : c ≤ 9223372036854775807) (hn : 0 < n) (hn2 : n ≤ 1000000) :
    Calls Tryd.prog 20 #[.int .i64 c, .int .i64 (n : Nat)] w fun e w' => w' = w ∧ ∃ p : Nat, e = .returned (.int .i64 (p : Nat)) ∧ p < n := by
  have hn0 : (n : Int) ≠ 0 := by omega
  have hn3 : (0 : Int) < (n : Int) := by omega
  have key : ∀ x : Int, 0 ≤ x → ∃ p : Nat, x.tmod (n : Int) = (p : Int) ∧ p < n := by
    intro x hx
    have e : x.tmod (n : Int) = x % (n : Int) := by rw [Int.tmod_eq_emod_of_nonneg hx]
    refine ⟨(x % (n : Int)).toNat, ?_, ?_⟩
    · rw [e]; have := Int.emod_nonneg x hn0; omega
    · have := Int.emod_lt_of_pos x hn3; have := Int.emod_nonneg x hn0; omega
  by_cases hc : c < 0
  · have e1 : IntKind.i64.wrap (c + 1) = c + 1 := IntWalk.i64_in _ (by omega)
    have e2 : IntKind.i64.wrap (-(c + 1)) = -(c + 1) := IntWalk.i64_in _ (by omega)
    obtain ⟨p, hp, hpn⟩ := key (-(c + 1)) (by omega)
    have e3 : IntKind.i64.wrap ((-(c + 1)).tmod (n : Int)) = (p : Int) := by rw [hp]; exact IntWalk.i64_in _ (by omega)
    have HP := Lib.hid hpn
    clear key hpn
    go_enter Tryd.func20, Tryd.ntmps20
    go_wp2
    go_ret
    exact ⟨rfl, p, rfl, HP.out⟩
  · obtain ⟨p, hp, hpn⟩ := key c (by omega)
    have e3 : IntKind.i64.wrap (c.tmod (n : Int)) = (p : Int) := by rw [hp]; exact IntWalk.i64_in _ (by omega)
    have HP := Lib.hid hpn
    clear key hpn
    go_enter Tryd.func20, Tryd.ntmps20
    go_wp2
    go_ret
    exact ⟨rfl, p, rfl, HP.out⟩
theorem fact_txt : (⟨(NT.txt 2 7 10).toArray⟩ : ByteArray) = ⟨#[45, 55, 32, 49, 48]⟩ := by kernel_rfl
set_option maxRecDepth 100000 in
set_option maxHeartbeats 16000000 in
theorem nb_walk (n : Int) (A : Option Addr) (m c : Nat) (l : List AK.Ed) (cut more W E F : Int) (s : ByteArray) (w : World) (hd : Td.Door w) (he : Errs w) (hs : EdsAt w A l ∧ l.length = m ∧ m ≤ c ∧ c ≤ maxLen)
    (hcut : -9223372036854775808 ≤ cut ∧ cut ≤ 9223372036854775807) (hmore : 0 ≤ more ∧ more < 256) (hsz : s.size ≤ 140737488355328) :
    Calls Tryd.prog 4 #[.int .i64 n, .slice A m c, .int .i64 cut, .int .u8 more, .agg #[.int .i64 W, .int .i64 E, .int .i64 F], .string s] w fun e w' => e = .returned (.bool true) ∧ Below w.heap.size w w' := by
  obtain ⟨hs, hlm, hmc, hcm⟩ := hs
  have HMC : Hid (c ≤ maxLen) := hcm
  unfold maxLen at hcm
  have H := Lib.hid hs
  have HL := Lib.hid hlm
  have HD := Lib.hid hd
  have HE := Lib.hid he
  have HCUT := Lib.hid hcut
  have HMORE := Lib.hid hmore
  have HSZ := Lib.hid hsz
  have hm63 : m ≤ 9223372036854775807 := by omega
  clear hs hlm hd he hcut hmore hsz hmc
  go_enter Tryd.func4, Tryd.ntmps4
  go_wp2_with fail
  refine (text_ok 2 7 10 ⟨by omega, by omega, by omega, by omega⟩ _).mono ?_
  rintro e w1 ⟨rfl, hx1⟩
  have HX1 : Hid (Ext w w1) := Ext.trans (Ext.alloc _ _) hx1
  have HBX : Hid (Blk w1 w.heap.size 25 #[.int .i64 W, .int .i64 E, .int .i64 F]) := (Blk.new w 25 #[.int .i64 W, .int .i64 E, .int .i64 F]).chg (Chg.of_below hx1) (by simp)
  rw [fact_txt]
  have c0 : w1.cell? ⟨w.heap.size, 0, none⟩ = some (.int .i64 W) := HBX.out.cell 0
  have c1 : w1.cell? ⟨w.heap.size, 1, none⟩ = some (.int .i64 E) := HBX.out.cell 1
  have c2 : w1.cell? ⟨w.heap.size, 2, none⟩ = some (.int .i64 F) := HBX.out.cell 2
  clear hx1
  by_cases hb : evBad W E F = true
  case' pos =>
    go_wp2_with fail
    refine (text_bad W E F hb w1).mono ?_
    intro e w2 hp
    obtain ⟨hx2, ⟨_, rfl⟩ | ⟨hb2, _⟩⟩ := hp
    rotate_left
    · rw [hb] at hb2; cases hb2
    have HX2 : Hid (Ext w w2) := Ext.trans HX1.out hx2
    clear hx2 hb HX1 HBX c0 c1 c2
    go_upto_region 9 with fail
  case' neg =>
    obtain ⟨nW, nE, nF, rfl, rfl, rfl, hv⟩ : ∃ a b d : Nat, W = a ∧ E = b ∧ F = d ∧ NT.Vd a b d := by
      have h2 : ¬ (W < 1 ∨ 3 < W ∨ E < 0 ∨ 60 ≤ E ∨ F < 0 ∨ 60 ≤ F) := by simpa [evBad] using hb
      exact ⟨W.toNat, E.toNat, F.toNat, by omega, by omega, by omega, by omega, by omega, by omega, by omega⟩
    have HV := Lib.hid hv
    clear hb hv
    go_wp2_with fail
    refine (text_ok nW nE nF HV.out w1).mono ?_
    rintro e w2 ⟨rfl, hx2⟩
    have HX2a : Hid (Ext w w2) := Ext.trans HX1.out hx2
    have HBX2 : Hid (Blk w2 w.heap.size 25 #[.int .i64 (nW : Int), .int .i64 (nE : Int), .int .i64 (nF : Int)]) := HBX.out.chg (Chg.of_below hx2) (by have := HBX.out.lt; omega)
    obtain ⟨t, ht⟩ : ∃ t : ByteArray, (⟨(NT.txt nW nE nF).toArray⟩ : ByteArray) = t := ⟨_, rfl⟩
    rw [ht]
    have HT : Hid (IsTxt t nW nE nF) := ⟨HV.out, by rw [← ht]⟩
    have HTS : Hid (t.size ≤ 140737488355328) := by
      have h3 := NT.txt_len HV.out
      have h4 : t.size = t.data.toList.length := by rw [Array.length_toList]; rfl
      unfold Hid; rw [h4, HT.out.2]; omega
    clear hx2 HX1 HBX c0 c1 c2 ht
    go_wp2_with fail
    refine (parse_any t HTS.out w2 (HE.out.ext HX2a.out)).mono ?_
    intro e w3 hp
    obtain ⟨hx3, ⟨pW, pE, pF, hq, rfl⟩ | ⟨hno, _⟩⟩ := hp
    rotate_left
    · exact absurd HT.out (hno _ _ _)
    obtain ⟨rfl, rfl, rfl⟩ : nW = pW ∧ nE = pE ∧ nF = pF := NT.txt_inj HT.out.1 hq.1 (HT.out.2.symm.trans hq.2)
    have HBX3 : Hid (Blk w3 w.heap.size 25 #[.int .i64 (nW : Int), .int .i64 (nE : Int), .int .i64 (nF : Int)]) := HBX2.out.chg (Chg.of_below hx3) (by have := HBX2.out.lt; omega)
    have HX3 : Hid (Ext w w3) := Ext.trans HX2a.out hx3
    have c0 : ∀ o, (w3.alloc o).cell? ⟨w.heap.size, 0, none⟩ = some (.int .i64 (nW : Int)) := fun o => (HBX3.out.alloc o).cell 0
    have c1 : ∀ o, (w3.alloc o).cell? ⟨w.heap.size, 1, none⟩ = some (.int .i64 (nE : Int)) := fun o => (HBX3.out.alloc o).cell 1
    have c2 : ∀ o, (w3.alloc o).cell? ⟨w.heap.size, 2, none⟩ = some (.int .i64 (nF : Int)) := fun o => (HBX3.out.alloc o).cell 2
    clear hx3 hq HX2a HBX2
    go_upto_region 9 with fail
    have HX2 : Hid (Ext w (w3.alloc (.cells #[.int .i64 (nW : Int), .int .i64 (nE : Int), .int .i64 (nF : Int)] 25))) := Ext.trans HX3.out (Ext.alloc _ _)
    generalize w3.alloc (.cells #[.int .i64 (nW : Int), .int .i64 (nE : Int), .int .i64 (nF : Int)] 25) = w2 at HX2 ⊢
    clear HX3 HBX3 c0 c1 c2 HTS
  all_goals
    go_wp2_with fail
    refine (parse_any s HSZ.out w2 (HE.out.ext HX2.out)).mono ?_
    intro e w4 hp
    obtain ⟨hx4, hp⟩ := hp
    have HX4 : Hid (Ext w w4) := Ext.trans HX2.out hx4
    clear hx4 HX2
    rcases hp with ⟨pW, pE, pF, hq, rfl⟩ | ⟨_, rfl⟩
    case' inl =>
      have HQ := Lib.hid hq
      have HX5 : Hid (Ext w (w4.alloc (.cells #[.int .i64 (pW : Int), .int .i64 (pE : Int), .int .i64 (pF : Int)] 25))) := Ext.trans HX4.out (Ext.alloc _ _)
      have DD := Lib.hid (Blk.new w4 25 #[.int .i64 (pW : Int), .int .i64 (pE : Int), .int .i64 (pF : Int)])
      have d0 : ∀ o, o = .cells #[.int .i64 (pW : Int), .int .i64 (pE : Int), .int .i64 (pF : Int)] 25 → (w4.alloc o).cell? ⟨w4.heap.size, 0, none⟩ = some (.int .i64 (pW : Int)) := fun o h => by subst h; exact DD.out.cell 0
      clear hq
      go_wp2_with fail
      refine (text_ok pW pE pF HQ.out.1 _).mono ?_
      rintro e w6 ⟨rfl, hx6⟩
      rw [str_eq HQ.out.2]
      have HX : Hid (Ext w w6) := Ext.trans HX5.out hx6
      clear hx6 HX5 HX4 DD d0
      go_upto_region 14 with fail
    case' inr =>
      go_upto_region 14 with fail
      have HX : Hid (Ext w (w4.alloc (.cells #[.int .i64 0, .int .i64 0, .int .i64 0] 25))) := Ext.trans HX4.out (Ext.alloc _ _)
      generalize w4.alloc (.cells #[.int .i64 0, .int .i64 0, .int .i64 0] 25) = w6 at HX ⊢
      clear HX4
    all_goals
      go_wp2_with fail
      refine (encode_any w6 n A m c l HL.out hm63 (H.out.ext HX.out)).mono ?_
      intro e w7 hp
      obtain ⟨hx7, hp⟩ := hp
      have HX7 : Hid (Ext w w7) := Ext.trans HX.out hx7
      clear hx7 HX
      rcases hp with ⟨hz, rfl⟩ | ⟨hz, A1, ca, rfl, hb1, hc1, hc2, _⟩
      · rw [errOf_ne hz]
        clear hz
        go_wp2
        go_ret
        exact ⟨rfl, HX7.out⟩
      · obtain ⟨⟨n1, n2, n3⟩, hok⟩ : (1 ≤ n ∧ n ≤ 60 ∧ l.length ≤ 200) ∧ ∀ x ∈ l, 0 ≤ x.1 ∧ x.1 < 256 ∧ 0 ≤ x.2 ∧ x.2 < 256 := by
          obtain ⟨h1, h2, h3, h4⟩ := fine_of hz
          refine ⟨⟨h1, h2, h3⟩, fun x hx => ?_⟩
          obtain ⟨i, hi⟩ := List.mem_iff_getElem?.1 hx
          have := h4 i x hi
          omega
        rw [HL.out] at n3 hc1 ⊢
        have hbyt : ∀ x ∈ NT.encL n l, 0 ≤ x ∧ x < 256 := by
          intro x hx
          simp only [NT.encL, NT.encP, List.mem_cons, List.mem_flatMap, List.not_mem_nil, or_false] at hx
          have hl := HL.out
          rcases hx with rfl | rfl | ⟨y, hy, rfl | rfl⟩
          · omega
          · omega
          · have := hok y hy; omega
          · have := hok y hy; omega
        have HBY := Lib.hid hbyt
        have HB1 := Lib.hid hb1
        have HOK := Lib.hid hok
        have HZ := Lib.hid hz
        obtain ⟨k, hk⟩ : ∃ k, k = 2 + 2 * m := ⟨_, rfl⟩
        rw [← hk] at hc1 ⊢
        have HK := Lib.hid hk
        have HCA := Lib.hid hc2
        have hk0 : 2 ≤ k ∧ k ≤ 402 := by omega
        have hk1 := hk0.1
        have hk2 := hk0.2
        have hkz : (0 : Int) < (k : Int) := by omega
        have hcam : (ca : Int) ≤ 9223372036854775807 := by unfold maxLen at hc2; omega
        obtain ⟨b, off, rfl⟩ : ∃ b off, A1 = some ⟨b, off, none⟩ := by
          obtain ⟨b, off, h, _⟩ := hb1.at_ (i := 0) (v := n) rfl
          exact ⟨b, off, h⟩
        have HBT : Hid (b < w7.heap.size) := by
          obtain ⟨b', off', h, hlt, _⟩ := hb1.at_ (i := 0) (v := n) rfl
          injection h with h; injection h with h1 h2; subst h1; exact hlt
        clear hb1 hok hz hc2 hk hk0 hbyt
        go_wp2_with fail
        refine (decode_enc w7 _ k ca m n l HL.out (by omega) HK.out HB1.out ⟨by omega, by omega⟩ HOK.out).mono ?_
        intro e w8 hp
        obtain ⟨hx8, ⟨hz, _⟩ | ⟨_, A8, c8, rfl, he8⟩⟩ := hp
        · exact absurd HZ.out hz
        have HX8 : Hid (Ext w w8) := Ext.trans HX7.out hx8
        have HX78 : Hid (Ext w7 w8) := hx8
        have HE8 := Lib.hid he8
        rw [HL.out]
        clear hx8 he8 HX7
        go_wp2_with fail
        refine (sedges_any w8 A8 A m m c8 c l l HE8.out (H.out.ext HX8.out) HL.out HL.out (by omega) (by omega) true (by simp)).mono ?_
        rintro e w9 ⟨rfl, hx9⟩
        have HX9 : Hid (Ext w w9) := Ext.trans HX8.out hx9
        have HX79 : Hid (Ext w7 w9) := Ext.trans HX78.out hx9
        clear hx9 HX8 HX78 HE8
        go_wp2_with fail
        refine (pick_any w9 cut k HCUT.out.1 HCUT.out.2 (by omega) (by omega)).mono ?_
        rintro e w10 ⟨rfl, p, rfl, hpk⟩
        have p0 : (0 : Int) ≤ (p : Int) := by omega
        have p1 : (p : Int) ≤ (ca : Int) := by omega
        have p2 : (p : Int) < (k : Int) := by omega
        have HB10 : Hid (BytesAt w10 (some ⟨b, off, none⟩) (NT.encL n l)) := HB1.out.ext HX79.out
        have hshort : Hid (p < 2 ∨ ∃ v, ((NT.encL n l).take p)[1]? = some v ∧ (p : Int) ≠ 2 + 2 * v) := by
          by_cases hp2 : p < 2
          · exact .inl hp2
          · right
            have hl := HL.out
            have hk := HK.out
            refine ⟨(m : Int), ?_, by omega⟩
            rw [List.getElem?_take, if_pos (by omega), ← hl]; rfl
        have hplen : Hid (((NT.encL n l).take p).length = p) := by
          unfold Hid
          have hl := HL.out
          have hk := HK.out
          rw [List.length_take, NT.encL_len]; omega
        go_wp2_with fail
        refine (decode_bad w10 _ p ca _ hplen.out (by unfold maxLen; omega) (HB10.out.take p) (fun x hx => HBY.out x (List.mem_of_mem_take hx)) hshort.out).mono ?_
        rintro e w11 ⟨rfl, hx11⟩
        have HX11 : Hid (Ext w w11) := Ext.trans HX9.out hx11
        have HX711 : Hid (Ext w7 w11) := Ext.trans HX79.out hx11
        clear hx11 HX9 HX79 HB10 hshort hplen p0 p1 p2 hpk
        go_wp2_with fail
        refine (same_err w11 5 5 (HD.out.new HX11.out) true rfl).mono ?_
        rintro e w12 ⟨rfl, hx12⟩
        have HX12 : Hid (Ext w w12) := Ext.trans HX11.out hx12
        have HB12 : Hid (BytesAt w12 (some ⟨b, off, none⟩) (NT.encL n l)) := HB1.out.ext (Ext.trans HX711.out hx12)
        have HLN : Hid (((NT.encL n l).map (Value.int .u8)).length = k * 1) := by
          unfold Hid
          have hl := HL.out
          have hk := HK.out
          rw [List.length_map, NT.encL_len]; omega
        clear hx12 HX11 HX711
        go_upto_region 25 with (first
          | (at_builtin; refine wpList_append_rows _ rfl (.tmp 120) (.tmp 121) 23 rfl 5 _ 1 1 Tryd.underlying23 infoU8 rfl (by decide) (.slice none 0 0) 0 [] rfl (World.ownsRow_nil _ _ _ _) (some ⟨b, off, none⟩) k ca ((NT.encL n l).map (Value.int .u8)) rfl HLN.out (fun h => by cases h) (HB12.out.news) (bytes_one _) ⟨by omega, by omega⟩ ?_; intro A13 c13 w13 ho13 hc13 hg13; simp only [Nat.zero_add, List.nil_append] at ho13 hg13; have HO13 := Lib.hid ho13; have HC13 := Lib.hid hc13; have HG13 := Lib.hid hg13; clear ho13 hc13 hg13))
        have HX13 : Hid (Ext w w13) := Below.trans (B := w.heap.size) HX12.out (HC13.out.below (Below.size HX12.out) (fun j _ hj => by simp [Value.ownBlock] at hj))
        have HOW13 : Hid (∀ j, (Value.slice A13 k c13).ownBlock = some j → w.heap.size ≤ j) := by
          intro j hj
          rcases HG13.out j hj with h | h
          · simp [Value.ownBlock] at h
          · rw [h]; exact HX12.out.size
        clear HC13 HG13 HB12 HLN HX12
        go_upto_region 26 with (first
          | (at_builtin; refine wpList_pushS _ rfl (.tmp 123) (.tmp 125) 23 rfl 5 _ 1 1 Tryd.underlying23 infoU8 rfl (by decide) (.slice A13 k c13) k _ rfl (own_chg HO13.out ((Chg.refl (fun _ => False) _).alloc _) (fun _ _ h => h)) ⟨by omega, by omega⟩ [.int .u8 more] w13.heap.size rfl rfl (news_cells rfl _ _) (by simp [Value.oneCell']) ?_; intro g14 c14 w14 ho14 hc14 hg14 hcap14; have HO14 := Lib.hid ho14; have HC14 := Lib.hid hc14; clear ho14 hc14 hg14 hcap14))
        have HX14 : Hid (Ext w w14) := Below.trans (B := w.heap.size) (Ext.trans HX13.out (Ext.alloc _ _)) (HC14.out.below (Below.size (Ext.trans HX13.out (Ext.alloc _ _))) (fun j _ hj => HOW13.out j hj))
        have HB14 : Hid (BytesAt w14 (some ⟨g14, 0, none⟩) (NT.encL n l ++ [more])) := by
          refine bytes_of_own (e := 5) (n := k + 1) (c := c14) ?_
          rw [List.map_append]; exact HO14.out
        have HL14 : Hid ((NT.encL n l ++ [more]).length = k + 1) := by
          unfold Hid
          have hl := HL.out
          have hk := HK.out
          rw [List.length_append, NT.encL_len]; simp; omega
        have HS14 : Hid (k + 1 < 2 ∨ ∃ v, (NT.encL n l ++ [more])[1]? = some v ∧ ((k + 1 : Nat) : Int) ≠ 2 + 2 * v) := by
          have hl := HL.out
          have hk := HK.out
          refine .inr ⟨(m : Int), ?_, by omega⟩
          rw [← hl]; rfl
        have HBY14 : Hid (∀ x ∈ NT.encL n l ++ [more], 0 ≤ x ∧ x < 256) := by
          intro x hx
          rcases List.mem_append.1 hx with hx | hx
          · exact HBY.out x hx
          · simp at hx; subst hx; exact HMORE.out
        clear HC14 HO14 HO13 HX13 HOW13
        go_wp2_with fail
        refine (decode_bad w14 _ (k + 1) c14 _ HL14.out (by unfold maxLen; omega) HB14.out HBY14.out HS14.out).mono ?_
        rintro e w15 ⟨rfl, hx15⟩
        have HX15 : Hid (Ext w w15) := Ext.trans HX14.out hx15
        clear hx15 HX14 HB14 HL14 HS14 HBY14
        go_wp2_with fail
        refine (same_err w15 5 5 (HD.out.new HX15.out) true rfl).mono ?_
        rintro e w16 ⟨rfl, hx16⟩
        have HX16 : Hid (Ext w w16) := Ext.trans HX15.out hx16
        clear hx16 HX15
        go_wp2
        go_ret
        exact ⟨rfl, HX16.out⟩
end Go.Proofs.YtakjakglkfhaaaaDoor
