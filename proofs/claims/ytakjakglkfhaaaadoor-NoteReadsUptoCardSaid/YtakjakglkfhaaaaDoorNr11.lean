/-
  The walk of NoteReads. Conditions: the edges lie in memory as 'EdsAt' says, the bytes as 'BytesAt'; the package variables' cells; the text has at most 1048576 letters.
-/
import Derived.Test.YtakjakglkfhaaaaDoorNr10
import Derived.Test.YtakjakglkfhaaaaDoorNr9
import Derived.Test.YtakjakglkfhaaaaDoorNr8
import Derived.Test.YtakjakglkfhaaaaDoorNr7
import Derived.Test.YtakjakglkfhaaaaDoorSer
import Derived.Test.YtakjakglkfhaaaaDoorSe
import Derived.Laws.IdiomStrings
import Derived.Laws.BytesString
namespace Go.Proofs.YtakjakglkfhaaaaDoor
open Go Go.RowKit
set_option linter.unusedVariables false
def strOf (xs : List Int) : ByteArray := ⟨(xs.map fun n => UInt8.ofNat n.toNat).toArray⟩
theorem conv_bytes {w : World} {A : Option Addr} {m c : Nat} {xs : List Int} (h : BytesAt w A xs) (hb : ∀ x ∈ xs, 0 ≤ x ∧ x < 256) (hn : 0 < m) (hm : xs.length = m) : (convert 23 9 (.slice A m c)).run Tryd.prog w = .ok (.string (strOf xs)) w := by
  obtain ⟨x0, h0⟩ : ∃ x, xs[0]? = some x := ⟨_, List.getElem?_eq_getElem (by omega)⟩
  obtain ⟨b, off, rfl, _, _⟩ := h.at_ h0
  have hlen : (xs.map fun n => UInt8.ofNat n.toNat).length = m := by simp [hm]
  have := run_convert_bytes_back (P := Tryd.prog) w 23 9 5 ⟨b, off, none⟩ c (xs.map fun n => UInt8.ofNat n.toNat) Tryd.underlying23 Tryd.underlying5 Tryd.underlying9 (fun j hj => by
    have hj2 : j < xs.length := by simpa using hj
    have hx := List.getElem?_eq_getElem hj2
    obtain ⟨b', off', e, _, hc⟩ := h.at_ hx
    injection e with e; injection e with e1 e2; subst e1; subst e2
    have hr := hb _ (List.getElem_mem hj2)
    rw [Addr.add_mid, hc, List.getElem_map]
    congr 2
    rw [UInt8.toNat_ofNat']
    omega)
  rw [hlen] at this
  exact this
theorem conv_nil {w : World} : (convert 23 9 (.slice none 0 0)).run Tryd.prog w = .ok (.string ⟨#[]⟩) w := by
  rw [run_convert_bytes_string w 23 9 5 none 0 0 Tryd.underlying23 Tryd.underlying5 Tryd.underlying9]; rfl
set_option maxRecDepth 100000 in
set_option maxHeartbeats 16000000 in
theorem nr_walk (n : Int) (A : Option Addr) (m c : Nat) (l : List AK.Ed) (BA : Option Addr) (bm bc : Nat) (xs : List Int) (W E F : Int) (s : ByteArray) (w : World) (hd : Td.Door w) (he : Errs w) (hs : EdsAt w A l ∧ l.length = m ∧ m ≤ c ∧ c ≤ maxLen)
    (hbs : BytesAt w BA xs ∧ xs.length = bm ∧ bm ≤ maxLen ∧ ∀ x ∈ xs, 0 ≤ x ∧ x < 256) (hsz : s.size ≤ 1048576) :
    Calls Tryd.prog 3 #[.int .i64 n, .slice A m c, .slice BA bm bc, .agg #[.int .i64 W, .int .i64 E, .int .i64 F], .string s] w fun e w' => e = .returned (.bool true) ∧ Below w.heap.size w w' := by
  obtain ⟨hs, hlm, hmc, hcm⟩ := hs
  unfold maxLen at hcm
  have H := Lib.hid hs
  have HL := Lib.hid hlm
  have HD := Lib.hid hd
  have HE := Lib.hid he
  have HBS := Lib.hid hbs
  have HSZ := Lib.hid hsz
  have hm63 : m ≤ 9223372036854775807 := by omega
  clear hs hlm hd he hbs hsz hmc
  go_enter Tryd.func3, Tryd.ntmps3
  go_wp2_with fail
  refine (edgesFault_any _ n A m c l HL.out hm63 (H.out.ext (Ext.alloc _ _))).mono ?_
  rintro e w1 ⟨rfl, hx1⟩
  have HX1 : Hid (Ext w w1) := Ext.trans (Ext.alloc _ _) hx1
  have HBX : Hid (Blk w1 w.heap.size 25 #[.int .i64 W, .int .i64 E, .int .i64 F]) := (Blk.new w 25 #[.int .i64 W, .int .i64 E, .int .i64 F]).chg (Chg.of_below hx1) (by simp)
  clear hx1
  by_cases hz : (edgF n l).2 = 0
  case' pos =>
    have HZ := Lib.hid hz
    rw [hz]
    clear hz
    go_wp2_with fail
    refine (bytesOf_any w1 n A m c l HL.out (H.out.ext HX1.out) HZ.out).mono ?_
    rintro e w2 ⟨hx2, A2, c2, rfl, hb2, hc2, hc2m⟩
    have hq := fine_of HZ.out
    have hbyt : ∀ x ∈ NT.encL n l, 0 ≤ x ∧ x < 256 := by
      intro x hx
      simp only [NT.encL, NT.encP, List.mem_cons, List.mem_flatMap, List.not_mem_nil, or_false] at hx
      have h1 := hq.1; have h2 := hq.2.1; have h3 := hq.2.2.1
      rcases hx with rfl | rfl | ⟨y, hy, rfl | rfl⟩
      · omega
      · omega
      · obtain ⟨i, hi⟩ := List.mem_iff_getElem?.1 hy
        have := hq.2.2.2 i y hi; omega
      · obtain ⟨i, hi⟩ := List.mem_iff_getElem?.1 hy
        have := hq.2.2.2 i y hi; omega
    have HBY := Lib.hid hbyt
    obtain ⟨k, hk⟩ : ∃ k, k = 2 + 2 * l.length := ⟨_, rfl⟩
    have HKL : Hid ((NT.encL n l).length = k) := by rw [Hid, NT.encL_len, hk]
    have hk0 : 0 < k := by omega
    rw [← hk]
    obtain ⟨t, ht⟩ : ∃ t, strOf (NT.encL n l) = t := ⟨_, rfl⟩
    have cv2 := conv_bytes (c := c2) hb2 HBY.out hk0 HKL.out
    rw [ht] at cv2
    have HX2 : Hid (Ext w w2) := Ext.trans HX1.out hx2
    have HBX2 : Hid (Blk w2 w.heap.size 25 #[.int .i64 W, .int .i64 E, .int .i64 F]) := HBX.out.chg (Chg.of_below hx2) (by have := HBX.out.lt; omega)
    have HT := Lib.hid ht
    have HK := Lib.hid hk
    clear hx2 hb2 hc2 hc2m hq hbyt hk ht HX1 HBX
    go_wp2_with fail
    refine (encode_any w2 n A m c l HL.out hm63 (H.out.ext HX2.out)).mono ?_
    intro e w3 hp
    obtain ⟨hx3, ⟨hz, _⟩ | ⟨_, A3, c3, rfl, hb3, _, _, _⟩⟩ := hp
    · exact absurd HZ.out hz
    have HX3 : Hid (Ext w w3) := Ext.trans HX2.out hx3
    have HBX3 : Hid (Blk w3 w.heap.size 25 #[.int .i64 W, .int .i64 E, .int .i64 F]) := HBX2.out.chg (Chg.of_below hx3) (by have := HBX2.out.lt; omega)
    rw [← HK.out]
    clear hx3 HX2 HBX2 cv2
    go_wp2_with fail
    refine (same_err w3 0 0 (HD.out.new HX3.out) true rfl).mono ?_
    rintro e w4 ⟨rfl, hx4⟩
    have cv4 := conv_bytes (c := c3) (hb3.ext hx4) HBY.out hk0 HKL.out
    rw [HT.out] at cv4
    have HX4 : Hid (Ext w w4) := Ext.trans HX3.out hx4
    have HBX4 : Hid (Blk w4 w.heap.size 25 #[.int .i64 W, .int .i64 E, .int .i64 F]) := HBX3.out.chg (Chg.of_below hx4) (by have := HBX3.out.lt; omega)
    clear hx4 hb3 HX3 HBX3
    go_upto_region 9 with fail
    clear cv4 HZ HBY HKL HT HK
  case' neg =>
    have HZ := Lib.hid hz
    obtain ⟨x, hx⟩ : ∃ x, (edgF n l).2 = x := ⟨_, rfl⟩
    rw [hx] at hz ⊢
    have HXX := Lib.hid hx
    clear hx
    go_wp2_with fail
    refine (encode_any w1 n A m c l HL.out hm63 (H.out.ext HX1.out)).mono ?_
    intro e w3 hp
    obtain ⟨hx3, ⟨_, rfl⟩ | ⟨h0, _⟩⟩ := hp
    rotate_left
    · exact absurd h0 HZ.out
    rw [HXX.out, errOf_ne hz]
    have HX3 : Hid (Ext w w3) := Ext.trans HX1.out hx3
    have HBX3 : Hid (Blk w3 w.heap.size 25 #[.int .i64 W, .int .i64 E, .int .i64 F]) := HBX.out.chg (Chg.of_below hx3) (by have := HBX.out.lt; omega)
    have HER : Hid (errOf x = .iface 26 (.int .i64 x)) := errOf_ne hz
    clear hx3 HX1 HBX hz
    go_wp2_with fail
    rw [← HER.out]
    refine (same_err w3 x x (HD.out.new HX3.out) true (by simp)).mono ?_
    rintro e w4 ⟨rfl, hx4⟩
    have cv4 := conv_nil (w := w4)
    have HX4 : Hid (Ext w w4) := Ext.trans HX3.out hx4
    have HBX4 : Hid (Blk w4 w.heap.size 25 #[.int .i64 W, .int .i64 E, .int .i64 F]) := HBX3.out.chg (Chg.of_below hx4) (by have := HBX3.out.lt; omega)
    clear hx4 HX3 HBX3
    go_upto_region 9 with fail
    clear cv4 HZ HXX HER
  all_goals
    obtain ⟨hbs1, hbs2, hbs3, hbs4⟩ := HBS.out
    have HB4 : Hid (BytesAt w4 BA xs) := hbs1.ext HX4.out
    have HBL : Hid (xs.length = bm) := hbs2
    have HBM : Hid (bm ≤ maxLen) := hbs3
    have HBR : Hid (∀ x ∈ xs, 0 ≤ x ∧ x < 256) := hbs4
    have hsh := NT.bytes_shape xs hbs4
    clear HBS hbs1 hbs2 hbs3 hbs4
    rcases hsh with hsh | ⟨a, l2, hxe, ha, hl2, hpr⟩
    case' inl =>
      rw [HBL.out] at hsh
      have HSH := Lib.hid hsh
      clear hsh
      go_wp2_with fail
      refine (edgesOf_bad w4 BA bm bc xs HBL.out HBM.out HB4.out HBR.out HSH.out).mono ?_
      rintro e w5 ⟨rfl, hx5⟩
      have HX5 : Hid (Ext w w5) := Ext.trans HX4.out hx5
      have HBX5 : Hid (Blk w5 w.heap.size 25 #[.int .i64 W, .int .i64 E, .int .i64 F]) := HBX4.out.chg (Chg.of_below hx5) (by have := HBX4.out.lt; omega)
      have HB5 : Hid (BytesAt w5 BA xs) := HB4.out.ext hx5
      clear hx5 HX4 HBX4 HB4
      go_wp2_with fail
      refine (decode_bad w5 BA bm bc xs HBL.out HBM.out HB5.out HBR.out HSH.out).mono ?_
      rintro e w6 ⟨rfl, hx6⟩
      have HX6 : Hid (Ext w w6) := Ext.trans HX5.out hx6
      have HBX6 : Hid (Blk w6 w.heap.size 25 #[.int .i64 W, .int .i64 E, .int .i64 F]) := HBX5.out.chg (Chg.of_below hx6) (by have := HBX5.out.lt; omega)
      clear hx6 HX5 HBX5 HB5
      go_wp2_with fail
      refine (same_err w6 5 5 (HD.out.new HX6.out) true rfl).mono ?_
      rintro e w7 ⟨rfl, hx7⟩
      have HX7 : Hid (Ext w w7) := Ext.trans HX6.out hx7
      have HBX7 : Hid (Blk w7 w.heap.size 25 #[.int .i64 W, .int .i64 E, .int .i64 F]) := HBX6.out.chg (Chg.of_below hx7) (by have := HBX6.out.lt; omega)
      clear hx7 HX6 HBX6
      go_wp2_with fail
      refine (sedges_any w7 none none 0 0 0 0 [] [] (.inl rfl) (.inl rfl) rfl rfl (by omega) (by omega) true rfl).mono ?_
      rintro e w8 ⟨rfl, hx8⟩
      have HX8 : Hid (Ext w w8) := Ext.trans HX7.out hx8
      have HBX8 : Hid (Blk w8 w.heap.size 25 #[.int .i64 W, .int .i64 E, .int .i64 F]) := HBX7.out.chg (Chg.of_below hx8) (by have := HBX7.out.lt; omega)
      clear hx8 HX7 HBX7 HSH HBR HBM HBL
      go_upto_region 15 with fail
    case' inr =>
      subst hxe
      have HA := Lib.hid ha
      have HL2 := Lib.hid hl2
      have HPR := Lib.hid hpr
      obtain ⟨k2, hk2⟩ : ∃ k, l2.length = k := ⟨_, rfl⟩
      have HK2 := Lib.hid hk2
      have hbm : bm = 2 + 2 * k2 := by have := HBL.out; rw [NT.encL_len] at this; omega
      have HBMM := Lib.hid hbm
      have hk255 : k2 ≤ 255 := by omega
      clear ha hl2 hpr hk2 hbm
      go_wp2_with fail
      refine (edgesOf_enc w4 BA bm bc k2 a l2 HK2.out hk255 HBMM.out HB4.out HA.out HPR.out).mono ?_
      intro e w5 hp
      obtain ⟨hx5, hp⟩ := hp
      have HX5 : Hid (Ext w w5) := Ext.trans HX4.out hx5
      have HBX5 : Hid (Blk w5 w.heap.size 25 #[.int .i64 W, .int .i64 E, .int .i64 F]) := HBX4.out.chg (Chg.of_below hx5) (by have := HBX4.out.lt; omega)
      have HB5 : Hid (BytesAt w5 BA (NT.encL a l2)) := HB4.out.ext hx5
      clear hx5 HX4 HBX4 HB4
      rcases hp with ⟨hz2, rfl⟩ | ⟨hz2, A5, c5, rfl, he5⟩
      case' inl =>
        have HZ2 := Lib.hid hz2
        clear hz2
        go_wp2_with fail
        refine (decode_enc w5 BA bm bc k2 a l2 HK2.out hk255 HBMM.out HB5.out HA.out HPR.out).mono ?_
        intro e w6 hp
        obtain ⟨hx6, ⟨_, rfl⟩ | ⟨h0, _⟩⟩ := hp
        rotate_left
        · exact absurd h0 HZ2.out
        have HX6 : Hid (Ext w w6) := Ext.trans HX5.out hx6
        have HBX6 : Hid (Blk w6 w.heap.size 25 #[.int .i64 W, .int .i64 E, .int .i64 F]) := HBX5.out.chg (Chg.of_below hx6) (by have := HBX5.out.lt; omega)
        clear hx6 HX5 HBX5 HB5
        go_wp2_with fail
        refine (same_err w6 5 5 (HD.out.new HX6.out) true rfl).mono ?_
        rintro e w7 ⟨rfl, hx7⟩
        have HX7 : Hid (Ext w w7) := Ext.trans HX6.out hx7
        have HBX7 : Hid (Blk w7 w.heap.size 25 #[.int .i64 W, .int .i64 E, .int .i64 F]) := HBX6.out.chg (Chg.of_below hx7) (by have := HBX6.out.lt; omega)
        clear hx7 HX6 HBX6
        go_wp2_with fail
        refine (sedges_any w7 none none 0 0 0 0 [] [] (.inl rfl) (.inl rfl) rfl rfl (by omega) (by omega) true rfl).mono ?_
      case' inr =>
        have HZ2 := Lib.hid hz2
        have HE5 := Lib.hid he5
        rw [HK2.out]
        clear hz2 he5
        go_wp2_with fail
        refine (decode_enc w5 BA bm bc k2 a l2 HK2.out hk255 HBMM.out HB5.out HA.out HPR.out).mono ?_
        intro e w6 hp
        obtain ⟨hx6, ⟨h0, _⟩ | ⟨_, A6, c6, rfl, he6⟩⟩ := hp
        · exact absurd HZ2.out h0
        rw [HK2.out]
        have HX6 : Hid (Ext w w6) := Ext.trans HX5.out hx6
        have HBX6 : Hid (Blk w6 w.heap.size 25 #[.int .i64 W, .int .i64 E, .int .i64 F]) := HBX5.out.chg (Chg.of_below hx6) (by have := HBX5.out.lt; omega)
        have HE56 : Hid (EdsAt w6 A5 l2) := HE5.out.ext hx6
        have HE6 := Lib.hid he6
        clear hx6 HX5 HBX5 HB5 HE5 he6
        go_wp2_with fail
        refine (same_err w6 0 0 (HD.out.new HX6.out) true rfl).mono ?_
        rintro e w7 ⟨rfl, hx7⟩
        have HX7 : Hid (Ext w w7) := Ext.trans HX6.out hx7
        have HBX7 : Hid (Blk w7 w.heap.size 25 #[.int .i64 W, .int .i64 E, .int .i64 F]) := HBX6.out.chg (Chg.of_below hx7) (by have := HBX6.out.lt; omega)
        have HE57 : Hid (EdsAt w7 A5 l2) := HE56.out.ext hx7
        have HE67 : Hid (EdsAt w7 A6 l2) := HE6.out.ext hx7
        clear hx7 HX6 HBX6 HE56 HE6
        go_wp2_with fail
        refine (sedges_any w7 A6 A5 k2 k2 c6 c5 l2 l2 HE67.out HE57.out HK2.out HK2.out (by omega) (by omega) true (by simp)).mono ?_
        clear HE57 HE67
      all_goals
        rintro e w8 ⟨rfl, hx8⟩
        have HX8 : Hid (Ext w w8) := Ext.trans HX7.out hx8
        have HBX8 : Hid (Blk w8 w.heap.size 25 #[.int .i64 W, .int .i64 E, .int .i64 F]) := HBX7.out.chg (Chg.of_below hx8) (by have := HBX7.out.lt; omega)
        clear hx8 HX7 HBX7 HBR HBM HBL HA HL2 HPR HK2 HBMM HZ2
        go_upto_region 15 with fail
    all_goals
      have b0 : w8.cell? ⟨w.heap.size, 0, none⟩ = some (.int .i64 W) := HBX8.out.cell 0
      have b1 : w8.cell? ⟨w.heap.size, 1, none⟩ = some (.int .i64 E) := HBX8.out.cell 1
      have b2 : w8.cell? ⟨w.heap.size, 2, none⟩ = some (.int .i64 F) := HBX8.out.cell 2
      go_wp2_with fail
      refine (efault_any W E F w8).mono ?_
      rintro e w9 ⟨rfl, hx9⟩
      have HX9 : Hid (Ext w w9) := Ext.trans HX8.out hx9
      have HBX9 : Hid (Blk w9 w.heap.size 25 #[.int .i64 W, .int .i64 E, .int .i64 F]) := HBX8.out.chg (Chg.of_below hx9) (by have := HBX8.out.lt; omega)
      have d0 : w9.cell? ⟨w.heap.size, 0, none⟩ = some (.int .i64 W) := HBX9.out.cell 0
      have d1 : w9.cell? ⟨w.heap.size, 1, none⟩ = some (.int .i64 E) := HBX9.out.cell 1
      have d2 : w9.cell? ⟨w.heap.size, 2, none⟩ = some (.int .i64 F) := HBX9.out.cell 2
      clear hx9 HX8 HBX8 b0 b1 b2
      by_cases hb : evBad W E F = true
      case' pos =>
        rw [if_pos hb]
        go_wp2_with fail
        refine (text_bad W E F hb w9).mono ?_
        intro e w11 hp
        obtain ⟨hx11, ⟨_, rfl⟩ | ⟨hb2, _⟩⟩ := hp
        rotate_left
        · rw [hb] at hb2; cases hb2
        have HX11 : Hid (Ext w w11) := Ext.trans HX9.out hx11
        clear hx11 hb HX9 HBX9 d0 d1 d2
        go_wp2_with fail
        rw [← errOf_ne (x := 1) (by decide)]
        refine (same_err w11 1 1 (HD.out.new HX11.out) true rfl).mono ?_
        rintro e w12 ⟨rfl, hx12⟩
        have HX12 : Hid (Ext w w12) := Ext.trans HX11.out hx12
        clear hx12 HX11
        go_upto_region 23 with fail
      case' neg =>
        obtain ⟨nW, nE, nF, rfl, rfl, rfl, hv⟩ : ∃ a b d : Nat, W = a ∧ E = b ∧ F = d ∧ NT.Vd a b d := by
          have h2 : ¬ (W < 1 ∨ 3 < W ∨ E < 0 ∨ 60 ≤ E ∨ F < 0 ∨ 60 ≤ F) := by simpa [evBad] using hb
          exact ⟨W.toNat, E.toNat, F.toNat, by omega, by omega, by omega, by omega, by omega, by omega, by omega⟩
        have HV := Lib.hid hv
        rw [if_neg hb]
        clear hb hv
        go_wp2_with fail
        refine (etext_ok nW nE nF HV.out w9).mono ?_
        rintro e w10 ⟨rfl, hx10⟩
        obtain ⟨t2, ht2⟩ : ∃ t : ByteArray, (⟨(NT.txt nW nE nF).toArray⟩ : ByteArray) = t := ⟨_, rfl⟩
        rw [ht2]
        have HT2 := Lib.hid ht2
        have HX10 : Hid (Ext w w10) := Ext.trans HX9.out hx10
        have HBX10 : Hid (Blk w10 w.heap.size 25 #[.int .i64 (nW : Int), .int .i64 (nE : Int), .int .i64 (nF : Int)]) := HBX9.out.chg (Chg.of_below hx10) (by have := HBX9.out.lt; omega)
        have d0 : w10.cell? ⟨w.heap.size, 0, none⟩ = some (.int .i64 (nW : Int)) := HBX10.out.cell 0
        have d1 : w10.cell? ⟨w.heap.size, 1, none⟩ = some (.int .i64 (nE : Int)) := HBX10.out.cell 1
        have d2 : w10.cell? ⟨w.heap.size, 2, none⟩ = some (.int .i64 (nF : Int)) := HBX10.out.cell 2
        clear hx10 ht2 HX9 HBX9
        go_wp2_with fail
        refine (text_ok nW nE nF HV.out w10).mono ?_
        rintro e w11 ⟨rfl, hx11⟩
        rw [HT2.out]
        have HX11 : Hid (Ext w w11) := Ext.trans HX10.out hx11
        clear hx11 HX10 HBX10 d0 d1 d2
        go_wp2_with fail
        refine (same_err w11 0 0 (HD.out.new HX11.out) true rfl).mono ?_
        rintro e w12 ⟨rfl, hx12⟩
        have HX12 : Hid (Ext w w12) := Ext.trans HX11.out hx12
        clear hx12 HX11
        go_upto_region 23 with fail
      all_goals
        go_wp2_with fail
        refine (eventOf_any s HSZ.out w12).mono ?_
        intro e w13 hp
        obtain ⟨hx13, hp⟩ := hp
        have HX13 : Hid (Ext w w13) := Ext.trans HX12.out hx13
        have hs47 : s.size ≤ 140737488355328 := Nat.le_trans HSZ.out (by decide)
        have HS47 := Lib.hid hs47
        clear hx13 HX12 hs47
        rcases hp with ⟨pW, pE, pF, hq, rfl⟩ | ⟨hno, rfl⟩
        · have HQ := Lib.hid hq
          clear hq
          have HX14 : Hid (Ext w (w13.alloc (.cells #[.int .i64 (pW : Int), .int .i64 (pE : Int), .int .i64 (pF : Int)] 25))) := Ext.trans HX13.out (Ext.alloc _ _)
          have DD := Lib.hid (Blk.new w13 25 #[.int .i64 (pW : Int), .int .i64 (pE : Int), .int .i64 (pF : Int)])
          go_wp2_with fail
          generalize w13.alloc (.cells #[.int .i64 (pW : Int), .int .i64 (pE : Int), .int .i64 (pF : Int)] 25) = w14 at HX14 DD ⊢
          refine (parse_any s HS47.out w14 (HE.out.ext HX14.out)).mono ?_
          intro e w15 hp
          obtain ⟨hx15, ⟨qW, qE, qF, hq2, rfl⟩ | ⟨hno, _⟩⟩ := hp
          rotate_left
          · exact absurd HQ.out (hno _ _ _)
          obtain ⟨rfl, rfl, rfl⟩ : pW = qW ∧ pE = qE ∧ pF = qF := NT.txt_inj HQ.out.1 hq2.1 (HQ.out.2.symm.trans hq2.2)
          have HX15 : Hid (Ext w w15) := Ext.trans HX14.out hx15
          have D15 : Hid (Blk w15 w13.heap.size 25 #[.int .i64 (pW : Int), .int .i64 (pE : Int), .int .i64 (pF : Int)]) := DD.out.chg (Chg.of_below hx15) (by have := DD.out.lt; omega)
          clear hx15 hq2 HX13 HX14 DD
          go_upto_region 25 with fail
          have HX16 : Hid (Ext w (w15.alloc (.cells #[.int .i64 (pW : Int), .int .i64 (pE : Int), .int .i64 (pF : Int)] 25))) := Ext.trans HX15.out (Ext.alloc _ _)
          have DE := Lib.hid (Blk.new w15 25 #[.int .i64 (pW : Int), .int .i64 (pE : Int), .int .i64 (pF : Int)])
          have DF := Lib.hid (D15.out.alloc (.cells #[.int .i64 (pW : Int), .int .i64 (pE : Int), .int .i64 (pF : Int)] 25))
          generalize w15.alloc (.cells #[.int .i64 (pW : Int), .int .i64 (pE : Int), .int .i64 (pF : Int)] 25) = w16 at HX16 DE DF ⊢
          go_wp2_with fail
          refine (same_err w16 0 0 (HD.out.new HX16.out) true rfl).mono ?_
          rintro e w17 ⟨rfl, hx17⟩
          have HX17 : Hid (Ext w w17) := Ext.trans HX16.out hx17
          have E17 : Hid (Blk w17 w15.heap.size 25 #[.int .i64 (pW : Int), .int .i64 (pE : Int), .int .i64 (pF : Int)]) := DE.out.chg (Chg.of_below hx17) (by have := DE.out.lt; omega)
          have F17 : Hid (Blk w17 w13.heap.size 25 #[.int .i64 (pW : Int), .int .i64 (pE : Int), .int .i64 (pF : Int)]) := DF.out.chg (Chg.of_below hx17) (by have := DF.out.lt; omega)
          have g0 : w17.cell? ⟨w15.heap.size, 0, none⟩ = some (.int .i64 (pW : Int)) := E17.out.cell 0
          have g1 : w17.cell? ⟨w15.heap.size, 1, none⟩ = some (.int .i64 (pE : Int)) := E17.out.cell 1
          have g2 : w17.cell? ⟨w15.heap.size, 2, none⟩ = some (.int .i64 (pF : Int)) := E17.out.cell 2
          have g3 : w17.cell? ⟨w13.heap.size, 0, none⟩ = some (.int .i64 (pW : Int)) := F17.out.cell 0
          have g4 : w17.cell? ⟨w13.heap.size, 1, none⟩ = some (.int .i64 (pE : Int)) := F17.out.cell 1
          have g5 : w17.cell? ⟨w13.heap.size, 2, none⟩ = some (.int .i64 (pF : Int)) := F17.out.cell 2
          clear hx17 HX16
          go_wp2
          go_ret
          exact ⟨rfl, HX17.out⟩
        · have HNO := Lib.hid hno
          clear hno
          have HX14 : Hid (Ext w (w13.alloc (.cells #[.int .i64 0, .int .i64 0, .int .i64 0] 25))) := Ext.trans HX13.out (Ext.alloc _ _)
          have DD := Lib.hid (Blk.new w13 25 #[.int .i64 0, .int .i64 0, .int .i64 0])
          go_wp2_with fail
          generalize w13.alloc (.cells #[.int .i64 0, .int .i64 0, .int .i64 0] 25) = w14 at HX14 DD ⊢
          refine (parse_any s HS47.out w14 (HE.out.ext HX14.out)).mono ?_
          intro e w15 hp
          obtain ⟨hx15, ⟨qW, qE, qF, hq2, _⟩ | ⟨_, rfl⟩⟩ := hp
          · exact absurd hq2 (HNO.out _ _ _)
          have HX15 : Hid (Ext w w15) := Ext.trans HX14.out hx15
          have D15 : Hid (Blk w15 w13.heap.size 25 #[.int .i64 0, .int .i64 0, .int .i64 0]) := DD.out.chg (Chg.of_below hx15) (by have := DD.out.lt; omega)
          clear hx15 HX13 HX14 DD
          go_upto_region 25 with fail
          have HX16 : Hid (Ext w (w15.alloc (.cells #[.int .i64 0, .int .i64 0, .int .i64 0] 25))) := Ext.trans HX15.out (Ext.alloc _ _)
          have DE := Lib.hid (Blk.new w15 25 #[.int .i64 0, .int .i64 0, .int .i64 0])
          have DF := Lib.hid (D15.out.alloc (.cells #[.int .i64 0, .int .i64 0, .int .i64 0] 25))
          generalize w15.alloc (.cells #[.int .i64 0, .int .i64 0, .int .i64 0] 25) = w16 at HX16 DE DF ⊢
          go_wp2_with fail
          rw [← errOf_ne (x := 5) (by decide)]
          refine (same_err w16 5 5 (HD.out.new HX16.out) true rfl).mono ?_
          rintro e w17 ⟨rfl, hx17⟩
          have HX17 : Hid (Ext w w17) := Ext.trans HX16.out hx17
          have E17 : Hid (Blk w17 w15.heap.size 25 #[.int .i64 0, .int .i64 0, .int .i64 0]) := DE.out.chg (Chg.of_below hx17) (by have := DE.out.lt; omega)
          have F17 : Hid (Blk w17 w13.heap.size 25 #[.int .i64 0, .int .i64 0, .int .i64 0]) := DF.out.chg (Chg.of_below hx17) (by have := DF.out.lt; omega)
          have g0 : w17.cell? ⟨w15.heap.size, 0, none⟩ = some (.int .i64 0) := E17.out.cell 0
          have g1 : w17.cell? ⟨w15.heap.size, 1, none⟩ = some (.int .i64 0) := E17.out.cell 1
          have g2 : w17.cell? ⟨w15.heap.size, 2, none⟩ = some (.int .i64 0) := E17.out.cell 2
          have g3 : w17.cell? ⟨w13.heap.size, 0, none⟩ = some (.int .i64 0) := F17.out.cell 0
          have g4 : w17.cell? ⟨w13.heap.size, 1, none⟩ = some (.int .i64 0) := F17.out.cell 1
          have g5 : w17.cell? ⟨w13.heap.size, 2, none⟩ = some (.int .i64 0) := F17.out.cell 2
          clear hx17 HX16
          go_wp2
          go_ret
          exact ⟨rfl, HX17.out⟩
end Go.Proofs.YtakjakglkfhaaaaDoor
