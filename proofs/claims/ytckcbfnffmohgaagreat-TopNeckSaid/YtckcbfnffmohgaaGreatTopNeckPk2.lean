/-
  The neck is where it holds: the walk of TopNeck. Condition: the edges lie in memory as 'HvAt' says.
-/
import Derived.Test.YtckcbfnffmohgaaGreatTopNeckPk1
import Derived.Test.YtckcbfnffmohgaaGreatBs44
import Derived.Test.YtckcbfnffmohgaaGreatBs38
import Derived.StillTailTactics
import Derived.Deep.RegionHeld3
namespace Go.Proofs.YtckcbfnffmohgaaGreat
open Go Go.RowKit Go.Lib NK
set_option linter.unusedVariables false

/-- The edges of the first i numbers that are wanted, as pairs. -/
def prUp (L : List He) (P : Nat → Bool) (i : Nat) : List (Nat × Nat) := ((List.range i).filter P).map fun j : Nat => ndH L (j : Int)
theorem prUp_yes {L : List He} {P : Nat → Bool} {i : Nat} (h : P i = true) : prUp L P (i + 1) = prUp L P i ++ [ndH L (i : Int)] := by
  unfold prUp
  rw [List.range_succ, List.filter_append, List.map_append, List.filter_cons_of_pos h]; rfl
theorem prUp_no {L : List He} {P : Nat → Bool} {i : Nat} (h : P i = false) : prUp L P (i + 1) = prUp L P i := by
  unfold prUp
  rw [List.range_succ, List.filter_append, List.map_append, List.filter_cons_of_neg (by rw [h]; simp)]; simp
def ltQ (L : List He) (t : Int) (j : Nat) : Bool := decide (wtH L j < t)
def leQ (L : List He) (t : Int) (j : Nat) : Bool := decide (wtH L j ≤ t)
theorem prUp_lt {L : List He} {t : Int} {x y : Nat} : UF.Con (prUp L (ltQ L t) L.length) x y ↔ UF.Con (ltH L t) x y := by
  have m : ∀ p, p ∈ prUp L (ltQ L t) L.length ↔ p ∈ ltH L t := fun p => by
    rw [mem_ltH]
    unfold prUp ltQ
    simp only [List.mem_map, List.mem_filter, List.mem_range, decide_eq_true_eq]
    constructor
    · rintro ⟨j, ⟨h1, h2⟩, h3⟩; exact ⟨j, h1, h2, h3⟩
    · rintro ⟨j, h1, h2, h3⟩; exact ⟨j, ⟨h1, h2⟩, h3⟩
  exact ⟨fun c => c.mono fun x y hm => .edge ((m _).1 hm), fun c => c.mono fun x y hm => .edge ((m _).2 hm)⟩
theorem prUp_le {L : List He} {t : Int} {x y : Nat} : UF.Con (prUp L (leQ L t) L.length) x y ↔ UF.Con (leH L t) x y := by
  have m : ∀ p, p ∈ prUp L (leQ L t) L.length ↔ p ∈ leH L t := fun p => by
    rw [mem_leH]
    unfold prUp leQ
    simp only [List.mem_map, List.mem_filter, List.mem_range, decide_eq_true_eq]
    constructor
    · rintro ⟨j, ⟨h1, h2⟩, h3⟩; exact ⟨j, h1, h2, h3⟩
    · rintro ⟨j, h1, h2, h3⟩; exact ⟨j, ⟨h1, h2⟩, h3⟩
  exact ⟨fun c => c.mono fun x y hm => .edge ((m _).1 hm), fun c => c.mono fun x y hm => .edge ((m _).2 hm)⟩
/-- Two unions beside each other, all of it new; what they tell. -/
structure NnU (w : World) (n g1 g2 : Nat) (es fs : List (Nat × Nat)) (hs ks : UF.Hs) (u v : Uni) (wr : World) : Prop where
  pg : u.g = g1
  qg : v.g = g2
  atu : UAt wr u n hs
  atv : UAt wr v n ks
  apart : ∀ k, u.fp k → ¬ v.fp k
  un : ∀ k, u.fp k → w.heap.size ≤ k
  vn : ∀ k, v.fp k → w.heap.size ≤ k
  ext : Ext w wr
  tu : UF.Tells hs es
  tv : UF.Tells ks fs
def NnS (w : World) (n g1 g2 : Nat) (es fs : List (Nat × Nat)) (wr : World) : Prop := ∃ hs ks u v, NnU w n g1 g2 es fs hs ks u v wr
section
variable {w wr w' : World} {n g1 g2 : Nat} {es fs : List (Nat × Nat)}
theorem NnS.ext (h : NnS w n g1 g2 es fs wr) : Ext w wr := by obtain ⟨hs, ks, u, v, h⟩ := h; exact h.ext
theorem NnS.moved (h : NnS w n g1 g2 es fs wr) (hx : Ext wr w') : NnS w n g1 g2 es fs w' := by
  obtain ⟨hs, ks, u, v, h⟩ := h
  exact ⟨hs, ks, u, v, { h with atu := h.atu.new hx, atv := h.atv.new hx, ext := Ext.trans h.ext hx }⟩
theorem NnS.left (h : NnS w n g1 g2 es fs wr) {a b : Nat} (ha : a < n) (hb : b < n) : Calls Tryz.prog 8 #[.pointer (some ⟨g1, 0, none⟩), .int .i64 a, .int .i64 b] wr fun e w' => (∃ x, e = .returned x) ∧ NnS w n g1 g2 (es ++ [(a, b)]) fs w' := by
  obtain ⟨hs, ks, u, v, h⟩ := h
  refine (join_in h.atu h.pg (a : Int) (b : Int) (by omega) (by omega)).mono ?_
  rintro e w' ⟨u', rfl, q1, m1, m2, m3⟩
  simp only [Int.toNat_natCast] at q1
  have hz := h.ext.size
  refine ⟨⟨_, rfl⟩, _, ks, u', v, ⟨m1.trans h.pg, h.qg, q1, h.atv.chg m2 (fun k hv hu => h.apart k hu hv), fun k hk hv => ?_, fun k hk => ?_, h.vn, Below.trans h.ext (m2.below hz fun k _ hk => h.un k hk), UF.tells_join h.tu a b, h.tv⟩⟩
  · rcases m3 k hk with q | q
    · exact h.apart k q hv
    · have := h.atv.lt hv; omega
  · rcases m3 k hk with q | q
    · exact h.un k q
    · omega
theorem NnS.right (h : NnS w n g1 g2 es fs wr) {a b : Nat} (ha : a < n) (hb : b < n) : Calls Tryz.prog 8 #[.pointer (some ⟨g2, 0, none⟩), .int .i64 a, .int .i64 b] wr fun e w' => (∃ x, e = .returned x) ∧ NnS w n g1 g2 es (fs ++ [(a, b)]) w' := by
  obtain ⟨hs, ks, u, v, h⟩ := h
  refine (join_in h.atv h.qg (a : Int) (b : Int) (by omega) (by omega)).mono ?_
  rintro e w' ⟨v', rfl, q1, m1, m2, m3⟩
  simp only [Int.toNat_natCast] at q1
  have hz := h.ext.size
  refine ⟨⟨_, rfl⟩, hs, _, u, v', ⟨h.pg, m1.trans h.qg, h.atu.chg m2 (fun k hu hv => h.apart k hu hv), q1, fun k hk hv => ?_, h.un, fun k hk => ?_, Below.trans h.ext (m2.below hz fun k _ hk => h.vn k hk), h.tu, UF.tells_join h.tv a b⟩⟩
  · rcases m3 k hv with q | q
    · exact h.apart k hk q
    · have := h.atu.lt hk; omega
  · rcases m3 k hk with q | q
    · exact h.vn k q
    · omega
theorem NnS.sameL (h : NnS w n g1 g2 es fs wr) {a b : Nat} (ha : a < n) (hb : b < n) {t : Bool} (ht : t = true ↔ UF.Con es a b) : Calls Tryz.prog 9 #[.pointer (some ⟨g1, 0, none⟩), .int .i64 a, .int .i64 b] wr fun e w' => e = .returned (.tuple #[.bool t, .nilIface]) ∧ Ext wr w' := by
  obtain ⟨hs, ks, u, v, h⟩ := h
  have e : (UF.rt hs a == UF.rt hs b) = t := by
    rw [Bool.eq_iff_iff, beq_iff_eq, ht]; exact h.tu a b
  have := same_in h.atu h.pg (a : Int) (b : Int) (by omega) (by omega)
  simp only [Int.toNat_natCast, e] at this
  exact this
theorem NnS.sameR (h : NnS w n g1 g2 es fs wr) {a b : Nat} (ha : a < n) (hb : b < n) {t : Bool} (ht : t = true ↔ UF.Con fs a b) : Calls Tryz.prog 9 #[.pointer (some ⟨g2, 0, none⟩), .int .i64 a, .int .i64 b] wr fun e w' => e = .returned (.tuple #[.bool t, .nilIface]) ∧ Ext wr w' := by
  obtain ⟨hs, ks, u, v, h⟩ := h
  have e : (UF.rt ks a == UF.rt ks b) = t := by
    rw [Bool.eq_iff_iff, beq_iff_eq, ht]; exact h.tv a b
  have := same_in h.atv h.qg (a : Int) (b : Int) (by omega) (by omega)
  simp only [Int.toNat_natCast, e] at this
  exact this
end

theorem nx_self {n a b x k : Int} {L : List He} (h : NeckX n L a b x k) (hk : k = 0) (hab : a = b) : x = 0 := by
  cases h with
  | bad _ => rfl
  | range _ _ => rfl
  | self _ _ _ => rfl
  | none _ _ _ _ => rfl
  | some _ _ e _ _ => exact absurd hab e
theorem nx_some {n a b x k : Int} {L : List He} (h : NeckX n L a b x k) (hk : k = 0) (hab : a ≠ b) : OkH n L ∧ In2 n a b ∧ Nk L a.toNat b.toNat x := by
  cases h with
  | bad h => exact absurd hk h
  | range _ _ => omega
  | self _ _ e => exact absurd e hab
  | none _ _ _ _ => omega
  | some h1 h2 _ _ h3 => exact ⟨h1, h2, h3⟩

set_option maxRecDepth 100000 in
set_option maxHeartbeats 4000000 in
theorem nn_walk (n : Int) (A : Option Addr) (m c : Nat) (L : List He) (a b : Int) (w : World) (hs : HvAt w A L ∧ L.length = m ∧ m ≤ c ∧ c ≤ maxLen) :
    Calls Tryz.prog 3 #[.int .i64 n, .slice A m c, .int .i64 a, .int .i64 b] w fun e w' => e = .returned (.bool true) ∧ Below w.heap.size w w' := by
  obtain ⟨hH, hl, hmc, hcm⟩ := hs
  unfold maxLen at hcm
  have hm63 : m ≤ 9223372036854775807 := by omega
  have HL : Hid (L.length = m ∧ HvAt w A L) := ⟨hl, hH⟩
  have HNK := Lib.hid (fun W (hW : Ext w W) => neck_any W n A m c L a b hl hm63 (hH.ext hW))
  clear hH hl hmc hcm
  go_enter Tryz.func3, Tryz.ntmps3
  go_wp2_with fail
  refine (one_any w).mono ?_
  rintro e w1 ⟨rfl, hx1⟩
  have X1 : Hid (Ext w w1) := hx1
  clear hx1
  go_wp2_with fail
  refine (HNK.out w1 X1.out).mono ?_
  rintro e w2 ⟨k, q, rfl, hk, hx2⟩
  have X2 : Hid (Ext w w2) := Ext.trans X1.out hx2
  have HK := Lib.hid hk
  clear hk hx2 X1 HNK
  by_cases hq : q = 0
  · subst hq
    rw [show errH 0 = .nilIface from rfl]
    by_cases hab : a = b
    · have hk0 : k = 0 := nx_self HK.out rfl hab
      subst hk0
      have e1 : (a == b) = true := by rw [beq_iff_eq]; exact hab
      clear hab
      go_wp2
      go_ret
      exact ⟨rfl, X2.out⟩
    · have e1 : (a == b) = false := by rw [beq_eq_false_iff_ne]; exact hab
      have HF : Hid (OkH n L ∧ In2 n a b ∧ Nk L a.toNat b.toNat k) := nx_some HK.out rfl hab
      clear hab HK
      obtain ⟨n, hn0⟩ := Int.eq_ofNat_of_zero_le (show 0 ≤ n by have := HF.out.1.n1; omega)
      subst hn0
      obtain ⟨a, rfl⟩ := Int.eq_ofNat_of_zero_le HF.out.2.1.1.1
      obtain ⟨b, rfl⟩ := Int.eq_ofNat_of_zero_le HF.out.2.1.2.1
      have han : a < n := by have := HF.out.2.1.1.2; omega
      have hbn : b < n := by have := HF.out.2.1.2.2; omega
      have HO : Hid (OkH n L ∧ Nk L a b k) := ⟨HF.out.1, by have := HF.out.2.2; simpa using this⟩
      have hn1 : 1 ≤ n ∧ n ≤ 60 := by have := HO.out.1.n1; have := HO.out.1.n2; omega
      clear HF
      go_wp2_with fail
      refine (new_yes w2 n (by omega) (by omega)).mono ?_
      rintro e w3 ⟨u, rfl, hu, hx3, hun⟩
      obtain ⟨g1, hg1⟩ : ∃ g, u.g = g := ⟨_, rfl⟩
      rw [hg1]
      have H3 : Hid (UAt w3 u n [] ∧ Ext w2 w3 ∧ (∀ k, u.fp k → w2.heap.size ≤ k) ∧ u.g = g1) := ⟨hu, hx3, hun, hg1⟩
      clear hu hx3 hun hg1
      go_wp2_with fail
      refine (new_yes w3 n (by omega) (by omega)).mono ?_
      rintro e w4 ⟨v, rfl, hv, hx4, hvn⟩
      obtain ⟨g2, hg2⟩ : ∃ g, v.g = g := ⟨_, rfl⟩
      rw [hg2]
      have HS0 : Hid (NnS w2 n g1 g2 (prUp L (ltQ L k) 0) (prUp L (leQ L k) 0) w4) := by
        have hz := H3.out.2.1.size
        exact ⟨[], [], u, v, H3.out.2.2.2, hg2, H3.out.1.new hx4, hv, fun i h1 h2 => by have := H3.out.1.lt h1; have := hvn i h2; omega, H3.out.2.2.1, fun i hi => by have := hvn i hi; omega, Ext.trans H3.out.2.1 hx4, UF.tells_nil, UF.tells_nil⟩
      have HV2 : Hid (HvAt w2 A L) := HL.out.2.ext X2.out
      clear hv hx4 hvn hg2 H3
      go_wp2
      go_loopw [16] (fun v16 wr => ∃ i : Nat, i ≤ m ∧ v16 = .int .i64 i ∧ Hid (NnS w2 n g1 g2 (prUp L (ltQ L k) i) (prUp L (leQ L k) i) wr)) (fun v16 _ => m - (intOf v16).toNat)
      case atStart => exact ⟨0, Nat.zero_le _, rfl, HS0.out⟩
      case round =>
        clear HS0
        obtain ⟨i, hi, rfl, HS⟩ := hrel
        by_cases c1 : i < m
        · have hiz : (i : Int) < (m : Int) := by omega
          have hig : (0 : Int) ≤ (i : Int) := by omega
          obtain ⟨bs, off, x, rfl, hbs, hx, _, _, p3⟩ := (HV2.out.ext HS.out.ext).at_ (i := i) (by rw [HL.out.1]; exact c1)
          have hxo := HO.out.1.ok x (List.mem_of_getElem? hx)
          have hnd := ndH_at hx
          have hwt := wtH_at hx
          obtain ⟨⟨x1, x2⟩, x3⟩ := x
          simp only at p3 hxo hnd hwt
          obtain ⟨u, rfl⟩ := Int.eq_ofNat_of_zero_le hxo.1
          obtain ⟨v, rfl⟩ := Int.eq_ofNat_of_zero_le (show 0 ≤ x2 by omega)
          simp only [Int.toNat_natCast] at hnd
          have hun : u < n := by omega
          have hvn : v < n := by omega
          have HC : Hid (∀ W, Ext w2 W → Ext w2 W ∧ W.cell? ⟨bs, off + i * 3, none⟩ = some (.int .i64 (u : Nat)) ∧ W.cell? ⟨bs, off + i * 3 + 1, none⟩ = some (.int .i64 (v : Nat))) := fun W hW => ⟨hW, ((HV2.out.ext hW).here hx).2.1, ((HV2.out.ext hW).here hx).2.2.1⟩
          have HC3 : Hid (∀ W, Ext w2 W → W.cell? ⟨bs, off + i * 3 + 2, none⟩ = some (.int .i64 x3)) := fun W hW => ((HV2.out.ext hW).here hx).2.2.2
          have HND := Lib.hid hnd
          have HW := Lib.hid hwt
          have hE0 : Ext w2 wr := HS.out.ext
          clear hx hxo hnd hwt
          by_cases d1 : x3 < k
          · have g3 : decide (x3 < k) = true := decide_eq_true d1
            have d2 : x3 ≤ k := by omega
            have g4 : decide (x3 ≤ k) = true := decide_eq_true d2
            have HP1 : Hid (ltQ L k i = true) := by unfold Hid ltQ; rw [HW.out]; exact g3
            have HP2 : Hid (leQ L k i = true) := by unfold Hid leQ; rw [HW.out]; exact g4
            have HJN : Hid (∀ W, Ext wr W → Calls Tryz.prog 8 #[.pointer (some ⟨g1, 0, none⟩), .int .i64 u, .int .i64 v] W fun e w' => (∃ x, e = .returned x) ∧ NnS w2 n g1 g2 (prUp L (ltQ L k) (i + 1)) (prUp L (leQ L k) i) w') := fun W hW => by
              rw [prUp_yes HP1.out, HND.out]
              exact (HS.out.moved hW).left hun hvn
            clear d1
            go_wp2_with fail
            go_region_held3 (fun W => Ext w2 W ∧ W.cell? ⟨bs, off + i * 3, none⟩ = some (.int .i64 (u : Nat)) ∧ W.cell? ⟨bs, off + i * 3 + 1, none⟩ = some (.int .i64 (v : Nat)))
              (exact HC.out _ (by first | assumption | exact Ext.trans hE0 (Ext.drew _) | exact fstH (by assumption) | exact Ext.trans (fstH (by assumption)) (by assumption)))
              (first
                | (go_at_call 8; refine (HJN.out _ (Ext.drew _)).mono ?_; rintro e w11 ⟨⟨z, rfl⟩, h11⟩; have H11 := Lib.hid h11; have hF11 : Ext w2 w11 := h11.ext; clear h11)
                | fail)
            rename_i hHeld
            have p4 := HC3.out _ hF11
            have HJN2 : Hid (∀ W, Ext w11 W → Calls Tryz.prog 8 #[.pointer (some ⟨g2, 0, none⟩), .int .i64 u, .int .i64 v] W fun e w' => (∃ x, e = .returned x) ∧ NnS w2 n g1 g2 (prUp L (ltQ L k) (i + 1)) (prUp L (leQ L k) (i + 1)) w') := fun W hW => by
              rw [prUp_yes HP2.out, HND.out]
              exact (H11.out.moved hW).right hun hvn
            clear hHeld HJN p3 hE0 HS
            go_wp2_with fail
            go_region_held3 (fun W => Ext w2 W ∧ W.cell? ⟨bs, off + i * 3, none⟩ = some (.int .i64 (u : Nat)) ∧ W.cell? ⟨bs, off + i * 3 + 1, none⟩ = some (.int .i64 (v : Nat)))
              (exact HC.out _ (by first | assumption | exact Ext.trans hF11 (Ext.drew _) | exact fstH (by assumption) | exact Ext.trans (fstH (by assumption)) (by assumption)))
              (first
                | (go_at_call 8; refine (HJN2.out _ (Ext.drew _)).mono ?_; rintro e w12 ⟨⟨z, rfl⟩, h12⟩; have H12 := Lib.hid h12; have hF12 : Ext w2 w12 := h12.ext; clear h12)
                | fail)
            rename_i hHeld2
            clear hHeld2 HJN2 HC HC3 hF11 hF12 p4 H11
            go_wp2
            go_roundw
            case rel => exact ⟨i + 1, by omega, by go_num, H12.out⟩
            case measure => simp [intOf]; omega
          · have g3 : decide (x3 < k) = false := decide_eq_false d1
            have HP1 : Hid (ltQ L k i = false) := by unfold Hid ltQ; rw [HW.out]; exact g3
            by_cases d2 : x3 ≤ k
            · have g4 : decide (x3 ≤ k) = true := decide_eq_true d2
              have HP2 : Hid (leQ L k i = true) := by unfold Hid leQ; rw [HW.out]; exact g4
              have HJN2 : Hid (∀ W, Ext wr W → Calls Tryz.prog 8 #[.pointer (some ⟨g2, 0, none⟩), .int .i64 u, .int .i64 v] W fun e w' => (∃ x, e = .returned x) ∧ NnS w2 n g1 g2 (prUp L (ltQ L k) (i + 1)) (prUp L (leQ L k) (i + 1)) w') := fun W hW => by
                rw [prUp_yes HP2.out, HND.out, prUp_no HP1.out]
                exact (HS.out.moved hW).right hun hvn
              clear d1 d2 HS
              go_wp2_with fail
              go_region_held3 (fun W => Ext w2 W ∧ W.cell? ⟨bs, off + i * 3, none⟩ = some (.int .i64 (u : Nat)) ∧ W.cell? ⟨bs, off + i * 3 + 1, none⟩ = some (.int .i64 (v : Nat)))
                (exact HC.out _ (by first | assumption | exact Ext.trans hE0 (Ext.drew _) | exact fstH (by assumption) | exact Ext.trans (fstH (by assumption)) (by assumption)))
                (first
                  | (go_at_call 8; refine (HJN2.out _ (Ext.drew _)).mono ?_; rintro e w12 ⟨⟨z, rfl⟩, h12⟩; have H12 := Lib.hid h12; have hF12 : Ext w2 w12 := h12.ext; clear h12)
                  | fail)
              rename_i hHeld2
              clear hHeld2 HJN2 HC HC3 hE0 hF12 p3
              go_wp2
              go_roundw
              case rel => exact ⟨i + 1, by omega, by go_num, H12.out⟩
              case measure => simp [intOf]; omega
            · have g4 : decide (x3 ≤ k) = false := decide_eq_false d2
              have HP2 : Hid (leQ L k i = false) := by unfold Hid leQ; rw [HW.out]; exact g4
              have H12 : Hid (NnS w2 n g1 g2 (prUp L (ltQ L k) (i + 1)) (prUp L (leQ L k) (i + 1)) wr) := by rw [prUp_no HP1.out, prUp_no HP2.out]; exact HS.out
              clear d1 d2 HS HC HC3 hE0
              go_wp2
              go_roundw
              case rel => exact ⟨i + 1, by omega, by go_num, H12.out⟩
              case measure => simp [intOf]; omega
        · obtain rfl : i = m := by omega
          have hiz : ¬ (i : Int) < (i : Int) := by omega
          have hcl : ¬ UF.Con (prUp L (ltQ L k) i) a b := by rw [← HL.out.1]; exact fun q => HO.out.2.lt (prUp_lt.1 q)
          have hcr : UF.Con (prUp L (leQ L k) i) a b := by rw [← HL.out.1]; exact prUp_le.2 HO.out.2.le
          have HSL := Lib.hid (fun W (hW : Ext wr W) => (HS.out.moved hW).sameL han hbn (t := false) ⟨(fun q => by cases q), fun q => absurd q hcl⟩)
          have HSR := Lib.hid (fun W (hW : Ext wr W) => (HS.out.moved hW).sameR han hbn (t := true) ⟨fun _ => hcr, fun _ => rfl⟩)
          have XR : Hid (Ext w wr) := Ext.trans X2.out HS.out.ext
          clear hcl hcr HS
          go_wp2_with fail
          refine (HSL.out wr (Ext.refl _)).mono ?_
          rintro e w5 ⟨rfl, hx5⟩
          have HX5 : Hid (Ext wr w5) := hx5
          clear hx5
          go_wp2_with fail
          refine (HSR.out w5 HX5.out).mono ?_
          rintro e w6 ⟨rfl, hx6⟩
          have HX6 : Hid (Ext w w6) := Ext.trans XR.out (Ext.trans HX5.out hx6)
          clear hx6
          go_wp2
          go_ret
          exact ⟨rfl, HX6.out⟩
  · rw [errH_ne hq]
    clear HK
    go_wp2
    go_ret
    exact ⟨rfl, X2.out⟩
end Go.Proofs.YtckcbfnffmohgaaGreat
