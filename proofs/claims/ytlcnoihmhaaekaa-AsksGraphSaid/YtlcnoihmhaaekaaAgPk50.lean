/-
  Walk of footbridgelaw1.AsksGraph. Condition: the events lie in memory as 'EvsAt' says.
-/
import Derived.Test.YtlcnoihmhaaekaaAgPk39
import Derived.Test.YtlcnoihmhaaekaaAgPk40
import Derived.Test.YtlcnoihmhaaekaaAgPk49
namespace Go.Proofs.Ytlcnoihmhaaekaa
open Go Go.RowKit SQ TR DF PD
set_option linter.unusedVariables false

theorem ev_four (w : World) (H : Nat) (hH : w.heap.size = H) : EvsAt (w.alloc (.cells #[.int .i64 1, .int .i64 0, .int .i64 1, .int .i64 3, .int .i64 1, .int .i64 0, .int .i64 2, .int .i64 1, .int .i64 0, .int .i64 3, .int .i64 0, .int .i64 1] 60)) (some ⟨H, 0, none⟩) AG.factE := by
  subst hH
  refine .inr ⟨_, 0, rfl, by simp, fun i f hf => ?_⟩
  have hB := Blk.new w 60 #[.int .i64 1, .int .i64 0, .int .i64 1, .int .i64 3, .int .i64 1, .int .i64 0, .int .i64 2, .int .i64 1, .int .i64 0, .int .i64 3, .int .i64 0, .int .i64 1]
  unfold AG.factE at hf
  match i, hf with
  | 0, hf => simp at hf; subst hf; exact ⟨hB.cell 0, hB.cell 1, hB.cell 2⟩
  | 1, hf => simp at hf; subst hf; exact ⟨hB.cell 3, hB.cell 4, hB.cell 5⟩
  | 2, hf => simp at hf; subst hf; exact ⟨hB.cell 6, hB.cell 7, hB.cell 8⟩
  | 3, hf => simp at hf; subst hf; exact ⟨hB.cell 9, hB.cell 10, hB.cell 11⟩
  | i + 4, hf => simp at hf
theorem bools_two (w : World) (H : Nat) (hH : w.heap.size = H) : BoolsAt (w.alloc (.cells #[.bool true, .bool false] 4)) (some ⟨H, 0, none⟩) [true, false] := by
  subst hH
  refine .inr ⟨_, 0, rfl, by simp, fun i f hf => ?_⟩
  have hB := Blk.new w 4 #[.bool true, .bool false]
  match i, hf with
  | 0, hf => simp at hf; subst hf; exact hB.cell 0
  | 1, hf => simp at hf; subst hf; exact hB.cell 1
  | i + 2, hf => simp at hf
theorem gbelow_next {a b c : World} (h : Below a.heap.size a b) (k : Below b.heap.size b c) : Below a.heap.size a c := h.trans (Below.mono k h.size)
theorem evs_at {w : World} {A : Option Addr} {l : List AK.Ev} {i : Nat} (h : EvsAt w A l) (hi : i < l.length) : ∃ b off e, A = some ⟨b, off, none⟩ ∧ l[i]? = some e ∧ w.cell? ⟨b, off + i * 3, none⟩ = some (.int .i64 e.w) ∧ w.cell? ⟨b, off + i * 3 + 1, none⟩ = some (.int .i64 e.a) ∧ w.cell? ⟨b, off + i * 3 + 2, none⟩ = some (.int .i64 e.b) ∧ b < w.heap.size := by
  rcases h with h | ⟨b, off, rfl, hb, hc⟩
  · subst h; simp at hi
  · have := List.getElem?_eq_getElem hi
    exact ⟨b, off, _, rfl, this, (hc i _ this).1, (hc i _ this).2.1, (hc i _ this).2.2, hb⟩
theorem bools_at {w : World} {A : Option Addr} {l : List Bool} {i : Nat} {t : Bool} (h : BoolsAt w A l) (hi : l[i]? = some t) : ∃ b off, A = some ⟨b, off, none⟩ ∧ w.cell? ⟨b, off + i, none⟩ = some (.bool t) ∧ b < w.heap.size := by
  rcases h with h | ⟨b, off, rfl, hb, hc⟩
  · subst h; simp at hi
  · exact ⟨b, off, rfl, hc i t hi, hb⟩
theorem asked_lenle (l : List AK.Ev) : ∀ (k i : Nat), (AK.asked l i k).length ≤ k
  | 0, i => by simp [AK.asked]
  | k + 1, i => by
    have := asked_lenle l k i
    rw [AK.asked, List.length_append]
    split
    · simp; omega
    · simp; omega
/-- The graph beside the events. -/
def AgR (W wr : World) (g0 : Nat) (n : Nat) (l : List AK.Ev) (i : Nat) : Prop := ∃ (G : GrP) (A : List AK.Ed) (f : AK.Ed → GM.St), G.gb = g0 ∧ GcS W wr G n (n + 4000 * i) A f ∧ AG.AgS l i A
def AgPost (W : World) (e : Ending) (w' : World) : Prop := e = .returned (.bool true) ∧ Below W.heap.size W w'
set_option maxHeartbeats 8000000 in
set_option maxRecDepth 100000 in
theorem ag_walk (n : Int) (a : Option Addr) (len cap : Nat) (l : List AK.Ev) (W : World) (h : EvsAt W a l ∧ l.length = len ∧ len ≤ cap ∧ cap ≤ maxLen ∧ (a = none → len = 0 ∧ cap = 0)) :
    Calls Try.prog 6 #[.int .i64 n, .slice a len cap] W (AgPost W) := by
  obtain ⟨hE, hl, hlc, hcm, hno⟩ := h
  unfold maxLen at hcm
  have HE := Lib.hid hE
  have HL := Lib.hid hl
  clear hE hl hno
  go_enter Try.func6, Try.ntmps6
  go_wp2_with fail
  refine (answers_yes _ 3 (some ⟨W.heap.size, 0, none⟩) 4 4 AG.factE rfl (ev_four W _ rfl) AG.factE_good).mono ?_
  rintro e w1 ⟨A1, c1, rfl, hr1, hb1, _⟩
  rw [AG.factE_answers] at hr1 ⊢
  have HB1 : Hid (Below W.heap.size W w1) := ((Below.refl _ _).alloc (Nat.le_refl _) _).trans (Below.mono hb1 (by simp))
  have HX1 := Lib.hid (BoolsAt.of_own hr1).1
  clear hb1 hr1
  go_wp2_with fail
  refine (bools_any _ A1 (some ⟨w1.heap.size, 0, none⟩) 2 2 c1 2 [true, false] [true, false] (HX1.out.ext ((Below.refl _ _).alloc (Nat.le_refl _) _)) (bools_two w1 _ rfl) rfl rfl (by omega) (by omega) true rfl).mono ?_
  rintro e w2 ⟨rfl, hb2⟩
  have HB2 : Hid (Below W.heap.size W w2) := gbelow_next (HB1.out.alloc HB1.out.size _) hb2
  clear hb2 HB1 HX1
  cases hx : (AK.chk n l).2 with
  | some x =>
    have HX := Lib.hid hx
    clear hx
    go_wp2_with fail
    refine (answers_no w2 n a len cap l HL.out (by omega) (HE.out.ext HB2.out) x HX.out).mono ?_
    rintro e w3 ⟨rfl, hb3⟩
    have HB3 := Lib.hid (gbelow_next HB2.out hb3)
    clear hb3
    go_wp2
    go_ret
    exact ⟨rfl, HB3.out⟩
  | none =>
    have hg := AK.good_iff.1 hx
    have HG := Lib.hid hg
    have hlen : len ≤ 120 := by have := hg.2.2.1; have := HL.out; omega
    obtain ⟨n, rfl⟩ := Int.eq_ofNat_of_zero_le (show 0 ≤ n by have := hg.1; omega)
    have hn : 1 ≤ n ∧ n ≤ 60 := by have := hg.1; have := hg.2.1; omega
    clear hx hg
    go_wp2_with fail
    refine (answers_yes w2 n a len cap l HL.out (HE.out.ext HB2.out) HG.out).mono ?_
    rintro e w3 ⟨A3, c3, rfl, hr3, hb3, _⟩
    have HB3 : Hid (Below W.heap.size W w3) := gbelow_next HB2.out hb3
    have HX3 := Lib.hid (BoolsAt.of_own hr3).1
    obtain ⟨al, hal⟩ : ∃ m, (AK.answers l).length = m := ⟨_, rfl⟩
    have HAL := Lib.hid hal
    have hal120 : al ≤ 120 := by
      have := asked_lenle l l.length 0
      rw [← hal]
      exact Nat.le_trans this (by have := HL.out; omega)
    rw [hal]
    clear hb3 hr3 hal HB2
    go_wp2_with fail
    refine (gnew_ok w3 n hn).mono ?_
    intro e w4 hp
    obtain ⟨G, rfl, hgc, hx4⟩ := GcS.made (Ext.refl w3) hp
    obtain ⟨g0, hg0⟩ : ∃ g, G.gb = g := ⟨_, rfl⟩
    have R0 : Hid (AgR w3 w4 g0 n l 0) := ⟨G, [], _, hg0, hgc, AG.AgS.start l⟩
    rw [hg0]
    clear hp hgc hx4 hg0
    go_wp2
    go_loopw [11, 12, 13] (fun v11 v12 v13 wr => ∃ i k : Nat, i ≤ len ∧ k ≤ al ∧ v11 = .nilIface ∧ v12 = .int .i64 k ∧ v13 = .int .i64 i ∧ Hid (k = (AK.asked l 0 i).length ∧ AgR w3 wr g0 n l i)) (fun _ _ v13 _ => len - (intOf v13).toNat)
    case atStart => exact ⟨0, 0, Nat.zero_le _, Nat.zero_le _, rfl, rfl, rfl, rfl, R0.out⟩
    case round =>
      obtain ⟨i, k, hi, hk, rfl, rfl, rfl, HR⟩ := hrel
      clear R0
      obtain ⟨hkk, G, A, f, hG, hgc, hag⟩ := HR.out
      subst hG
      have HC : Hid (GcS w3 wr G n (n + 4000 * i) A f ∧ AG.AgS l i A) := ⟨hgc, hag⟩
      have hXr : BoolsAt wr A3 (AK.answers l) := HX3.out.ext hgc.ext
      have hEr : EvsAt wr a l := HE.out.ext (HB3.out.trans (Below.mono hgc.ext HB3.out.size))
      have hBr : Hid (Below W.heap.size W wr) := HB3.out.trans (Below.mono hgc.ext HB3.out.size)
      have HXr := Lib.hid hXr
      have HKK := Lib.hid hkk
      by_cases hlt : i < len
      · obtain ⟨b, off, ⟨ew, ea, eb⟩, rfl, hle, c0, c1, c2, hbl⟩ := evs_at hEr (show i < l.length by have := HL.out; omega)
        have hgd := AG.good_at HG.out hle
        simp only at c0 c1 c2 hgd
        obtain ⟨w1, w2, a0, a1, b0, b1, hne, hadd, hdrop⟩ := hgd
        obtain ⟨u, rfl⟩ := Int.eq_ofNat_of_zero_le a0
        obtain ⟨v, rfl⟩ := Int.eq_ofNat_of_zero_le b0
        have hu : u < n := by omega
        have hv : v < n := by omega
        have HLE := Lib.hid hle
        have hA : A.length ≤ i := hag.len
        have z0 : (0 : Int) ≤ (i : Int) := by omega
        have z1 : (i : Int) < (len : Int) := by omega
        rcases (show ew = 1 ∨ ew = 2 ∨ ew = 3 by omega) with rfl | rfl | rfl
        · have hm : AK.ek (u : Int) v ∉ A := fun q => by have := hadd rfl; rw [(hag.th _).2 q] at this; cases this
          have HM : Hid (AK.ek (u : Int) v ∉ A ∧ u ≠ v) := ⟨hm, fun e => hne (by omega) (by rw [e])⟩
          clear hkk hgc hag hXr hEr hle hadd hdrop hne hm HR a0 a1 b0 b1 w1 w2
          go_wp2
          go_still_tail 11, (by kernel_rfl)
          go_wp2_with fail
          refine (gadd_ok (HC.out.1.moved (Ext.drew wr)).at_ (by omega) u v hu hv HM.out.2 HM.out.1 (by omega)).mono ?_
          rintro e w8 ⟨s, rfl, h1, h2⟩
          have HN : Hid (k = (AK.asked l 0 (i + 1)).length ∧ AgR w3 w8 G.gb n l (i + 1)) :=
            ⟨by rw [AG.asked_no HLE.out (show (1 : Int) ≠ 3 by decide)]; exact HKK.out, G, _, _, rfl, ((HC.out.1.moved (Ext.drew wr)).step h1 h2).mono (by omega), HC.out.2.add HLE.out rfl HM.out.1⟩
          clear h1 h2 HC HM HKK HLE
          go_wp2
          go_roundw
          case rel => exact ⟨i + 1, k, by omega, hk, rfl, rfl, by go_num, HN.out⟩
          case measure => simp [intOf]; omega
        · have hm : AK.ek (u : Int) v ∈ A := (hag.th _).1 (hdrop rfl)
          have HM : Hid (AK.ek (u : Int) v ∈ A) := hm
          clear hkk hgc hag hXr hEr hle hadd hdrop hne hm HR a0 a1 b0 b1 w1 w2
          go_wp2
          go_still_tail 11, (by kernel_rfl)
          go_wp2_with fail
          refine (gdrop_ok (HC.out.1.moved (Ext.drew wr)).at_ (by omega) (by omega) hu hv HM.out).mono ?_
          rintro e w8 ⟨G', f', rfl, h1, h2, _⟩
          have HN : Hid (k = (AK.asked l 0 (i + 1)).length ∧ AgR w3 w8 G.gb n l (i + 1)) :=
            ⟨by rw [AG.asked_no HLE.out (show (2 : Int) ≠ 3 by decide)]; exact HKK.out, G', _, _, h2.gb, ((HC.out.1.moved (Ext.drew wr)).step h1 h2).mono (by omega), HC.out.2.drop HLE.out rfl HM.out⟩
          clear h1 h2 HC HM HKK HLE
          go_wp2
          go_roundw
          case rel => exact ⟨i + 1, k, by omega, hk, rfl, rfl, by go_num, HN.out⟩
          case measure => simp [intOf]; omega
        · obtain ⟨t, ht⟩ : ∃ t, AK.ansAt l i = t := ⟨_, rfl⟩
          have hat := AG.asked_at hle rfl
          rw [ht, ← hkk] at hat
          obtain ⟨b3, o3, rfl, hc3, hb3⟩ := bools_at hXr hat
          have hkl : k < al := by have := (List.getElem?_eq_some_iff.1 hat).1; have := HAL.out; omega
          have hans := hag.ans HG.out hgc.at_.k.ok hle rfl rfl rfl
          rw [ht] at hans
          have HT : Hid (t = true ↔ Cn (adj (GM.lvl f A 0)) u v) := hans.trans hgc.at_.k.joins
          have HCE : Hid (∀ W, Ext wr W → Ext wr W ∧ W.cell? ⟨b, off + i * 3 + 1, none⟩ = some (.int .i64 (u : Nat)) ∧ W.cell? ⟨b, off + i * 3 + 2, none⟩ = some (.int .i64 (v : Nat))) := fun W hW => ⟨hW, (hW.cell (p := ⟨b, _, none⟩) hbl).trans c1, (hW.cell (p := ⟨b, _, none⟩) hbl).trans c2⟩
          have z2 : (0 : Int) ≤ (k : Int) := by omega
          have z3 : (k : Int) < (al : Int) := by omega
          have z4 : ¬ (al : Int) ≤ (k : Int) := by omega
          have z5 : decide ((al : Int) ≤ (k : Int)) = false := by simp; omega
          clear hkk hgc hag hXr hEr hle hadd hdrop hne HR a0 a1 b0 b1 w1 w2 hat hans
          go_wp2
          go_region_held3 (fun W => Ext wr W ∧ W.cell? ⟨b, off + i * 3 + 1, none⟩ = some (.int .i64 (u : Nat)) ∧ W.cell? ⟨b, off + i * 3 + 2, none⟩ = some (.int .i64 (v : Nat)))
            (exact HCE.out _ (by first | assumption | exact Ext.drew _ | exact fst_ (by assumption) | exact Ext.trans (fst_ (by assumption)) (by assumption)))
            (first | (go_at_call 25; refine (gjoined_ok (HC.out.1.moved (Ext.drew wr)).at_.m u v hu hv t HT.out).mono ?_; rintro e w8 ⟨rfl, h1⟩) | fail)
          rename_i hHeld
          have hc8 : w8.cell? ⟨b3, o3 + k, none⟩ = some (.bool t) := (h1.cell (p := ⟨b3, _, none⟩) (by exact hb3)).trans hc3
          clear HCE hHeld
          have HN : Hid (k + 1 = (AK.asked l 0 (i + 1)).length ∧ AgR w3 w8 G.gb n l (i + 1)) :=
            ⟨by rw [AG.asked_ask HLE.out rfl, List.length_append, ← HKK.out]; rfl, G, _, _, rfl, ((HC.out.1.moved (Ext.drew wr)).moved h1).mono (by omega), HC.out.2.ask HLE.out rfl⟩
          clear h1 HC HT HKK HLE
          go_wp2
          go_roundw
          case rel => exact ⟨i + 1, k + 1, by omega, hkl, rfl, by go_num, by go_num, HN.out⟩
          case measure => simp [intOf]; omega
      · obtain rfl : i = len := by omega
        have hE : k = al := by
          rw [hkk, ← HAL.out, ← HL.out]; rfl
        have hq : ((k : Int) == (al : Int)) = true := by rw [beq_iff_eq]; omega
        clear hkk hgc hag hXr hEr HR
        go_wp2
        go_ret
        exact ⟨rfl, hBr.out⟩
end Go.Proofs.Ytlcnoihmhaaekaa
