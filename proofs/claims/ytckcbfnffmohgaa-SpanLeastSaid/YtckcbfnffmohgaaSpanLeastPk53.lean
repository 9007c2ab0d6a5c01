/-
  None is lighter than the span: the walk of SpanLeast. Conditions: the edges lie in memory as 'HvAt' says, the numbers as 'IntsAt' says.
-/
import Derived.Test.YtckcbfnffmohgaaSpanLeastPk52
namespace Go.Proofs.Ytckcbfnffmohgaa
open Go Go.RowKit Go.Lib NK SQ TR DF PD
set_option linter.unusedVariables false

/-- The forest, what was linked, what was tried. -/
structure LsA (w9 wr : World) (fb n pm : Nat) (L : List He) (ks : List Int) (i : Nat) (F : FoP) (E : List AK.Ed) (N : Nat) : Prop where
  fo : FoAt wr F n N E
  fb : F.fb = fb
  nn : N ≤ n + ks.length
  bb : w9.heap.size ≤ F.fb ∧ ∀ k, F.S k → w9.heap.size ≤ k
  st : LsS L ks E
  tr : ∀ j : Nat, j < L.length → pm + j < i → UF.Con (ks.map (ndH L)) (ndH L j).1 (ndH L j).2
  ex : Ext w9 wr
def LsM (w9 wr : World) (fb n pm : Nat) (L : List He) (ks : List Int) (i : Nat) : Prop := ∃ F E N, LsA w9 wr fb n pm L ks i F E N
section
variable {w9 wr w' : World} {fb n pm i : Nat} {L : List He} {ks : List Int} {F : FoP} {E : List AK.Ed} {N : Nat}
theorem LsA.skip (h : LsA w9 wr fb n pm L ks i F E N) (hp : i < pm ∨ L.length ≤ i - pm) : LsA w9 wr fb n pm L ks (i + 1) F E N :=
  { h with tr := fun j hj hi => h.tr j hj (by omega) }
theorem LsA.linked (h : LsA w9 wr fb n pm L ks i F E N) {a b k : Nat} (hk : k < L.length) (hn : ndH L (k : Int) = (a, b)) (c : ¬ Cn (adj E) a b) (hp : i < pm ∨ k = i - pm) (hf : FoAt w' F n (N + 1) (putE (AK.ek a b) E)) (hc : Chg F.S wr w') : LsA w9 w' fb n pm L ((k : Int) :: ks) (i + 1) F (putE (AK.ek a b) E) (N + 1) := by
  refine ⟨hf, h.fb, by have := h.nn; simp only [List.length_cons]; omega, h.bb, h.st.link hk hn c, fun j hj hi => ?_, Below.trans h.ex (hc.below h.ex.size fun k _ hk => h.bb.2 k hk)⟩
  by_cases e : pm + j < i
  · exact Con.rev (fun p hp => List.mem_cons_of_mem _ hp) (h.tr j hj e)
  · obtain rfl : j = k := by omega
    rw [List.map_cons]
    exact .edge (List.mem_cons_self ..)
theorem LsA.clash (h : LsA w9 wr fb n pm L ks i F E N) {a b k : Nat} (hk : k < L.length) (hn : ndH L (k : Int) = (a, b)) (c : Cn (adj E) a b) (hp : i < pm ∨ k = i - pm) (hx : Ext wr w') : LsA w9 w' fb n pm L ks (i + 1) F E N := by
  refine ⟨h.fo.ext hx, h.fb, h.nn, h.bb, h.st, fun j hj hi => ?_, Ext.trans h.ex hx⟩
  by_cases e : pm + j < i
  · exact h.tr j hj e
  · obtain rfl : j = k := by omega
    rw [hn]
    exact (h.st.con a b).1 c
end

set_option maxHeartbeats 4000000 in
set_option maxRecDepth 100000 in
theorem sl_walk (n : Int) (a1 : Option Addr) (len1 cap1 : Nat) (L : List He) (a2 : Option Addr) (len2 cap2 : Nat) (xs : List Int) (w : World) (h1 : HvAt w a1 L ∧ L.length = len1 ∧ len1 ≤ cap1 ∧ cap1 ≤ maxLen) (h2 : IntsAt w a2 xs ∧ xs.length = len2 ∧ len2 ≤ cap2 ∧ cap2 ≤ maxLen) (hb2 : len2 ≤ 1125899906842624) :
    Calls Try.prog 4 #[.int .i64 n, .slice a1 len1 cap1, .slice a2 len2 cap2] w fun e w' => e = .returned (.bool true) ∧ Below w.heap.size w w' := by
  obtain ⟨hH, hl, hlc, hcm⟩ := h1
  obtain ⟨hI, hxl, hlc2, hcm2⟩ := h2
  unfold maxLen at hcm hcm2
  have hb1 : len1 ≤ 9223372036854775807 := by omega
  have HSP := Lib.hid (fun W (hW : Ext w W) => span_any W n a1 len1 cap1 L hl hb1 (hH.ext hW))
  have HWT := Lib.hid (fun W (hW : Ext w W) => weight_any W n a1 len1 cap1 L hl hb1 (hH.ext hW))
  have HNK := Lib.hid (fun W (hW : Ext w W) p q => neck_any W n a1 len1 cap1 L p q hl hb1 (hH.ext hW))
  have H : Hid (HvAt w a1 L ∧ L.length = len1) := ⟨hH, hl⟩
  have HI : Hid (IntsAt w a2 xs ∧ xs.length = len2) := ⟨hI, hxl⟩
  clear hH hl hlc hcm hI hxl hlc2 hcm2
  go_enter Try.func4, Try.ntmps4
  go_wp2_with fail
  obtain ⟨w0, hw0⟩ : ∃ w0, w.alloc (.cells #[.int .i64 0, .int .i64 1, .int .i64 5, .int .i64 0, .int .i64 2, .int .i64 1, .int .i64 1, .int .i64 2, .int .i64 2] 30) = w0 := ⟨_, rfl⟩
  have hB0 : Blk w0 w.heap.size 30 #[.int .i64 0, .int .i64 1, .int .i64 5, .int .i64 0, .int .i64 2, .int .i64 1, .int .i64 1, .int .i64 2, .int .i64 2] := by subst hw0; exact Blk.new _ _ _
  have X0 : Hid (Ext w w0) := by subst hw0; exact Ext.alloc _ _
  rw [hw0]
  clear hw0
  have HF := Lib.hid (span_any w0 3 _ 3 3 factL rfl (by decide) (factL_at hB0))
  clear hB0
  refine HF.out.mono ?_
  rintro e w1 ⟨hx1, ⟨hq, _⟩ | ⟨_, _, R, cr, rfl, hr, hrn⟩⟩
  · exact absurd (okH_of.2 factL_ok) hq
  rw [factL_span] at hr ⊢
  have X1 : Hid (Ext w w1) := Ext.trans X0.out hx1
  obtain ⟨hI1, _⟩ := IntsAt.of_own hr
  have HI1 : Hid (IntsAt w1 R [1, 2]) := hI1
  clear hr hrn hx1 HF X0 hI1
  go_wp2_with fail
  obtain ⟨w2, hw2⟩ : ∃ w2, w1.alloc (.cells #[.int .i64 1, .int .i64 2] 3) = w2 := ⟨_, rfl⟩
  have X2 : Hid (Ext w1 w2) := by subst hw2; exact Ext.alloc _ _
  have HB2 : Hid (IntsAt w2 (some ⟨w1.heap.size, 0, none⟩) [1, 2]) := by
    subst hw2
    refine .inr ⟨w1.heap.size, 0, rfl, by simp, fun i v hv => ?_⟩
    have hb := Blk.new w1 3 #[.int .i64 1, .int .i64 2]
    match i, hv with
    | 0, hv => simp at hv; subst hv; exact hb.cell 0
    | 1, hv => simp at hv; subst hv; exact hb.cell 1
    | i + 2, hv => simp at hv
  rw [hw2]
  clear hw2
  refine (ints_any w2 R _ 2 2 _ _ [1, 2] [1, 2] (HI1.out.ext X2.out) HB2.out rfl rfl (by decide) (by decide) true (by decide)).mono ?_
  rintro e w3 ⟨rfl, hx3⟩
  have X3 : Hid (Ext w w3) := Ext.trans (Ext.trans X1.out X2.out) hx3
  clear hx3 HI1 HB2 X1 X2
  go_wp2_with fail
  refine (HSP.out w3 X3.out).mono ?_
  rintro e w4 ⟨hx4, ⟨hq, rfl⟩ | ⟨hok, ⟨f, ho⟩, R4, c4, rfl, hr4, hrn4⟩⟩
  · have X4 : Hid (Ext w w4) := Ext.trans X3.out hx4
    have HQ := Lib.hid hq
    clear hq hx4 X3
    go_wp2_with fail
    refine (HWT.out w4 X4.out).mono ?_
    rintro e w5 ⟨hx5, ⟨_, rfl⟩ | ⟨hok, _⟩⟩
    · have X5 : Hid (Ext w w5) := Ext.trans X4.out hx5
      clear hx5 X4 HQ
      generalize (hvF n L).2 = q
      go_wp2
      go_ret
      exact ⟨rfl, X5.out⟩
    · exact absurd (okH_of.2 hok) HQ.out
  · obtain ⟨m, hm⟩ := Int.eq_ofNat_of_zero_le (show 0 ≤ n by have := hok.n1; omega)
    subst hm
    have X4 : Hid (Ext w w4) := Ext.trans X3.out hx4
    have HO : Hid (OkH m L ∧ Ord L f) := ⟨hok, ho⟩
    obtain ⟨ss, hss⟩ : ∃ ss, spanH L = ss := ⟨_, rfl⟩
    have HXI : Hid (∀ x ∈ ss, ∃ i : Nat, i < len1 ∧ NK.Tk L i ∧ x = (i : Int)) := fun x hx => by
      rw [← hss] at hx
      obtain ⟨i, q1, q2, q3⟩ := mem_spanH.1 hx
      exact ⟨i, by rw [← H.out.2]; exact q1, q2, q3.symm⟩
    have hsl : ss.length ≤ 200 := by rw [← hss]; have := spanH_len L; have := hok.len; omega
    have HSS := Lib.hid hss
    rw [hss] at hr4 ⊢
    obtain ⟨hI4, _⟩ := IntsAt.of_own hr4
    have HI4 := Lib.hid hI4
    clear hr4 hrn4 hx4 X3 hok ho hI4 hss
    go_wp2_with fail
    refine (HWT.out w4 X4.out).mono ?_
    rintro e w5 ⟨hx5, ⟨hq, _⟩ | ⟨_, rfl⟩⟩
    · exact absurd (okH_of.2 HO.out.1) hq
    rw [HSS.out]
    have X5 : Hid (Ext w w5) := Ext.trans X4.out hx5
    have HI5 := Lib.hid (HI4.out.ext hx5)
    have hwb := wsum_in HO.out.1 ss fun x hx => by obtain ⟨i, _, _, e⟩ := HXI.out x hx; omega
    obtain ⟨sw, hsw⟩ : ∃ q, wsum L ss = q := ⟨_, rfl⟩
    rw [hsw] at hwb ⊢
    have HSW := Lib.hid hsw
    clear hx5 HWT HSP hsw HI4 X4
    go_wp2
    go_loopw [14] (fun v14 wr => ∃ k : Nat, k ≤ ss.length ∧ v14 = .int .i64 k ∧ Hid (Ext w5 wr)) (fun v14 _ => ss.length - (intOf v14).toNat)
    case atStart => exact ⟨0, Nat.zero_le _, rfl, Ext.refl _⟩
    case round =>
      as_aux_lemma =>
      obtain ⟨k, hk, rfl, HX⟩ := hrel
      by_cases c : k < ss.length
      · have hgx : ss[k]? = some ss[k] := List.getElem?_eq_getElem c
        obtain ⟨i, hi, hti, hxi⟩ := HXI.out _ (List.getElem_mem c)
        rw [hxi] at hgx
        rcases HI5.out.ext HX.out with h0 | ⟨gr, ofr, rfl, _, hcr⟩
        · rw [h0] at c; simp at c
        have r1 := hcr k _ hgx
        have hxw : Ext w wr := Ext.trans X5.out HX.out
        obtain ⟨bs, off, x, rfl, hbs, hx, p1, p2, p3⟩ := (H.out.1.ext hxw).at_ (i := i) (by rw [H.out.2]; exact hi)
        have hnd := span_nk HO.out.1 HO.out.2 (by rw [H.out.2]; exact hi) hti
        rw [ndH_at hx, wtH_at hx] at hnd
        have hxo := HO.out.1.ok x (List.mem_of_getElem? hx)
        have hle := le_edge (L := L) (i := i) (by rw [H.out.2]; exact hi)
        rw [ndH_at hx] at hle
        obtain ⟨⟨x1, x2⟩, x3⟩ := x
        simp only at p1 p2 p3 hxo hnd hle
        have HNX : Hid (∀ y q, NeckX m L x1 x2 y q → y = x3 ∧ q = 0) := fun y q hy => by
          cases hy with
          | bad h => exact absurd (okH_of.2 HO.out.1) h
          | range _ k => exact absurd ⟨⟨by omega, by omega⟩, by omega, by omega⟩ k
          | self _ _ e => omega
          | none _ _ _ c => exact absurd hle c
          | some _ _ _ _ c => exact ⟨c.uniq hnd, rfl⟩
        have hkz : (k : Int) < (ss.length : Int) := by omega
        have hkg : (0 : Int) ≤ (k : Int) := by omega
        have hiz : (i : Int) < (len1 : Int) := by omega
        have hig : (0 : Int) ≤ (i : Int) := by omega
        clear hgx hcr hx hxo hxi hnd hle hti
        go_wp2_with fail
        obtain ⟨wa, hwa⟩ : ∃ wa, wr.alloc (.cells #[.int .i64 x1, .int .i64 x2, .int .i64 x3] 30) = wa := ⟨_, rfl⟩
        have hBa : Blk wa wr.heap.size 30 #[.int .i64 x1, .int .i64 x2, .int .i64 x3] := by subst hwa; exact Blk.new _ _ _
        have hXa : Ext wr wa := by subst hwa; exact Ext.alloc _ _
        rw [hwa]
        clear hwa
        refine (HNK.out wa (Ext.trans hxw hXa) x1 x2).mono ?_
        rintro e w6 ⟨y, q, rfl, hy, hx6⟩
        obtain ⟨rfl, rfl⟩ := HNX.out _ _ hy
        have c6 : w6.cell? ⟨wr.heap.size, 2, none⟩ = some (.int .i64 y) := (hBa.chg (Chg.of_below hx6) (by have := hBa.lt; omega)).cell 2
        have HX6 : Hid (Ext w5 w6) := Ext.trans HX.out (Ext.trans hXa hx6)
        clear hy hx6 hBa hXa hxw HNX HX
        rw [show errH 0 = .nilIface from rfl]
        go_wp2
        go_roundw
        case rel => exact ⟨k + 1, by omega, by go_num, HX6.out⟩
        case measure => simp [intOf]; omega
      · obtain rfl : k = ss.length := by omega
        have hkz : ¬ (ss.length : Int) < (ss.length : Int) := by omega
        have hm2 : 1 ≤ m ∧ m ≤ 60 := by have := HO.out.1.n1; have := HO.out.1.n2; omega
        go_wp2_with fail
        refine (tnew_ok wr m hm2).mono ?_
        rintro e w9 ⟨F, rfl, hF, hx9, hf1, hf2⟩
        obtain ⟨fb, hfb⟩ : ∃ fb, F.fb = fb := ⟨_, rfl⟩
        rw [hfb]
        have hxw9 : Ext w5 w9 := Ext.trans HX.out hx9
        have hz5 := HX.out.size
        have HVV : Hid (HvAt w5 a1 L ∧ IntsAt w5 a2 xs ∧ Ext w w5) := ⟨H.out.1.ext X5.out, HI.out.1.ext X5.out, X5.out⟩
        have HM0 : Hid (LsM w5 w9 fb m len2 L [] 0) := ⟨F, [], m, hF, hfb, by simp, ⟨by omega, fun k hk => by have := hf2 k hk; omega⟩, LsS.start L, fun j _ q => by omega, hxw9⟩
        have HLL : Hid (L.length = len1 ∧ xs.length = len2 ∧ Ext w w5) := ⟨H.out.2, HI.out.2, X5.out⟩
        have hlen1 : len1 ≤ 200 := by have := HO.out.1.len; have := H.out.2; omega
        have r0 : IntKind.i64.wrap ((len2 : Int) + (len1 : Int)) = ((len2 + len1 : Nat) : Int) := (IntWalk.i64_in _ (by omega)).trans (by omega)
        clear hF hx9 hf1 hf2 hfb hxw9 hz5 H HI HX HNK X5 HI5 HXI
        go_wp2
        go_loopw [19, 20, 21] (fun v19 v20 v21 wr => ∃ (i : Nat) (ks : List Int), i ≤ len2 + len1 ∧ v19 = .int .i64 (wsum L ks) ∧ v20 = .int .i64 (ks.length : Nat) ∧ v21 = .int .i64 i ∧ Hid (LsM w5 wr fb m len2 L ks i)) (fun _ _ v21 _ => len2 + len1 - (intOf v21).toNat)
        case atStart => exact ⟨0, [], Nat.zero_le _, rfl, rfl, rfl, HM0.out⟩
        case round =>
          as_aux_lemma =>
          obtain ⟨i, ks, hi, rfl, rfl, rfl, HM⟩ := hrel
          clear HM0
          by_cases c : i < len2 + len1
          · have hcz : (i : Int) < ((len2 + len1 : Nat) : Int) := by omega
            have hk0 : IntKind.i64.wrap ((i : Int) - (len2 : Int)) = (i : Int) - (len2 : Int) := IntWalk.i64_in _ (by omega)
            have hig : (0 : Int) ≤ (i : Int) := by omega
            by_cases c2 : i < len2
            · have hc2 : (i : Int) < (len2 : Int) := by omega
              obtain ⟨z, hz⟩ : ∃ z, xs[i]? = some z := ⟨_, List.getElem?_eq_getElem (by rw [HLL.out.2.1]; exact c2)⟩
              rcases HVV.out.2.1 with h0 | ⟨bp, op, hA2, _, hcp⟩
              · rw [h0] at hz; simp at hz
              subst hA2
              have HZC : Hid (∀ W, Ext w5 W → W.cell? ⟨bp, op + i, none⟩ = some (.int .i64 z)) := fun W hW => by
                rcases HVV.out.2.1.ext hW with h0 | ⟨bp', op', hA', _, hcp'⟩
                · rw [h0] at hz; simp at hz
                · simp only [Option.some.injEq, Addr.mk.injEq, and_true] at hA'
                  obtain ⟨rfl, rfl⟩ := hA'
                  exact hcp' i z hz
              have zc := HZC.out wr (by obtain ⟨F, E, N, hLA⟩ := HM.out; exact hLA.ex)
              clear hz hcp HZC
              by_cases cz1 : z < 0
              · have g1 : decide (z < 0) = true := decide_eq_true cz1
                have Q1 : Hid (LsM w5 wr fb m len2 L ks (i + 1)) := by
                  obtain ⟨F, E, N, hLA⟩ := HM.out
                  exact ⟨F, E, N, hLA.skip (.inl c2)⟩
                clear HM
                go_wp2
                go_roundw
                case rel => exact ⟨i + 1, ks, by omega, rfl, rfl, by go_num, Q1.out⟩
                case measure => simp [intOf]; omega
              by_cases cz2 : (len1 : Int) ≤ z
              · have g1 : decide (z < 0) = false := decide_eq_false cz1
                have g2 : decide ((len1 : Int) ≤ z) = true := decide_eq_true cz2
                have Q1 : Hid (LsM w5 wr fb m len2 L ks (i + 1)) := by
                  obtain ⟨F, E, N, hLA⟩ := HM.out
                  exact ⟨F, E, N, hLA.skip (.inl c2)⟩
                clear HM
                go_wp2
                go_roundw
                case rel => exact ⟨i + 1, ks, by omega, rfl, rfl, by go_num, Q1.out⟩
                case measure => simp [intOf]; omega
              obtain ⟨j, rfl⟩ := Int.eq_ofNat_of_zero_le (show 0 ≤ z by omega)
              have hj : j < len1 := by omega
              clear cz1 cz2
              obtain ⟨bs, off, x, hA, hbs, hx, _⟩ := HVV.out.1.at_ (i := j) (by rw [HLL.out.1]; exact hj)
              have hxo := HO.out.1.ok x (List.mem_of_getElem? hx)
              obtain ⟨⟨x1, x2⟩, x3⟩ := x
              simp only at hxo
              obtain ⟨a, rfl⟩ := Int.eq_ofNat_of_zero_le hxo.1
              obtain ⟨b, rfl⟩ := Int.eq_ofNat_of_zero_le (show 0 ≤ x2 by omega)
              have ha : a < m := by omega
              have hb : b < m := by omega
              have HND : Hid (ndH L (j : Int) = (a, b)) := by rw [Hid, ndH_at hx]; simp
              have HWJ : Hid (wtH L (j : Int) = x3) := wtH_at hx
              subst hA
              have HC : Hid (∀ W, Ext w5 W → Ext w5 W ∧ W.cell? ⟨bs, off + j * 3, none⟩ = some (.int .i64 (a : Nat)) ∧ W.cell? ⟨bs, off + j * 3 + 1, none⟩ = some (.int .i64 (b : Nat))) := fun W hW => ⟨hW, ((HVV.out.1.ext hW).here hx).2.1, ((HVV.out.1.ext hW).here hx).2.2.1⟩
              have HC3 : Hid (∀ W, Ext w5 W → W.cell? ⟨bs, off + j * 3 + 2, none⟩ = some (.int .i64 x3)) := fun W hW => ((HVV.out.1.ext hW).here hx).2.2.2
              obtain ⟨F, E, N, hLA⟩ := HM.out
              have HLA := Lib.hid hLA
              have hE0 : Ext w5 wr := hLA.ex
              have hfew := hLA.st.few HO.out.1
              have hwb2 := wsum_in HO.out.1 ks fun y hy => by obtain ⟨q, _, e⟩ := hLA.st.inn y hy; omega
              obtain ⟨sm, hsm⟩ : ∃ q, wsum L ks = q := ⟨_, rfl⟩
              have HSM := Lib.hid hsm
              rw [hsm] at hwb2 ⊢
              have rsum : IntKind.i64.wrap (sm + x3) = sm + x3 := IntWalk.i64_in _ (by omega)
              have hjg : (0 : Int) ≤ (j : Int) := by omega
              have hjz : (j : Int) < (len1 : Int) := by omega
              have g1 : decide ((j : Int) < 0) = false := decide_eq_false (by omega)
              have g2 : decide (len1 ≤ j) = false := decide_eq_false (by omega)
              by_cases cn : Cn (adj E) a b
              · have HLN : Hid (∀ W, Ext wr W → Calls Try.prog 10 #[.pointer (some ⟨fb, 0, none⟩), .int .i64 a, .int .i64 b] W fun e w' => e = .returned (errV 6) ∧ LsM w5 w' fb m len2 L ks (i + 1) ∧ Ext w5 w') := fun W hW => by
                  have := tlink_clash (hLA.fo.ext hW) a b ha hb cn
                  rw [hLA.fb] at this
                  refine this.mono ?_
                  rintro e w' ⟨rfl, hx'⟩
                  exact ⟨rfl, ⟨F, E, N, hLA.clash (by rw [HLL.out.1]; exact hj) HND.out cn (.inl c2) (Ext.trans hW hx')⟩, Ext.trans hE0 (Ext.trans hW hx')⟩
                clear hx hxo hLA HLA hwb2 hsm HM cn hfew
                go_wp2_with fail
                go_region_held3 (fun W => Ext w5 W ∧ W.cell? ⟨bs, off + j * 3, none⟩ = some (.int .i64 (a : Nat)) ∧ W.cell? ⟨bs, off + j * 3 + 1, none⟩ = some (.int .i64 (b : Nat)))
                  (exact HC.out _ (by first | assumption | exact Ext.trans hE0 (Ext.drew _) | exact fstH (by assumption) | exact Ext.trans (fstH (by assumption)) (by assumption)))
                  (first
                    | (go_at_call 10; refine (HLN.out _ (Ext.drew _)).mono ?_; rintro e w11 ⟨rfl, q1, hF11⟩; have Q1 := Lib.hid q1; clear q1)
                    | fail)
                rename_i hHeld
                clear hHeld HLN HC HC3 hE0 hF11
                go_wp2
                go_roundw
                case rel => exact ⟨i + 1, ks, by omega, by rw [HSM.out], rfl, by go_num, Q1.out⟩
                case measure => simp [intOf]; omega
              · have HLN : Hid (∀ W, Ext wr W → Calls Try.prog 10 #[.pointer (some ⟨fb, 0, none⟩), .int .i64 a, .int .i64 b] W fun e w' => e = .returned .nilIface ∧ LsM w5 w' fb m len2 L ((j : Int) :: ks) (i + 1) ∧ Ext w5 w') := fun W hW => by
                  have hn := hLA.nn
                  have := tlink_ok (hLA.fo.ext hW) (by omega) a b ha hb cn
                  rw [hLA.fb] at this
                  refine this.mono ?_
                  rintro e w' ⟨rfl, q1, q2⟩
                  have q3 : LsA w5 w' fb m len2 L ((j : Int) :: ks) (i + 1) F _ (N + 1) := hLA.linked (by rw [HLL.out.1]; exact hj) HND.out cn (.inl c2) q1 (by
                    have := (Chg.new hW F.S).trans q2 (fun k _ hk => hk)
                    exact this)
                  exact ⟨rfl, ⟨F, _, _, q3⟩, q3.ex⟩
                have HSM2 : Hid (wsum L ((j : Int) :: ks) = sm + x3) := by
                  have : wsum L ((j : Int) :: ks) = wtH L (j : Int) + wsum L ks := by unfold wsum; simp
                  rw [Hid, this, HWJ.out, HSM.out]; omega
                have rcnt : IntKind.i64.wrap ((ks.length : Int) + 1) = (ks.length : Int) + 1 := IntWalk.i64_in _ (by omega)
                clear hx hxo hLA HLA hwb2 hsm HM cn hfew
                go_wp2_with fail
                go_region_held3 (fun W => Ext w5 W ∧ W.cell? ⟨bs, off + j * 3, none⟩ = some (.int .i64 (a : Nat)) ∧ W.cell? ⟨bs, off + j * 3 + 1, none⟩ = some (.int .i64 (b : Nat)))
                  (exact HC.out _ (by first | assumption | exact Ext.trans hE0 (Ext.drew _) | exact fstH (by assumption) | exact Ext.trans (fstH (by assumption)) (by assumption)))
                  (first
                    | (go_at_call 10; refine (HLN.out _ (Ext.drew _)).mono ?_; rintro e w11 ⟨rfl, q1, hF11⟩; have Q1 := Lib.hid q1; clear q1)
                    | fail)
                rename_i hHeld
                have k3 := HC3.out _ hF11
                clear hHeld HLN HC HC3 hE0 hF11
                go_wp2
                go_roundw
                case rel => exact ⟨i + 1, (j : Int) :: ks, by omega, by rw [HSM2.out], by rw [List.length_cons]; go_num, by go_num, Q1.out⟩
                case measure => simp [intOf]; omega
            · have hc2 : ¬ (i : Int) < (len2 : Int) := by omega
              obtain ⟨j, hj0⟩ : ∃ j, i = len2 + j := ⟨i - len2, by omega⟩
              have hj : j < len1 := by omega
              have hk1 : (i : Int) - (len2 : Int) = (j : Int) := by omega
              have hk2 : i - len2 = j := by omega
              rw [hk1] at hk0
              have HJ0 := Lib.hid hj0
              clear hj0
              obtain ⟨bs, off, x, hA, hbs, hx, _⟩ := HVV.out.1.at_ (i := j) (by rw [HLL.out.1]; exact hj)
              have hxo := HO.out.1.ok x (List.mem_of_getElem? hx)
              obtain ⟨⟨x1, x2⟩, x3⟩ := x
              simp only at hxo
              obtain ⟨a, rfl⟩ := Int.eq_ofNat_of_zero_le hxo.1
              obtain ⟨b, rfl⟩ := Int.eq_ofNat_of_zero_le (show 0 ≤ x2 by omega)
              have ha : a < m := by omega
              have hb : b < m := by omega
              have HND : Hid (ndH L (j : Int) = (a, b)) := by rw [Hid, ndH_at hx]; simp
              have HWJ : Hid (wtH L (j : Int) = x3) := wtH_at hx
              subst hA
              have HC : Hid (∀ W, Ext w5 W → Ext w5 W ∧ W.cell? ⟨bs, off + j * 3, none⟩ = some (.int .i64 (a : Nat)) ∧ W.cell? ⟨bs, off + j * 3 + 1, none⟩ = some (.int .i64 (b : Nat))) := fun W hW => ⟨hW, ((HVV.out.1.ext hW).here hx).2.1, ((HVV.out.1.ext hW).here hx).2.2.1⟩
              have HC3 : Hid (∀ W, Ext w5 W → W.cell? ⟨bs, off + j * 3 + 2, none⟩ = some (.int .i64 x3)) := fun W hW => ((HVV.out.1.ext hW).here hx).2.2.2
              obtain ⟨F, E, N, hLA⟩ := HM.out
              have HLA := Lib.hid hLA
              have hE0 : Ext w5 wr := hLA.ex
              have hfew := hLA.st.few HO.out.1
              have hwb2 := wsum_in HO.out.1 ks fun y hy => by obtain ⟨q, _, e⟩ := hLA.st.inn y hy; omega
              obtain ⟨sm, hsm⟩ : ∃ q, wsum L ks = q := ⟨_, rfl⟩
              have HSM := Lib.hid hsm
              rw [hsm] at hwb2 ⊢
              have rsum : IntKind.i64.wrap (sm + x3) = sm + x3 := IntWalk.i64_in _ (by omega)
              have hjg : (0 : Int) ≤ (j : Int) := by omega
              have hjz : (j : Int) < (len1 : Int) := by omega
              have g1 : decide ((j : Int) < 0) = false := decide_eq_false (by omega)
              have g2 : decide (len1 ≤ j) = false := decide_eq_false (by omega)
              by_cases cn : Cn (adj E) a b
              · have HLN : Hid (∀ W, Ext wr W → Calls Try.prog 10 #[.pointer (some ⟨fb, 0, none⟩), .int .i64 a, .int .i64 b] W fun e w' => e = .returned (errV 6) ∧ LsM w5 w' fb m len2 L ks (i + 1) ∧ Ext w5 w') := fun W hW => by
                  have := tlink_clash (hLA.fo.ext hW) a b ha hb cn
                  rw [hLA.fb] at this
                  refine this.mono ?_
                  rintro e w' ⟨rfl, hx'⟩
                  exact ⟨rfl, ⟨F, E, N, hLA.clash (by rw [HLL.out.1]; exact hj) HND.out cn (.inr (by have := HJ0.out; omega)) (Ext.trans hW hx')⟩, Ext.trans hE0 (Ext.trans hW hx')⟩
                clear hx hxo hLA HLA hwb2 hsm HM cn hfew
                go_wp2_with fail
                go_region_held3 (fun W => Ext w5 W ∧ W.cell? ⟨bs, off + j * 3, none⟩ = some (.int .i64 (a : Nat)) ∧ W.cell? ⟨bs, off + j * 3 + 1, none⟩ = some (.int .i64 (b : Nat)))
                  (exact HC.out _ (by first | assumption | exact Ext.trans hE0 (Ext.drew _) | exact fstH (by assumption) | exact Ext.trans (fstH (by assumption)) (by assumption)))
                  (first
                    | (go_at_call 10; refine (HLN.out _ (Ext.drew _)).mono ?_; rintro e w11 ⟨rfl, q1, hF11⟩; have Q1 := Lib.hid q1; clear q1)
                    | fail)
                rename_i hHeld
                clear hHeld HLN HC HC3 hE0 hF11
                go_wp2
                go_roundw
                case rel => exact ⟨i + 1, ks, by omega, by rw [HSM.out], rfl, by go_num, Q1.out⟩
                case measure => simp [intOf]; omega
              · have HLN : Hid (∀ W, Ext wr W → Calls Try.prog 10 #[.pointer (some ⟨fb, 0, none⟩), .int .i64 a, .int .i64 b] W fun e w' => e = .returned .nilIface ∧ LsM w5 w' fb m len2 L ((j : Int) :: ks) (i + 1) ∧ Ext w5 w') := fun W hW => by
                  have hn := hLA.nn
                  have := tlink_ok (hLA.fo.ext hW) (by omega) a b ha hb cn
                  rw [hLA.fb] at this
                  refine this.mono ?_
                  rintro e w' ⟨rfl, q1, q2⟩
                  have q3 : LsA w5 w' fb m len2 L ((j : Int) :: ks) (i + 1) F _ (N + 1) := hLA.linked (by rw [HLL.out.1]; exact hj) HND.out cn (.inr (by have := HJ0.out; omega)) q1 (by
                    have := (Chg.new hW F.S).trans q2 (fun k _ hk => hk)
                    exact this)
                  exact ⟨rfl, ⟨F, _, _, q3⟩, q3.ex⟩
                have HSM2 : Hid (wsum L ((j : Int) :: ks) = sm + x3) := by
                  have : wsum L ((j : Int) :: ks) = wtH L (j : Int) + wsum L ks := by unfold wsum; simp
                  rw [Hid, this, HWJ.out, HSM.out]; omega
                have rcnt : IntKind.i64.wrap ((ks.length : Int) + 1) = (ks.length : Int) + 1 := IntWalk.i64_in _ (by omega)
                clear hx hxo hLA HLA hwb2 hsm HM cn hfew
                go_wp2_with fail
                go_region_held3 (fun W => Ext w5 W ∧ W.cell? ⟨bs, off + j * 3, none⟩ = some (.int .i64 (a : Nat)) ∧ W.cell? ⟨bs, off + j * 3 + 1, none⟩ = some (.int .i64 (b : Nat)))
                  (exact HC.out _ (by first | assumption | exact Ext.trans hE0 (Ext.drew _) | exact fstH (by assumption) | exact Ext.trans (fstH (by assumption)) (by assumption)))
                  (first
                    | (go_at_call 10; refine (HLN.out _ (Ext.drew _)).mono ?_; rintro e w11 ⟨rfl, q1, hF11⟩; have Q1 := Lib.hid q1; clear q1)
                    | fail)
                rename_i hHeld
                have k3 := HC3.out _ hF11
                clear hHeld HLN HC HC3 hE0 hF11
                go_wp2
                go_roundw
                case rel => exact ⟨i + 1, (j : Int) :: ks, by omega, by rw [HSM2.out], by rw [List.length_cons]; go_num, by go_num, Q1.out⟩
                case measure => simp [intOf]; omega
          · obtain rfl : i = len2 + len1 := by omega
            have hcz : ¬ ((len2 + len1 : Nat) : Int) < ((len2 + len1 : Nat) : Int) := by omega
            obtain ⟨F, E, N, hLA⟩ := HM.out
            obtain ⟨e1, e2⟩ := least HO.out.1 HO.out.2 hLA.st.ind hLA.st.inn fun j hj => hLA.tr j hj (by rw [HLL.out.1] at hj; omega)
            have hfin : Hid (ks.length = ss.length ∧ sw ≤ wsum L ks ∧ Ext w wr) := by
              refine ⟨by rw [e1, HSS.out], ?_, Ext.trans HLL.out.2.2 hLA.ex⟩
              rw [← HSW.out, ← HSS.out]
              exact e2
            have g1 : (ks.length == ss.length) = true := by rw [beq_iff_eq]; exact hfin.out.1
            have g3 : ((ks.length : Int) == (ss.length : Int)) = true := by rw [beq_iff_eq, hfin.out.1]
            have HG2 : Hid (decide (sw ≤ wsum L ks) = true) := decide_eq_true hfin.out.2.1
            clear hLA e1 e2 HM
            generalize wsum L ks = sm at HG2 ⊢
            go_wp2
            go_ret
            exact ⟨ret_bool HG2.out, hfin.out.2.2⟩
end Go.Proofs.Ytckcbfnffmohgaa
