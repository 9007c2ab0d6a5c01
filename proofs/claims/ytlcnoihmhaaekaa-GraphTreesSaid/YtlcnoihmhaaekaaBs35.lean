/-
  Walk of graph's mend. Condition: the graph lies in memory as 'GrM' says.
-/
import Derived.Test.YtlcnoihmhaaekaaBs34
import Derived.Deep.DeepCutAuto
namespace Go.Proofs.Ytlcnoihmhaaekaa
open Go Go.RowKit SQ TR DF PD
set_option linter.unusedVariables false

section
variable {w : World} {G : GrP} {n N a b i : Nat} {A : List AK.Ed} {f : AK.Ed → GM.St}
set_option maxRecDepth 100000 in
set_option maxHeartbeats 8000000 in
theorem gmend_any (h : GrM w G n N A f (GM.lvl f A)) (hB : GM.BOk n G.Fs.length A f a b i) (hi : i < G.Fs.length) (hi4 : i ≤ 4) (h6 : G.Fs.length ≤ 6) (hnN : n ≤ N) (hN : N + 700 < 1000000) (ha : a < n) (hb : b < n) (hl : A.length ≤ 200) :
    Calls Try.prog 44 #[.pointer (some ⟨G.gb, 0, none⟩), .int .i64 i, .int .i64 a, .int .i64 b] w (MendPost w G n N A f a b i) := by
  have h60 := h.hn
  have H := Lib.hid h
  have HB := Lib.hid hB
  obtain ⟨F, hF⟩ := h.get hi
  have HF := Lib.hid hF
  obtain ⟨L, hL⟩ : ∃ L, G.Fs.length = L := ⟨_, rfl⟩
  have HL := Lib.hid hL
  have c2 : w.cell? ⟨G.gb, 2, none⟩ = some (.slice (some ⟨G.ob, 0, none⟩) L G.c) := by rw [← hL]; exact h.blk.cell 2
  have c3 := h.cellF hF
  have z1 : (0 : Int) ≤ (i : Int) := by omega
  have z2 : (i : Int) < (L : Int) := by omega
  have T1 := Lib.hid (tmembers_ok (h.fo i F hF) a ha)
  have TB : Hid (∀ W, Ext w W → Calls Try.prog 9 #[.pointer (some ⟨F.fb, 0, none⟩), .int .i64 b] W (MemPost W (comp n (GM.lvl f A i) b))) := fun W hW => tmembers_ok ((h.ext hW).fo i F hF) b hb
  obtain ⟨F0, hF0⟩ : ∃ F0, F.fb = F0 := ⟨_, rfl⟩
  rw [hF0] at c3 T1 TB
  rw [hL] at hi h6
  clear h hB hF hF0 hL
  have hmm := @run_makeMap Try.prog
  have hfd := runFieldS
  go_enter Try.func44, Try.ntmps44
  go_wp2_with fail
  refine T1.out.mono ?_
  intro e w1 hp
  obtain ⟨A1, k1, rfl, i1, x1, l1⟩ := hp.use
  have I1 := Lib.hid i1
  have X1 : Hid (Ext w w1) := x1
  clear hp i1 x1 T1
  go_wp2_with fail
  refine (TB.out _ X1.out).mono ?_
  intro e w2 hp
  obtain ⟨A2, k2, rfl, i2, x2, l2⟩ := hp.use
  have I2 := Lib.hid i2
  have I1' : Hid (IntsAt w2 A1 (comp n (GM.lvl f A i) a)) := I1.out.ext x2
  have X2 : Hid (Ext w w2) := X1.out.trans x2
  have la := gcomp_len n (GM.lvl f A i) a
  have lb := gcomp_len n (GM.lvl f A i) b
  clear hp i2 x2 X1 I1 TB c2 c3 z2
  obtain ⟨la', hla⟩ : ∃ m, (comp n (GM.lvl f A i) a).length = m := ⟨_, rfl⟩
  obtain ⟨lb', hlb⟩ : ∃ m, (comp n (GM.lvl f A i) b).length = m := ⟨_, rfl⟩
  have HLA := Lib.hid hla
  have HLB := Lib.hid hlb
  rw [hla] at l1 la ⊢
  rw [hlb] at l2 lb ⊢
  clear hla hlb
  go_upto_if 55 with fail
  go_cut [11] (fun s11 wx => ∃ (c d lc : Nat) (Ax : Option Addr) (cx : Nat), s11 = .slice Ax lc cx ∧ lc ≤ 60 ∧ Hid (Pick2 a b c d ∧ (comp n (GM.lvl f A i) c).length ≤ (comp n (GM.lvl f A i) d).length ∧ (comp n (GM.lvl f A i) c).length = lc ∧ IntsAt wx Ax (comp n (GM.lvl f A i) c) ∧ Ext w wx))
  case first =>
    by_cases q : (lb' : Int) < (la' : Int)
    · have HR : Hid (Pick2 a b b a ∧ (comp n (GM.lvl f A i) b).length ≤ (comp n (GM.lvl f A i) a).length ∧ (comp n (GM.lvl f A i) b).length = lb' ∧ IntsAt w2 A2 (comp n (GM.lvl f A i) b) ∧ Ext w w2) :=
        ⟨.inr ⟨rfl, rfl⟩, by rw [HLA.out, HLB.out]; omega, HLB.out, I2.out, X2.out⟩
      go_wp2
      go_meet
      exact ⟨b, a, lb', A2, k2, rfl, by omega, HR.out⟩
    · have HR : Hid (Pick2 a b a b ∧ (comp n (GM.lvl f A i) a).length ≤ (comp n (GM.lvl f A i) b).length ∧ (comp n (GM.lvl f A i) a).length = la' ∧ IntsAt w2 A1 (comp n (GM.lvl f A i) a) ∧ Ext w w2) :=
        ⟨.inl ⟨rfl, rfl⟩, by rw [HLA.out, HLB.out]; omega, HLA.out, I1'.out, X2.out⟩
      go_wp2
      go_meet
      exact ⟨a, b, la', A1, k1, rfl, by omega, HR.out⟩
  case rest =>
    obtain ⟨c, d, lc, Ax, cx, rfl, hlc, HC⟩ := hcut
    have HMD : Hid (MdC n L A f a b i (comp n (GM.lvl f A i) c)) := mdC_of (by rw [← HL.out]; exact HB.out) HC.out.1 ha hb HC.out.2.1
    have HXR : Hid (∀ z ∈ comp n (GM.lvl f A i) c, 0 ≤ z ∧ z < n) := fun z hz => by
      obtain ⟨u, u1, _, rfl⟩ := comp_mem.1 hz
      omega
    obtain ⟨X, hX⟩ : ∃ X, X = comp n (GM.lvl f A i) c := ⟨_, rfl⟩
    rw [← hX] at HC HMD HXR
    have IX : Hid (X.length = lc ∧ IntsAt wc Ax X) := ⟨HC.out.2.2.1, HC.out.2.2.2.1⟩
    have XC : Hid (Ext w wc) := HC.out.2.2.2.2
    clear hX HC HB HLA HLB l1 l2 la lb I2 I1' X2
    have MM : Hid (InAt (wc.alloc (.map #[] 0)) wc.heap.size []) := InAt.made wc
    obtain ⟨mb, hmb⟩ : ∃ m, wc.heap.size = m := ⟨_, rfl⟩
    have HMB := Lib.hid hmb
    rw [hmb] at MM
    go_wp2
    clear hmb
    go_loopw [60] (fun v60 wr => ∃ k : Nat, k ≤ lc ∧ v60 = .int .i64 k ∧ Hid (InAt wr mb (X.take k) ∧ Ext wc wr)) (fun v60 _ => lc - (intOf v60).toNat)
    case atStart => exact ⟨0, Nat.zero_le _, rfl, MM.out, Ext.alloc _ _⟩
    case round =>
      obtain ⟨k, hk, rfl, HR⟩ := hrel
      clear MM
      by_cases hlt : k < lc
      · obtain ⟨b1, o1, hA, hc1⟩ := gints_at (IX.out.2.ext HR.out.2) (show k < X.length by rw [IX.out.1]; exact hlt)
        subst hA
        have hmem : X.getD k 0 ∈ X := by
          have hkl : k < X.length := by rw [IX.out.1]; exact hlt
          simp [List.getD, List.getElem?_eq_getElem hkl]
        have hz := HXR.out _ hmem
        have hts : X.take (k + 1) = X.take k ++ [X.getD k 0] := by
          have hkl : k < X.length := by rw [IX.out.1]; exact hlt
          rw [List.take_succ_eq_append_getElem hkl]; simp [List.getD, List.getElem?_eq_getElem hkl]
        obtain ⟨W2, hr, hin, hch⟩ := HR.out.1.put (by have := List.length_take_le k X; omega) (X.getD k 0) (okI_of (by omega))
        rw [← hts] at hin
        have HN : Hid (InAt W2 mb (X.take (k + 1)) ∧ Ext wc W2) := ⟨hin, HR.out.2.chg_new hch (fun j hj => by have := HMB.out; omega)⟩
        have z3 : (k : Int) < (lc : Int) := by omega
        have z4 : (0 : Int) ≤ (k : Int) := by omega
        clear hin hch hts hmem hz HR
        generalize X.getD k 0 = z at hc1 hr ⊢
        go_wp2
        go_roundw
        case rel => exact ⟨k + 1, by omega, by go_num, HN⟩
        case measure => simp [intOf]; omega
      · obtain rfl : k = lc := by omega
        have M3 : Hid (InAt wr mb X ∧ Ext wc wr) := ⟨by have := HR.out.1; rwa [List.take_of_length_le (by rw [IX.out.1]; exact Nat.le_refl _)] at this, HR.out.2⟩
        clear HR hlt
        have H3 : Hid (GrM wr G n N A f (GM.lvl f A)) := H.out.ext (XC.out.trans M3.out.2)
        have HFOR : Hid (Calls Try.prog 64 #[.pointer (some ⟨G.gb, 0, none⟩), .int .i64 ((i : Int) + 1)] wr (ForPost wr G n N A f (GM.lvl f A) (i + 1))) := gforest_any H3.out hnN (i + 1) (by rw [HL.out]; omega) (by rw [HL.out]; omega)
        go_wp2_with fail
        refine HFOR.out.mono ?_
        rintro e w4 ⟨G', Fa, rfl, hfa, hg4, hgc4, hl4, hl4', hl4''⟩
        clear HFOR
        have X4 : Hid (Ext w wr) := XC.out.trans M3.out.2
        have GC4 : Hid (GrC w w4 G G') := GrC.pre X4.out hgc4
        have NM : Hid (¬ G'.S mb) := fun hs => by
          rcases hgc4.s _ hs with q | q
          · have h9 := H.out.lt _ q; have := HMB.out; have := XC.out.size; omega
          · have := M3.out.1.lt; omega
        obtain ⟨L', hL'⟩ : ∃ L', G'.Fs.length = L' := ⟨_, rfl⟩
        have HL' : Hid (G'.Fs.length = L' ∧ L ≤ L' ∧ L' ≤ 6 ∧ i + 1 < L' ∧ G.Fs.length ≤ G'.Fs.length) := by
          have h1 := (List.getElem?_eq_some_iff.1 hfa).1
          have h2 := HL.out
          exact ⟨hL', by omega, by omega, by omega, by omega⟩
        have MD : Hid (MdC n L' A f a b i X) := HMD.out.mono HL'.out.2.1
        have H4 : Hid (GrM w4 G' n N A f (GM.lvl f A)) := hg4.congr fun j hj => by
          by_cases q : j < G.Fs.length
          · rw [if_pos q]
          · rw [if_neg q]
            have : GM.lvl f A j = [] := by
              unfold GM.lvl
              rw [List.filter_eq_nil_iff]
              intro x hx
              have := HMD.out.bok.top x hx
              have := HL.out
              simp; intro _; omega
            exact this
        have HFA := Lib.hid hfa
        have M4 : Hid (InAt w4 mb X) := M3.out.1.chg hgc4.chg (fun e => by have h9 := H.out.lt _ e; have := HMB.out; have := XC.out.size; omega)
        have hok : ∀ x ∈ A, 0 ≤ x.1 ∧ x.1 < x.2 ∧ x.2 < (n : Int) := MD.out.bok.ok
        have HT := Lib.hid (gtree_any H4.out hok MD.out.bok.up hl)
        have HGB : Hid (G'.gb = G.gb) := GC4.out.gb
        rw [HGB.out] at HT
        obtain ⟨Fb, hFb⟩ : ∃ Fb, Fa.fb = Fb := ⟨_, rfl⟩
        have HFB := Lib.hid hFb
        rw [hFb]
        clear hfa hg4 hgc4 hl4 hl4' hl4'' hL' H3 M3 hok HMD hFb HL H HF X4
        go_wp2_with fail
        refine HT.out.mono ?_
        intro e w5 hp
        obtain ⟨A5, k5, rfl, e5, x5, l5, n5⟩ := hp.use
        have E5 := Lib.hid e5
        have H5 := Lib.hid (H4.out.ext x5)
        have M5 := Lib.hid (M4.out.ext x5)
        have GC5 := Lib.hid (GC4.out.ext x5)
        have N5 : Hid (∀ x, A5 = some x → ¬ G'.S x.block) := fun x hx hs => by have := n5 x hx; have := H4.out.lt _ hs; omega
        obtain ⟨T, hT⟩ : ∃ T, T = GM.lvl f A 0 := ⟨_, rfl⟩
        rw [← hT] at E5 l5 ⊢
        have HTT : Hid (T = GM.lvl f A 0 ∧ T.length ≤ 200) := ⟨hT, by rw [hT]; exact Nat.le_trans (List.length_filter_le _ _) hl⟩
        clear hp e5 x5 n5 hT HT H4 M4 GC4
        have HUP : Hid (A.Pairwise ltE) := MD.out.bok.up
        have HOK : Hid (∀ x ∈ A, 0 ≤ x.1 ∧ x.1 < x.2 ∧ x.2 < (n : Int)) := MD.out.bok.ok
        have HBASE : Hid (GM.Base n L' A f) := MD.out.bok.toBase
        have hwi : IntKind.i64.wrap ((i : Int) + 1) = (i : Int) + 1 := IntWalk.i64_in _ (by omega)
        obtain ⟨tl, htl⟩ : ∃ m, T.length = m := ⟨_, rfl⟩
        have HTL : Hid (T.length = tl ∧ tl ≤ 200) := ⟨htl, by rw [← htl]; exact HTT.out.2⟩
        have htl2 : tl ≤ 200 := HTL.out.2
        rw [htl] at l5 ⊢
        clear htl
        go_wp2
        go_loopw [80] (fun v80 wr => ∃ k : Nat, k ≤ tl ∧ v80 = .int .i64 k ∧ Hid (Up1 w5 wr G' n (N + 2 * k) A f i X (T.take k))) (fun v80 _ => tl - (intOf v80).toNat)
        case atStart => exact ⟨0, Nat.zero_le _, rfl, Up1.start H5.out⟩
        case round =>
          obtain ⟨k2, hk2, rfl, HR⟩ := hrel
          clear H5
          by_cases hlt2 : k2 < tl
          · obtain ⟨b1, o1, x, hA, hxk, d0, d1⟩ := geds_at (E5.out.chg HR.out.2 (fun _ x hx => N5.out x hx)) (show k2 < T.length by rw [HTL.out.1]; exact hlt2)
            subst hA
            have hxT : x ∈ GM.lvl f A 0 := by rw [← HTT.out.1]; exact List.mem_of_getElem? hxk
            obtain ⟨hxA, hxtr, _⟩ := GM.lvl_mem.1 hxT
            obtain ⟨u, v, huv, hvn, rfl, hek⟩ := GM.ek_form (HOK.out x hxA)
            simp only at d0 d1
            have hts : T.take (k2 + 1) = T.take k2 ++ [((u : Int), (v : Int))] := by
              have hkl := (List.getElem?_eq_some_iff.1 hxk)
              rw [List.take_succ_eq_append_getElem hkl.1, hkl.2]
            have hxL : ((u : Int), (v : Int)) ∉ T.take k2 := fun hm => by
              obtain ⟨j, hj⟩ := List.mem_iff_getElem?.1 hm
              have hj1 := (List.getElem?_eq_some_iff.1 hj).1
              simp at hj1
              rw [List.getElem?_take_of_lt (by omega)] at hj
              have := GM.idx_inj (A := T) (by rw [HTT.out.1]; exact HUP.out.filter _) hj hxk
              omega
            have hLtr : ∀ y ∈ T.take k2, (f y).tr = true := fun y hy => by
              have := List.mem_of_mem_take hy
              rw [HTT.out.1] at this
              exact (GM.lvl_mem.1 this).2.1
            obtain ⟨s, hs⟩ : ∃ s, f ((u : Int), (v : Int)) = s := ⟨_, rfl⟩
            have HX : Hid ((f ((u : Int), (v : Int))) = s ∧ s.tr = true ∧ ((u : Int), (v : Int)) ∈ A ∧ T.take (k2 + 1) = T.take k2 ++ [((u : Int), (v : Int))] ∧ ((u : Int), (v : Int)) ∉ T.take k2 ∧ AK.ek u v = ((u : Int), (v : Int)) ∧ u < v ∧ v < n) := ⟨hs, by rw [← hs]; exact hxtr, hxA, hts, hxL, hek, huv, hvn⟩
            have HLT := Lib.hid hLtr
            have Hr := Lib.hid HR.out.1
            have H6 : Hid (GrM (wr.alloc (.cells #[.int .i64 (u : Nat), .int .i64 (v : Nat)] 38)) G' n (N + 2 * k2) A (GM.upL f i (inS X) (T.take k2)) (GM.lvl (GM.upL f i (inS X) (T.take k2)) A)) := Hr.out.ext (Ext.alloc _ _)
            have B6 : Hid (Blk (wr.alloc (.cells #[.int .i64 (u : Nat), .int .i64 (v : Nat)] 38)) wr.heap.size 38 #[.int .i64 (u : Nat), .int .i64 (v : Nat)]) := Blk.new wr _ _
            have M6 : Hid (InAt (wr.alloc (.cells #[.int .i64 (u : Nat), .int .i64 (v : Nat)] 38)) mb X) := (M5.out.chg HR.out.2 NM.out).ext (Ext.alloc _ _)
            have X6 : Hid (Ext wr (wr.alloc (.cells #[.int .i64 (u : Nat), .int .i64 (v : Nat)] 38))) := Ext.alloc _ _
            have z5 : (k2 : Int) < (tl : Int) := by omega
            have z6 : (0 : Int) ≤ (k2 : Int) := by omega
            have HBlt : Hid (∀ k, G'.S k → k ≠ wr.heap.size) := fun k hk => by have := Hr.out.lt k hk; omega
            clear hxT hxA hxtr hek hts hxL hLtr hs
            go_wp2
            generalize wr.heap.size = B at B6 HBlt ⊢
            generalize wr.alloc (.cells #[.int .i64 (u : Nat), .int .i64 (v : Nat)] 38) = w6 at H6 B6 M6 X6 ⊢
            have c1 : w6.cell? ⟨G.gb, 1, none⟩ = some (.map (some G'.eb)) := by rw [← HGB.out]; exact H6.out.blk.cell 1
            have y0 : w6.cell? ⟨B, 0, none⟩ = some (.int .i64 (u : Nat)) := B6.out.cell 0
            have y1 : w6.cell? ⟨B, 1, none⟩ = some (.int .i64 (v : Nat)) := B6.out.cell 1
            have lk : ∀ m, (Instr.lookup 82 (.map (some G'.eb)) (.agg #[.int .i64 (u : Nat), .int .i64 (v : Nat)]) false).run Try.prog (w6.drewN m) = .ok (.agg #[.int .i64 s.lv, .bool s.tr]) (w6.drewN m) := fun m =>
              (H6.out.ext (Ext.drewN _ _)).look ((u : Int), (v : Int)) (okE_of (by simp only; omega) (by simp only; omega)) (by rw [if_pos HX.out.2.2.1, GM.upL_out HX.out.2.2.2.2.1, HX.out.1]; rfl)
            obtain ⟨su, hsu⟩ : ∃ su : Int, su = if (u : Int) ∈ X then 1 else 0 := ⟨_, rfl⟩
            obtain ⟨sv, hsv⟩ : ∃ sv : Int, sv = if (v : Int) ∈ X then 1 else 0 := ⟨_, rfl⟩
            have lu : ∀ m, (Instr.lookup 116 (.map (some mb)) (.int .i64 (u : Nat)) false).run Try.prog (w6.drewN m) = .ok (.int .i64 su) (w6.drewN m) := fun m => (M6.out.ext (Ext.drewN _ _)).look (u : Int) (okI_of (by omega)) hsu
            have lv : ∀ m, (Instr.lookup 116 (.map (some mb)) (.int .i64 (v : Nat)) false).run Try.prog (w6.drewN m) = .ok (.int .i64 sv) (w6.drewN m) := fun m => (M6.out.ext (Ext.drewN _ _)).look (v : Int) (okI_of (by omega)) hsv
            have HSU : Hid (su = 1 ↔ inS X u = true) := by
              show su = 1 ↔ _
              rw [inS_of, hsu]
              by_cases q : (u : Int) ∈ X <;> simp [q]
            have HSV : Hid (sv = 1 ↔ inS X v = true) := by
              show sv = 1 ↔ _
              rw [inS_of, hsv]
              by_cases q : (v : Int) ∈ X <;> simp [q]
            clear hsu hsv d0 d1 M6
            by_cases q : s.lv = i ∧ su = 1 ∧ sv = 1
            · obtain ⟨q1, q2, q3⟩ := q
              subst q2 q3
              have HQ : Hid ((f ((u : Int), (v : Int))).lv = i ∧ inS X u = true ∧ inS X v = true) := ⟨by rw [HX.out.1]; exact q1, HSU.out.1 rfl, HSV.out.1 rfl⟩
              have e1 : ((s.lv : Int) == (i : Int)) = true := by rw [beq_iff_eq]; omega
              clear q1
              have HNO : Hid (¬ Cn (adj (GM.lvl (GM.upL f i (inS X) (T.take k2)) A (i + 1))) u v) :=
                GM.up_no HBASE.out HLT.out (by have := HX.out.2.2.2.2.2.2; omega) (by rw [HX.out.2.2.2.2.2.1]; exact GM.lvl_mem.2 ⟨HX.out.2.2.1, by rw [HX.out.1]; exact HX.out.2.1, Nat.zero_le _⟩) (by rw [HX.out.2.2.2.2.2.1]; exact HX.out.2.2.2.2.1) (by rw [HX.out.2.2.2.2.2.1]; exact HQ.out.1)
              go_quiet (fail)
              clear lk lu lv
              have H7 : Hid (GrM (w6.drewN nq) G' n (N + 2 * k2) A (GM.upL f i (inS X) (T.take k2)) (GM.lvl (GM.upL f i (inS X) (T.take k2)) A)) := H6.out.ext (Ext.drewN _ _)
              have B7 : Hid (Blk (w6.drewN nq) B 38 #[.int .i64 (u : Nat), .int .i64 (v : Nat)]) := B6.out.drewN _
              have X7 : Hid (Ext wr (w6.drewN nq)) := X6.out.trans (Ext.drewN _ _)
              generalize w6.drewN nq = w7 at H7 B7 X7 ⊢
              have y70 : w7.cell? ⟨B, 0, none⟩ = some (.int .i64 (u : Nat)) := B7.out.cell 0
              have y71 : w7.cell? ⟨B, 1, none⟩ = some (.int .i64 (v : Nat)) := B7.out.cell 1
              have hun : u < n := by omega
              have TL0 := tlink_ok (H7.out.fo (i + 1) Fa HFA.out) (by omega) u v hun hvn HNO.out
              rw [HFB.out] at TL0
              have TL := Lib.hid TL0
              clear TL0 y0 y1 c1 HNO H6 B6 X6
              go_wp2_with fail
              refine TL.out.mono ?_
              rintro e w8 ⟨rfl, hf8, hc8⟩
              have H8 := H7.out.turn HFA.out hf8 (by omega) hc8
              have B8 : Hid (Blk w8 B 38 #[.int .i64 (u : Nat), .int .i64 (v : Nat)]) := B7.out.chg hc8 (fun hs => HBlt.out _ (.inr (.inr (.inr ⟨_, Fa, HFA.out, hs⟩))) rfl)
              have y80 : w8.cell? ⟨B, 0, none⟩ = some (.int .i64 (u : Nat)) := B8.out.cell 0
              have y81 : w8.cell? ⟨B, 1, none⟩ = some (.int .i64 (v : Nat)) := B8.out.cell 1
              have c81 : w8.cell? ⟨G.gb, 1, none⟩ = some (.map (some G'.eb)) := by rw [← HGB.out]; exact H8.blk.cell 1
              rw [HX.out.2.2.2.2.2.1] at hf8
              obtain ⟨W2, hr, hf2, hc2⟩ := H7.out.raise HUP.out HLT.out HX.out.2.2.1 (okE_of (by simp only; omega) (by simp only; omega)) (by rw [HX.out.1]; exact HX.out.2.1) HX.out.2.2.2.2.1 (by simpa using HQ.out) HFA.out hf8 hc8 (Ext.drew w8) (by omega)
              have HZ : Hid (Up1 w5 W2 G' n (N + 2 * (k2 + 1)) A f i X (T.take (k2 + 1))) := by
                rw [HX.out.2.2.2.1]
                exact ⟨hf2.mono (by omega), (HR.out.2.stepE X7.out).step hc2⟩
              rw [show edV ((u : Int), (v : Int)) = .agg #[.int .i64 (u : Nat), .int .i64 (v : Nat)] from rfl] at hr
              clear hf8 hc8 H8 B8 hf2 hc2 y70 y71 H7 B7 TL
              go_wp2
              go_still_tail 8, (by kernel_rfl)
              go_wp2
              go_roundw
              case rel => exact ⟨k2 + 1, by omega, by go_num, HZ⟩
              case measure => simp [intOf]; omega
            · have HQ : Hid (¬ ((f ((u : Int), (v : Int))).lv = i ∧ inS X u = true ∧ inS X v = true)) := fun ⟨a1, a2, a3⟩ => q ⟨by rw [← HX.out.1]; exact a1, HSU.out.2 a2, HSV.out.2 a3⟩
              have HN : Hid (∀ W, Ext wr W → Up1 w5 W G' n (N + 2 * (k2 + 1)) A f i X (T.take (k2 + 1))) := fun W hW => by
                rw [HX.out.2.2.2.1]
                exact HR.out.no hW (by omega) (by simpa using HQ.out)
              by_cases q1 : s.lv = i
              · have e1 : ((s.lv : Int) == (i : Int)) = true := by rw [beq_iff_eq]; omega
                by_cases q2 : su = 1
                · have e2 : (su == 1) = true := by rw [beq_iff_eq]; exact q2
                  have e3 : (sv == 1) = false := by rw [beq_eq_false_iff_ne]; exact fun w => q ⟨q1, q2, w⟩
                  clear q q1 q2
                  go_quiet (fail)
                  go_wp2
                  go_roundw
                  case rel => exact ⟨k2 + 1, by omega, by go_num, HN.out _ (X6.out.trans (Ext.drewN _ _))⟩
                  case measure => simp [intOf]; omega
                · have e2 : (su == 1) = false := by rw [beq_eq_false_iff_ne]; exact q2
                  clear q q1 q2
                  go_quiet (fail)
                  go_wp2
                  go_roundw
                  case rel => exact ⟨k2 + 1, by omega, by go_num, HN.out _ (X6.out.trans (Ext.drewN _ _))⟩
                  case measure => simp [intOf]; omega
              · have e1 : ((s.lv : Int) == (i : Int)) = false := by rw [beq_eq_false_iff_ne]; omega
                clear q q1
                go_quiet (fail)
                go_wp2
                go_roundw
                case rel => exact ⟨k2 + 1, by omega, by go_num, HN.out _ (X6.out.trans (Ext.drewN _ _))⟩
                case measure => simp [intOf]; omega
          · obtain rfl : k2 = tl := by omega
            have hup : Up1 w5 wr G' n (N + 2 * k2) A f i X (GM.lvl f A 0) := by
              have := HR.out
              rw [List.take_of_length_le (by rw [HTL.out.1]; exact Nat.le_refl _), HTT.out.1] at this
              exact this
            obtain ⟨hg6, hc6⟩ := hup.done
            have H6 := Lib.hid hg6
            obtain ⟨c', hc', hcn', hcS', hch'⟩ := MD.out.half
            have hb6 := MD.out.bok.upT hc' hcn' hcS' hch' (by have := HL'.out; omega)
            have HB6 := Lib.hid hb6.1
            have HIN := Lib.hid hb6.2
            have HLV : Hid (∀ x ∈ A, (f x).lv ≤ (GM.upT f A i (inS X) x).lv) := fun x _ => (GM.upT_lv f A i (inS X) x).1
            have HSD : Hid (GM.Side n (adj (GM.lvl (GM.upT f A i (inS X)) A i)) a b (inS X)) := by
              unfold Hid
              rw [GM.upT_low (inS X) (Nat.le_refl i)]; exact MD.out.side
            obtain ⟨f1, hf1⟩ : ∃ f1, f1 = GM.upT f A i (inS X) := ⟨_, rfl⟩
            rw [← hf1] at H6 HB6 HIN HLV HSD
            have M6 : Hid (InAt wr mb X) := M5.out.chg hc6 NM.out
            have GC6 : Hid (GrC w wr G G') := GC5.out.trans (GrC.same hc6 fun _ h => h)
            have HT := Lib.hid (gedges_any H6.out HOK.out HUP.out hl)
            rw [HGB.out] at HT
            clear hf1 hb6 hcS' hch' hg6 hc6 hup HR hlt2 HTL HTT E5 N5 M5 GC5 MD hcn' hc'
            go_wp2_with fail
            refine HT.out.mono ?_
            intro e w7 hp
            obtain ⟨A7, k7, rfl, e7, x7, l7, n7⟩ := hp.use
            have E7 := Lib.hid e7
            have M7 := Lib.hid (M6.out.ext x7)
            have GC7 := Lib.hid (GC6.out.ext x7)
            have N7 : Hid (∀ x, A7 = some x → ¬ G'.S x.block) := fun x hx hs => by have := n7 x hx; have := H6.out.lt _ hs; omega
            have R7 : Hid (Ri1 w7 w7 G' n (N + 2 * k2) A f1 a b i X 0) := Ri1.start (H6.out.ext x7) (by rw [HL'.out.1]; exact HB6.out)
            obtain ⟨al, hal⟩ : ∃ m, A.length = m := ⟨_, rfl⟩
            have HAL := Lib.hid hal
            rw [hal] at l7 hl ⊢
            clear hp e7 x7 n7 hal HT H6 HB6 M6 GC6
            go_wp2
            go_loopw [128] (fun v128 wr => ∃ k : Nat, k ≤ al ∧ v128 = .int .i64 k ∧ Hid (Ri1 w7 wr G' n (N + 2 * k2 + k) A f1 a b i X k)) (fun v128 _ => al - (intOf v128).toNat)
            case atStart => exact ⟨0, Nat.zero_le _, rfl, R7.out⟩
            case round =>
              obtain ⟨k3, hk3, rfl, HR⟩ := hrel
              clear R7
              by_cases hlt3 : k3 < al
              · have hcw : Hid (Chg G'.S w7 wr) := by obtain ⟨_, _, _, h3⟩ := HR.out; exact h3
                obtain ⟨b1, o1, x, hA, hxk, d0, d1⟩ := geds_at (E7.out.chg hcw.out (fun _ x hx => N7.out x hx)) (show k3 < A.length by rw [HAL.out]; exact hlt3)
                subst hA
                obtain ⟨fk, u, v, rfl, h2⟩ := HR.out.at_ hxk
                have H2 := Lib.hid h2
                simp only at d0 d1
                obtain ⟨huv, hvn⟩ := h2.lt
                have hun : u < n := by omega
                obtain ⟨s, hs⟩ : ∃ s, fk ((u : Int), (v : Int)) = s := ⟨_, rfl⟩
                have HS := Lib.hid hs
                have X6 : Hid (Ext wr (wr.alloc (.cells #[.int .i64 (u : Nat), .int .i64 (v : Nat)] 38))) := Ext.alloc _ _
                have B6 : Hid (Blk (wr.alloc (.cells #[.int .i64 (u : Nat), .int .i64 (v : Nat)] 38)) wr.heap.size 38 #[.int .i64 (u : Nat), .int .i64 (v : Nat)]) := Blk.new wr _ _
                have HBlt : Hid (∀ k, G'.S k → k < wr.heap.size) := h2.g.lt
                have MW : Hid (InAt wr mb X) := M7.out.chg hcw.out NM.out
                have z5 : (k3 : Int) < (al : Int) := by omega
                have z6 : (0 : Int) ≤ (k3 : Int) := by omega
                clear h2 hs hxk
                go_wp2
                generalize wr.heap.size = B at B6 HBlt ⊢
                generalize wr.alloc (.cells #[.int .i64 (u : Nat), .int .i64 (v : Nat)] 38) = w6 at B6 X6 ⊢
                have KG : Hid (∀ W, Ext w6 W → W.cell? ⟨G.gb, 1, none⟩ = some (.map (some G'.eb)) ∧ W.cell? ⟨B, 0, none⟩ = some (.int .i64 (u : Nat)) ∧ W.cell? ⟨B, 1, none⟩ = some (.int .i64 (v : Nat)) ∧ (Instr.lookup 82 (.map (some G'.eb)) (.agg #[.int .i64 (u : Nat), .int .i64 (v : Nat)]) false).run Try.prog W = .ok (.agg #[.int .i64 s.lv, .bool s.tr]) W) := fun W hW => by
                  have hB := B6.out.chg (Chg.of_below hW) (by have := B6.out.lt; omega)
                  have hg := (H2.out.g.ext X6.out).ext hW
                  exact ⟨by rw [← HGB.out]; exact hg.blk.cell 1, hB.cell 0, hB.cell 1, hg.look ((u : Int), (v : Int)) H2.out.ok (by rw [if_pos H2.out.mem, HS.out]; rfl)⟩
                clear d0 d1
                go_upto_region 31 with fail
                go_cut [23] (fun s23 wx => ∃ B2 : Nat, s23 = .pointer (some ⟨B2, 0, none⟩) ∧ Hid (Ext w6 wx ∧ Blk wx B2 87 #[.int .i64 s.lv, .bool s.tr] ∧ w6.heap.size ≤ B2))
                case first =>
                  go_region_held3 (fun W => Ext w6 W ∧ W.cell? ⟨G.gb, 1, none⟩ = some (.map (some G'.eb)) ∧ W.cell? ⟨B, 0, none⟩ = some (.int .i64 (u : Nat)) ∧ W.cell? ⟨B, 1, none⟩ = some (.int .i64 (v : Nat)) ∧ (Instr.lookup 82 (.map (some G'.eb)) (.agg #[.int .i64 (u : Nat), .int .i64 (v : Nat)]) false).run Try.prog W = .ok (.agg #[.int .i64 s.lv, .bool s.tr]) W)
                    ((refine (fun hE => ⟨hE, KG.out _ hE⟩ : Ext w6 _ → _) ?_; first | assumption | exact fst_ (by assumption) | exact Ext.refl _ | exact Ext.trans (by assumption) (Ext.alloc _ _) | exact Ext.drew _ | exact (Ext.alloc _ _).trans (Ext.drew _) | exact Ext.set_ (Ext.set_ (by assumption) (Nat.le_refl _) _) (Nat.le_refl _) _ | exact Ext.trans (fst_ (by assumption)) (by assumption) | (trace_state; fail)))
                    (fail)
                  all_goals
                    rename_i hHeld
                    have HH : Hid (Ext w6 (w6.alloc (Obj.cells #[.int .i64 s.lv, .bool s.tr] 87)).drew ∧ Blk (w6.alloc (Obj.cells #[.int .i64 s.lv, .bool s.tr] 87)).drew w6.heap.size 87 #[.int .i64 s.lv, .bool s.tr] ∧ w6.heap.size ≤ w6.heap.size) := ⟨fst_ hHeld, (Blk.new w6 _ _).drew, Nat.le_refl _⟩
                    clear hHeld
                    go_wp2
                    go_meet
                    exact ⟨_, rfl, HH.out⟩
                case rest =>
                  obtain ⟨B2, rfl, HB2⟩ := hcut
                  have hk := KG.out wc HB2.out.1
                  have c1 : wc.cell? ⟨G.gb, 1, none⟩ = some (.map (some G'.eb)) := hk.1
                  have y0 : wc.cell? ⟨B, 0, none⟩ = some (.int .i64 (u : Nat)) := hk.2.1
                  have y1 : wc.cell? ⟨B, 1, none⟩ = some (.int .i64 (v : Nat)) := hk.2.2.1
                  have q0 : wc.cell? ⟨B2, 0, none⟩ = some (.int .i64 s.lv) := HB2.out.2.1.cell 0
                  have q1 : wc.cell? ⟨B2, 1, none⟩ = some (.bool s.tr) := HB2.out.2.1.cell 1
                  have XW : Hid (Ext wr wc) := X6.out.trans HB2.out.1
                  have BW : Hid (Blk wc B 38 #[.int .i64 (u : Nat), .int .i64 (v : Nat)]) := B6.out.chg (Chg.of_below HB2.out.1) (by have := B6.out.lt; omega)
                  clear hk KG B6 X6
                  by_cases t1 : s.tr = true
                  · have HN : Hid (Ri1 w7 wc G' n (N + 2 * k2 + (k3 + 1)) A f1 a b i X (k3 + 1)) := H2.out.skip XW.out (by omega) (.inl (by rw [HS.out]; exact t1))
                    clear H2 MW HB2 XW BW
                    go_wp2
                    go_roundw
                    case rel => first | exact ⟨k3 + 1, by omega, by go_num, HN.out⟩ | ((repeat apply Exists.intro); exact ⟨⟨k3 + 1, by omega, by go_num, HN.out⟩, rfl⟩)
                    case measure => simp [intOf]; omega
                  · have t1' : s.tr = false := by simpa using t1
                    clear t1
                    by_cases t2 : s.lv = i
                    · have t2' : ((s.lv : Int) != (i : Int)) = false := by simp; omega
                      obtain ⟨su, hsu⟩ : ∃ su : Int, su = if (u : Int) ∈ X then 1 else 0 := ⟨_, rfl⟩
                      obtain ⟨sv, hsv⟩ : ∃ sv : Int, sv = if (v : Int) ∈ X then 1 else 0 := ⟨_, rfl⟩
                      have lu : (Instr.lookup 116 (.map (some mb)) (.int .i64 (u : Nat)) false).run Try.prog wc = .ok (.int .i64 su) wc := (MW.out.ext XW.out).look (u : Int) (okI_of (by omega)) hsu
                      have lv : (Instr.lookup 116 (.map (some mb)) (.int .i64 (v : Nat)) false).run Try.prog wc = .ok (.int .i64 sv) wc := (MW.out.ext XW.out).look (v : Int) (okI_of (by omega)) hsv
                      have HSU : Hid (su = 1 ∧ inS X u = true ∨ su = 0 ∧ inS X u = false) := by
                        rw [hsu]
                        unfold Hid inS
                        by_cases q : (u : Int) ∈ X <;> simp [q]
                      have HSV : Hid (sv = 1 ∧ inS X v = true ∨ sv = 0 ∧ inS X v = false) := by
                        rw [hsv]
                        unfold Hid inS
                        by_cases q : (v : Int) ∈ X <;> simp [q]
                      have su1 : 0 ≤ su ∧ su ≤ 1 := by rcases HSU.out with ⟨q, _⟩ | ⟨q, _⟩ <;> omega
                      have sv1 : 0 ≤ sv ∧ sv ≤ 1 := by rcases HSV.out with ⟨q, _⟩ | ⟨q, _⟩ <;> omega
                      obtain ⟨su0, su1⟩ := su1
                      obtain ⟨sv0, sv1⟩ := sv1
                      have HTL2 : Hid ((fk ((u : Int), (v : Int))).tr = false ∧ (fk ((u : Int), (v : Int))).lv = i) := ⟨by rw [HS.out]; exact t1', by rw [HS.out]; exact t2⟩
                      clear hsu hsv t2 MW
                      by_cases t3 : su + sv = 0
                      · have t3' : (su + sv == 0) = true := by rw [beq_iff_eq]; exact t3
                        have HN : Hid (Ri1 w7 wc G' n (N + 2 * k2 + (k3 + 1)) A f1 a b i X (k3 + 1)) := H2.out.skip XW.out (by omega) (.inr (.inr (by
                          rcases HSU.out with ⟨q, _⟩ | ⟨_, q⟩
                          · omega
                          · rcases HSV.out with ⟨q2, _⟩ | ⟨_, q2⟩
                            · omega
                            · exact ⟨q, q2⟩)))
                        clear H2 HB2 XW BW t3
                        go_wp2
                        go_roundw
                        case rel => first | exact ⟨k3 + 1, by omega, by go_num, HN.out⟩ | ((repeat apply Exists.intro); exact ⟨⟨k3 + 1, by omega, by go_num, HN.out⟩, rfl⟩)
                        case measure => simp [intOf]; omega
                      · have t3' : (su + sv == 0) = false := by rw [beq_eq_false_iff_ne]; exact t3
                        by_cases t4 : su + sv = 2
                        · have t4' : (su + sv == 2) = true := by rw [beq_iff_eq]; exact t4
                          obtain ⟨W2, hr, hw2⟩ := H2.out.rise (XW.out.trans (Ext.drew wc)) (by omega) HTL2.out.1 HTL2.out.2 (by
                            rcases HSU.out with ⟨_, q⟩ | ⟨q, _⟩
                            · rcases HSV.out with ⟨_, q2⟩ | ⟨q2, _⟩
                              · exact ⟨q, q2⟩
                              · omega
                            · omega) HIN.out (by rw [HL'.out.1]; exact HL'.out.2.2.2.1)
                          have HN : Hid (Ri1 w7 W2 G' n (N + 2 * k2 + (k3 + 1)) A f1 a b i X (k3 + 1)) := by
                            rw [← Nat.add_assoc]; exact hw2
                          clear H2 HB2 XW BW t3 t4 hw2
                          go_wp2
                          go_still_tail 8, (by kernel_rfl)
                          go_wp2
                          go_roundw
                          case rel => first | exact ⟨k3 + 1, by omega, by go_num, HN.out⟩ | ((repeat apply Exists.intro); exact ⟨⟨k3 + 1, by omega, by go_num, HN.out⟩, rfl⟩)
                          case measure => simp [intOf]; omega
                        · have t4' : (su + sv == 2) = false := by rw [beq_eq_false_iff_ne]; exact t4
                          obtain ⟨W2, f2, hr, hw2, hch2⟩ := H2.out.found (XW.out.trans (Ext.drew wc)) (by omega) HTL2.out.1 HTL2.out.2 HSD.out (by
                            rcases HSU.out with ⟨q1, q⟩ | ⟨q1, q⟩
                            · rcases HSV.out with ⟨q3, q2⟩ | ⟨q3, q2⟩
                              · omega
                              · rw [q, q2]; simp
                            · rcases HSV.out with ⟨q3, q2⟩ | ⟨q3, q2⟩
                              · rw [q, q2]; simp
                              · omega)
                          have R3 := Lib.hid hw2
                          have B3 : Hid (∀ wr', Chg G'.S W2 wr' → wr'.cell? ⟨B, 0, none⟩ = some (.int .i64 (u : Nat)) ∧ wr'.cell? ⟨B, 1, none⟩ = some (.int .i64 (v : Nat))) := fun wr' hc => by
                            have hb := (BW.out.drew.chg hch2 (fun hs => by have := HBlt.out _ hs; omega)).chg hc (fun hs => by have := HBlt.out _ hs; omega)
                            exact ⟨hb.cell 0, hb.cell 1⟩
                          clear H2 HB2 XW t3 t4 hw2 hch2 HSU HSV BW
                          go_wp2
                          go_still_tail 7, (by kernel_rfl)
                          go_wp2
                          go_loopw [185] (fun v185 wr4 => ∃ j : Nat, j ≤ i + 1 ∧ v185 = .int .i64 j ∧ Hid (Ri3 w7 wr4 G' n (N + 2 * k2 + k3 + 1 + j) A f1 fk f2 i u v j ∧ Chg G'.S W2 wr4)) (fun v185 _ => i + 1 - (intOf v185).toNat)
                          case atStart => exact ⟨0, Nat.zero_le _, rfl, R3.out, Chg.refl _ _⟩
                          case round =>
                            obtain ⟨j, hj, rfl, HJ⟩ := hrel
                            clear R3 hr y0 y1 c1 q0 q1 lu lv
                            by_cases hlt4 : j < i + 1
                            · obtain ⟨Fj, hFj⟩ := HJ.out.1.g.get (show j < G'.Fs.length by have := HL'.out; omega)
                              have HFJ := Lib.hid hFj
                              have c2 : wr.cell? ⟨G.gb, 2, none⟩ = some (.slice (some ⟨G'.ob, 0, none⟩) L' G'.c) := by rw [← HGB.out, ← HL'.out.1]; exact HJ.out.1.g.blk.cell 2
                              have c3 := HJ.out.1.g.cellF hFj
                              obtain ⟨y0, y1⟩ := B3.out _ HJ.out.2
                              have p0 : (0 : Int) ≤ (j : Int) := by omega
                              have p1 : (j : Int) < (L' : Int) := by have := HL'.out; omega
                              have p2 : (j : Int) < (i : Int) + 1 := by omega
                              have hfj := (HJ.out.1.g.ext (Ext.drew _)).fo j Fj hFj
                              rw [if_neg (Nat.lt_irrefl _)] at hfj
                              have TL0 := tlink_ok hfj (by omega) u v hun hvn (HJ.out.1.lo j (by omega)).1
                              obtain ⟨F9, hF9⟩ : ∃ F9, Fj.fb = F9 := ⟨_, rfl⟩
                              rw [hF9] at c3 TL0
                              have TL := Lib.hid TL0
                              clear TL0 hfj hFj hF9
                              go_wp2
                              go_still_tail 11, (by kernel_rfl)
                              go_wp2_with fail
                              refine TL.out.mono ?_
                              rintro e w9 ⟨rfl, hf9, hc9⟩
                              have HN : Hid (Ri3 w7 w9 G' n (N + 2 * k2 + k3 + 1 + (j + 1)) A f1 fk f2 i u v (j + 1) ∧ Chg G'.S W2 w9) := by
                                refine ⟨?_, (HJ.out.2.stepE (Ext.drew _)).step (hc9.mono fun k _ hk => .inr (.inr (.inr ⟨_, Fj, HFJ.out, hk⟩)))⟩
                                rw [← Nat.add_assoc]
                                exact HJ.out.1.next HFJ.out (Ext.drew _) hf9 hc9
                              clear hf9 hc9 TL HJ
                              go_wp2
                              go_roundw
                              case rel => exact ⟨j + 1, by omega, by go_num, HN⟩
                              case measure => simp [intOf]; omega
                            · obtain rfl : j = i + 1 := by omega
                              have HF2 : Hid (MendPost w G n N A f a b i (.returned (.tuple #[.bool true, .nilIface])) wr) :=
                                ⟨G', f2, GC7.out.trans (GrC.same HJ.out.1.c fun _ h => h), fun x hx => Nat.le_trans (HLV.out x hx) (HJ.out.1.up x hx), by have := HL'.out; omega, HL'.out.2.2.2.2, .inl ⟨rfl, (HJ.out.1.end_ (by have := HL'.out; omega) (by omega)).mono (by omega)⟩⟩
                              have p3 : ¬ (((i + 1 : Nat) : Int) < (i : Int) + 1) := by omega
                              clear HJ
                              go_wp2
                              go_ret2
                              exact HF2.out
                    · have t2' : ((s.lv : Int) != (i : Int)) = true := by simp; omega
                      have HN : Hid (Ri1 w7 wc G' n (N + 2 * k2 + (k3 + 1)) A f1 a b i X (k3 + 1)) := H2.out.skip XW.out (by omega) (.inr (.inl (by rw [HS.out]; exact t2)))
                      clear H2 MW HB2 XW BW t2
                      go_wp2
                      go_roundw
                      case rel => first | exact ⟨k3 + 1, by omega, by go_num, HN.out⟩ | ((repeat apply Exists.intro); exact ⟨⟨k3 + 1, by omega, by go_num, HN.out⟩, rfl⟩)
                      case measure => simp [intOf]; omega
              · obtain rfl : k3 = al := by omega
                obtain ⟨fk, hm2, hg2, hc2⟩ := HR.out
                have hmn := hm2
                rw [← HAL.out] at hmn
                have hnn := hmn.none HSD.out
                have HF2 : Hid (MendPost w G n N A f a b i (.returned (.tuple #[.bool false, .nilIface])) wr) :=
                  ⟨G', fk, GC7.out.trans (GrC.same hc2 fun _ h => h), fun x hx => Nat.le_trans (HLV.out x hx) (hm2.up x hx), by have := HL'.out; omega, HL'.out.2.2.2.2, .inr ⟨rfl, hg2.mono (by omega), hm2.ok, hnn.1, hnn.2⟩⟩
                clear hm2 hg2 hc2 hmn hnn HR
                go_wp2
                go_ret2
                exact HF2.out
end
end Go.Proofs.Ytlcnoihmhaaekaa
