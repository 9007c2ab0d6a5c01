/-
  Walk of tour's Link: two trees become one. Condition: the forest lies in memory as 'FoAt' says.
-/
import Derived.Test.YtgdbnjcnilnnmaaGreatDoorTo3
namespace Go.Proofs.YtgdbnjcnilnnmaaGreatDoor
open Go Go.RowKit SQ TR DF PD
set_option linter.unusedVariables false

section
variable {w : World} {F : FoP} {n N : Nat} {E : List AK.Ed}
set_option maxHeartbeats 4000000 in
set_option maxRecDepth 100000 in
theorem tlink_ok (h : FoAt w F n N E) (hN : N < 1000000) (a b : Nat) (ha : a < n) (hb : b < n) (hc : ¬ Cn (adj E) a b) :
    Calls Tryz.prog 15 #[.pointer (some ⟨F.fb, 0, none⟩), .int .i64 a, .int .i64 b] w (LinkPost w F n N (putE (AK.ek a b) E)) := by
  have c1 : w.cell? ⟨F.fb, 1, none⟩ = some (.slice (some ⟨F.rb, 0, none⟩) n F.c) := h.blk.cell 1
  obtain ⟨p, s, m, h1, h2, h3, h4⟩ := h.ways
  have h60 := h.hn
  have e1 := root_cell h2 h1.len ha
  have e2 := root_cell h2 h1.len hb
  have hg : (PD.g p a == PD.g p b) = false := by
    rw [beq_eq_false_iff_ne]
    exact fun e => hc ((h1.joined ha hb).1 e)
  generalize PD.g p a = ra at e1 hg
  generalize PD.g p b = rb at e2 hg
  have N1 := Lib.hid (tnode_any h a true (by simp [ha]))
  have N2 := Lib.hid (tnode_any h b true (by simp [hb]))
  have z1 : (a : Int) < (n : Int) := by omega
  have z2 : (b : Int) < (n : Int) := by omega
  have H := Lib.hid h
  have HP := Lib.hid h1
  have HW := Lib.hid h4
  have HV := Lib.hid h3
  have HR := Lib.hid h2
  have HC := Lib.hid hc
  have ST1 := Lib.hid (fun W => tstep_any W a b (by omega) (by omega))
  have ST2 := Lib.hid (fun W => tstep_any W b a (by omega) (by omega))
  clear h h1 h2 h3 h4 hc
  go_enter Tryz.func15, Tryz.ntmps15
  go_wp2_with fail
  refine N1.out.mono ?_
  rintro e w' ⟨rfl, rfl⟩
  go_wp2_with fail
  refine N2.out.mono ?_
  rintro e w' ⟨rfl, rfl⟩
  go_wp2
  go_quiet (fail)
  have X0 : Hid (Ext w (w.drewN nq)) := Ext.drewN _ _
  generalize w.drewN nq = w0 at X0 ⊢
  clear N1 N2 e1 e2 c1 hg
  have H0 : Hid (FoAt w0 F n N E) := H.out.ext X0.out
  go_wp2_with fail
  refine (tfrom_any H0.out a ha).mono ?_
  rintro e w1 ⟨q1, x, rfl, s1, y1, g1, x1⟩
  have S1 := Lib.hid s1
  have Y1 := Lib.hid y1
  have G1 := Lib.hid g1
  have X1 : Hid (Ext w w1) := X0.out.trans x1
  have H1 : Hid (FoAt w1 F n N E) := H.out.ext X1.out
  clear s1 y1 g1 x1 H0
  go_wp2_with fail
  refine (tfrom_any H1.out b hb).mono ?_
  rintro e w2 ⟨q2, y, rfl, s2, y2, g2, x2⟩
  have S2 := Lib.hid s2
  have Y2 := Lib.hid y2
  have G2 := Lib.hid g2
  have S1' : Hid (RowAt w2 q1 x) := S1.out.ext x2
  have X2 : Hid (Ext w w2) := X1.out.trans x2
  have LX : Hid (x.length ≤ 180 ∧ y.length ≤ 180) := ⟨Y1.out.len H.out.fo h60.2, Y2.out.len H.out.fo h60.2⟩
  clear s2 y2 g2 x2 H1 S1 X1
  go_wp2_with fail
  refine (ST1.out _).mono ?_
  rintro e w' ⟨rfl, rfl⟩
  go_wp2_with fail
  refine (row_of (n := 1) (c := 1) (ints_one _ _ _) rfl (by omega)).mono ?_
  rintro e w3 ⟨q3, rfl, s3, x3⟩
  have x3' : Ext w2 w3 := (Ext.alloc w2 _).trans x3
  have S3 := Lib.hid s3
  have S1'' : Hid (RowAt w3 q1 x) := S1'.out.ext x3'
  have S2' : Hid (RowAt w3 q2 y) := S2.out.ext x3'
  have X3 : Hid (Ext w w3) := X2.out.trans x3'
  clear s3 x3 x3' X2 S1' S2
  go_wp2_with fail
  refine (ST2.out _).mono ?_
  rintro e w' ⟨rfl, rfl⟩
  go_wp2_with fail
  refine (row_of (n := 1) (c := 1) (ints_one _ _ _) rfl (by omega)).mono ?_
  rintro e w4 ⟨q4, rfl, s4, x4⟩
  have x4' : Ext w3 w4 := (Ext.alloc w3 _).trans x4
  have R1 : Hid (RowAt w4 q1 x) := S1''.out.ext x4'
  have R2 : Hid (RowAt w4 q2 y) := S2'.out.ext x4'
  have R3 : Hid (RowAt w4 q3 [st a b]) := S3.out.ext x4'
  have R4 : Hid (RowAt w4 q4 [st b a]) := s4
  have X4 : Hid (Ext w w4) := X3.out.trans x4'
  clear s4 x4 x4' X3 S1'' S2' S3 ST1 ST2
  have hrs : Hid (∀ (i : Nat) p, [(q1, x), (q3, [st a b]), (q2, y), (q4, [st b a])][i]? = some p → (w4.alloc (.cells #[.pointer q1, .pointer q3, .pointer q2, .pointer q4] 88)).cell? ⟨w4.heap.size, i, none⟩ = some (.pointer p.1) ∧ RowAt (w4.alloc (.cells #[.pointer q1, .pointer q3, .pointer q2, .pointer q4] 88)) p.1 p.2) := by
    intro i p hp
    have hB := Blk.new w4 88 #[.pointer q1, .pointer q3, .pointer q2, .pointer q4]
    match i, hp with
    | 0, hp => simp at hp; subst hp; exact ⟨hB.cell 0, R1.out.ext (Ext.alloc _ _)⟩
    | 1, hp => simp at hp; subst hp; exact ⟨hB.cell 1, R3.out.ext (Ext.alloc _ _)⟩
    | 2, hp => simp at hp; subst hp; exact ⟨hB.cell 2, R2.out.ext (Ext.alloc _ _)⟩
    | 3, hp => simp at hp; subst hp; exact ⟨hB.cell 3, R4.out.ext (Ext.alloc _ _)⟩
    | i + 4, hp => simp at hp
  have hfl : [(q1, x), (q3, [st a b]), (q2, y), (q4, [st b a])].flatMap (fun z : Option Addr × List Int => z.2) = x ++ (st a b :: y) ++ [st b a] := by simp
  have hll : (x ++ (st a b :: y) ++ [st b a]).length ≤ 400 := by have := LX.out; simp; omega
  go_wp2_with fail
  refine (tjoin_any (m := 4) (c := 4) [(q1, x), (q3, [st a b]), (q2, y), (q4, [st b a])] hrs.out (by simp) rfl (by omega) (by rw [hfl]; exact hll)).mono ?_
  rintro e w5 ⟨q5, rfl, s5, x5⟩
  rw [hfl] at s5
  have S5 := Lib.hid s5
  have X5 : Hid (Ext w w5) := X4.out.trans ((Ext.alloc w4 _).trans x5)
  clear s5 x5 hrs R1 R2 R3 R4 X4 hfl
  have HB5 : Hid (Blk w5 F.fb 87 #[.map (some F.mb), F.rv n, .map (some F.eb)]) := (H.out.ext X5.out).blk
  have HR5 : Hid (RootAt w5 F n p) := own_chg HR.out (Chg.of_below X5.out) (fun k hk => by have := own_lt HR.out hk; omega)
  have hway : TR.Way (adj (putE (AK.ek a b) E)) a (x ++ (st a b :: y) ++ [st b a]) := by
    have he : adj (putE (AK.ek a b) E) = Ad (adj E) a b := funext fun u => funext fun v => propext (adj_put u v)
    rw [he]
    exact TR.Way.link (fun u v e => adj_symm e) (fun u v e => by have := adj_in H.out.fo.ok e; omega) (by omega) (by omega) HC.out Y1.out Y2.out G1.out G2.out
  have hmks := hway.mks ha (H.out.fo.put ha hb HC.out) h60.2
  have h0 : 0 < (mks (x ++ (st a b :: y) ++ [st b a])).length := List.length_pos_of_mem (hmks.2.2 a ha (.refl _))
  have HM : Hid (∀ z ∈ mks (x ++ (st a b :: y) ++ [st b a]), ∃ v : Nat, z = v ∧ v < n) := fun z hz => by
    obtain ⟨v, a1, a2, _⟩ := hmks.2.1 z hz; exact ⟨v, a1, a2⟩
  clear hway hmks
  go_wp2_with fail
  refine (tset_any HB5.out h60.2 HR5.out HP.out.len (HV.out.ext X5.out) hN S5.out hll h0 HM.out).mono ?_
  rintro e w6 ⟨rfl, r, p', m', s', a1, a2, a3, a4, a5, a6⟩
  have HPUT := Lib.hid (H.out.linked X5.out HP.out HW.out ha hb HC.out Y1.out Y2.out G1.out G2.out S5.out a1 a2 a3 a4 a5 a6 hN)
  have hb6 : Blk w6 F.fb 87 #[.map (some F.mb), F.rv n, .map (some F.eb)] := HB5.out.chg a6 (by
    have := H.out.fb_ne
    exact fun e => this (by rcases e with e | e; exact .inl e; exact .inr (.inl e)))
  have d2 : w6.cell? ⟨F.fb, 2, none⟩ = some (.map (some F.eb)) := hb6.cell 2
  have hl6 := hb6.lt
  have HK : Hid (∀ W, Ext w6 W → W.cell? ⟨F.fb, 2, none⟩ = some (.map (some F.eb))) := fun W hW => (hW.cell (p := ⟨F.fb, 2, none⟩) hl6).trans d2
  clear a1 a2 a3 a4 a5 a6 hb6 HM HB5 HR5 S5 H HP HW HV HR HC Y1 Y2 G1 G2 LX X5 X0 h0 hll
  go_wp2
  go_region_held3 (fun w' => w'.cell? ⟨F.fb, 2, none⟩ = some (.map (some F.eb))) (go_keep)
    (first
      | (go_at_call 55; refine (of_any _ (a : Int) (b : Int)).mono ?_; rintro e w7 ⟨rfl, hb7⟩; have X7 : Hid (Ext w6 w7) := Ext.trans (Ext.drew _) hb7; have q7 : w7.cell? ⟨F.fb, 2, none⟩ = some (.map (some F.eb)) := HK.out _ X7.out; obtain ⟨W2, hr2, hf2, hc2, hq2⟩ := HPUT.out _ X7.out; have HF2 := Lib.hid hf2; have HC2 := Lib.hid hc2; clear hf2 hc2 hb7)
      | (refine step_vput _ (by rfl) (.tmp 98) (.tmp 101) (.const (.int .i64 1)) 85 (by rfl) _ _ _ (by rfl) (by rfl) (by rfl) W2 hr2 ?_)
      | fail)
  go_wp2
  go_ret
  exact ⟨rfl, HF2.out, HC2.out⟩
end
end Go.Proofs.YtgdbnjcnilnnmaaGreatDoor
