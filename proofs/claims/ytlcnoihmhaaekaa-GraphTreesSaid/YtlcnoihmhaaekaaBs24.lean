/-
  Walk of tour's Cut: a tree falls in two. Condition: the forest lies in memory as 'FoAt' says.
-/
import Derived.Test.YtlcnoihmhaaekaaBs23
namespace Go.Proofs.Ytlcnoihmhaaekaa
open Go Go.RowKit SQ TR DF PD
set_option linter.unusedVariables false

section
variable {w : World} {F : FoP} {n N : Nat} {E : List AK.Ed}
set_option maxHeartbeats 1000000 in
set_option maxRecDepth 100000 in
theorem tcut_A (h : FoAt w F n N E) (hN : N + 1 < 1000000) (u v : Nat) (huv : adj E u v) {p l low mid high : List Int} {s r : Nat} {m : Int → Option Value} {q : Option Addr} (h1 : Pts n E p) (h2 : RootAt w F n p) (h3 : VM kI w F.mb N s m) (h4 : WaysAt w n E p m)
    (hp : PD.g p u = r) (hm : m r = some (.pointer q)) (hq : RowAt w q l) (hway : TR.Way (adj E) u l) (hl : l = low ++ st u v :: mid ++ st v u :: high) :
    Calls Try.prog 13 #[.pointer (some ⟨F.fb, 0, none⟩), .int .i64 u, .int .i64 v] w (CutPost w F n N (cutE (AK.ek u v) E)) := by
  have h60 := h.hn
  obtain ⟨hu, hv, hne⟩ := adj_in h.fo.ok huv
  have hlen : l.length ≤ 180 := hway.len h.fo h60.2
  have c0 : w.cell? ⟨F.fb, 0, none⟩ = some (.map (some F.mb)) := h.blk.cell 0
  have c1 : w.cell? ⟨F.fb, 1, none⟩ = some (.slice (some ⟨F.rb, 0, none⟩) n F.c) := h.blk.cell 1
  have c2 : w.cell? ⟨F.fb, 2, none⟩ = some (.map (some F.eb)) := h.blk.cell 2
  have e1 := root_cell h2 h1.len (a := u) (by omega)
  rw [hp] at e1
  obtain ⟨me, k1, k2⟩ := h.edges
  have hek : AK.ek (u : Int) v = AK.ek u v := rfl
  have hlk : ∀ d os, (Instr.lookup 65 (.map (some F.eb)) (edV (AK.ek (u : Int) v)) false).run Try.prog (Sort.grow (redrawn w d) os) = .ok (.int .i64 1) (Sort.grow (redrawn w d) os) := fun d os => by
    have hok : okE (AK.ek u v) := okE_of (by unfold AK.ek; simp only; omega) (by unfold AK.ek; simp only; omega)
    have := (k1.ext (below_regrown w d os)).look Try.underlying65 (zeroInt _) (AK.ek u v) hok
    rw [k2 _ hok, if_pos ((adj_ek (a := u) (b := v) h.fo.lt hne).2 huv)] at this
    rw [hek]
    exact this
  have hlw : ∀ W, Ext w W → (Instr.lookup 64 (.map (some F.mb)) (.int .i64 r) false).run Try.prog W = .ok (.pointer q) W := fun W hW => by
    have := (h3.ext hW).look Try.underlying64 (zeroSeq _) (r : Int) (WalkArith.wf_i64 (by
      have := h1.pa u (by omega)
      obtain ⟨r', q1, q2, _⟩ := this
      omega))
    rw [hm] at this
    exact this
  have hrn : r < n := by
    obtain ⟨r', q1, q2, _⟩ := h1.pa u (by omega)
    omega
  obtain ⟨lo, hlo⟩ : ∃ lo, lo = low.length := ⟨_, rfl⟩
  obtain ⟨hi, hhi⟩ : ∃ hi, hi = low.length + 1 + mid.length := ⟨_, rfl⟩
  have LOHI : Hid (lo < hi ∧ hi < l.length) := ⟨by omega, by rw [hl]; simp; omega⟩
  have I1 : Hid (l[lo]? = some (st u v) ∧ l.Nodup) := ⟨by rw [hl, hlo]; simp, hway.nd⟩
  have I2 : Hid (l[hi]? = some (st v u) ∧ l.Nodup) := ⟨by
    have e : hi = (low ++ st u v :: mid).length := by rw [hhi]; simp; omega
    rw [hl, e, List.getElem?_append_right (Nat.le_refl _), Nat.sub_self]; rfl, hway.nd⟩
  obtain ⟨R, hR⟩ : ∃ R, R = st u v :: mid ++ st v u :: high := ⟨_, rfl⟩
  have T1 : Hid (l.take lo = low ∧ l.drop lo = R ∧ R.length ≤ 400) := ⟨by rw [hl, hlo]; simp, by rw [hl, hlo, hR]; simp, by rw [hR]; rw [hl] at hlen; simp at hlen ⊢; omega⟩
  obtain ⟨d, hd⟩ : ∃ d, d = hi - lo := ⟨_, rfl⟩
  have T2 : Hid (R.take d = st u v :: mid ∧ R.drop d = st v u :: high ∧ d ≤ R.length) := by
    have e : d = (st u v :: mid).length := by rw [hd, hlo, hhi]; simp; omega
    rw [e, hR]
    exact ⟨List.take_left' rfl, List.drop_left' rfl, by simp⟩
  have L3 : Hid ((st u v :: mid).length ≤ 400 ∧ (st v u :: high).length ≤ 400 ∧ (low ++ high).length ≤ 400 ∧ mid.length ≤ 400) := by
    rw [hl] at hlen; simp at hlen
    exact ⟨by simp; omega, by simp; omega, by simp; omega, by omega⟩
  have N1 := Lib.hid (tnode_any h (u : Int) true (by simp; omega))
  have N2 := Lib.hid (tnode_any h (v : Int) true (by simp; omega))
  have z1 : (u : Int) < (n : Int) := by omega
  have z2 : (lo : Int) < (hi : Int) := by have := LOHI.out; omega
  have zmin : min (lo : Int) (hi : Int) = (lo : Int) := by omega
  have zmax : max (lo : Int) (hi : Int) = (hi : Int) := by omega
  have e9 : (hi : Int) - (lo : Int) = (d : Int) := by have := LOHI.out; omega
  have zd : d ≤ 400 := by have := LOHI.out; omega
  have e10 : IntKind.i64.wrap (d : Int) = (d : Int) := IntWalk.i64_in _ (by omega)
  have H := Lib.hid h
  have HP := Lib.hid h1
  have HW := Lib.hid h4
  have HV := Lib.hid h3
  have HR := Lib.hid h2
  have HQ := Lib.hid hq
  have HL := Lib.hid hl
  have HWAY := Lib.hid hway
  have HUV := Lib.hid huv
  have HLEN := Lib.hid hlen
  have ST1 := Lib.hid (fun W => tstep_any W u v (by omega) (by omega))
  have ST2 := Lib.hid (fun W => tstep_any W v u (by omega) (by omega))
  have HB0 := Lib.hid h.blk
  have hlt := h.blk.lt
  have HRL : Hid (F.rb < w.heap.size) := own_lt h2 (by simp [FoP.rv, Value.ownBlock])
  clear h h1 h2 h3 h4 hq hway hl huv hlen k1 k2 hhi hlo hR hek hp hm hd
  go_enter Try.func13, Try.ntmps13
  go_wp2_with fail
  refine N1.out.mono ?_
  rintro e w' ⟨rfl, rfl⟩
  go_wp2_with fail
  refine N2.out.mono ?_
  rintro e w' ⟨rfl, rfl⟩
  go_wp2
  have g2 : ∀ d os, (Sort.grow (redrawn w d) os).cell? ⟨F.fb, 2, none⟩ = some (.map (some F.eb)) := fun d os => cell_regrown c2 d os
  refine wp_region_quiet_below (by kernel_rfl) (by kernel_rfl) ?_
  repeat (go_big_quiet_step ((go_at_call 36; exact Calls.regrown_of (of_any _ (u : Int) (v : Int)))))
  refine wpQuiet_nil ?_
  intro _ hw'
  obtain ⟨⟨dq, osq⟩, hw''⟩ := hw'
  subst hw''
  have X0 : Hid (Ext w (Sort.grow (redrawn w dq) osq)) := below_regrown w dq osq
  generalize Sort.grow (redrawn w dq) osq = w0 at X0 ⊢
  clear N1 N2 hlk g2 c2
  have d0 : w0.cell? ⟨F.fb, 0, none⟩ = some (.map (some F.mb)) := (X0.out.cell (p := ⟨F.fb, 0, none⟩) hlt).trans c0
  have d1 : w0.cell? ⟨F.fb, 1, none⟩ = some (.slice (some ⟨F.rb, 0, none⟩) n F.c) := (X0.out.cell (p := ⟨F.fb, 1, none⟩) hlt).trans c1
  have d2 : w0.cell? ⟨F.rb, u, none⟩ = some (.int .i64 r) := (X0.out.cell (p := ⟨F.rb, u, none⟩) HRL.out).trans e1
  have hlw0 : ∀ k, (Instr.lookup 64 (.map (some F.mb)) (.int .i64 r) false).run Try.prog (w0.drewN k) = .ok (.pointer q) (w0.drewN k) := fun k => hlw _ (X0.out.trans (Ext.drewN w0 k))
  clear c0 c1 e1 hlw
  go_wp2
  go_quiet (fail)
  have X1 : Hid (Ext w (w0.drewN nq)) := X0.out.trans (Ext.drewN w0 nq)
  generalize w0.drewN nq = w1 at X1 ⊢
  clear d0 d1 d2 hlw0 X0
  go_wp2_with fail
  refine (row_list (HQ.out.ext X1.out) (by have := HLEN.out; omega)).mono ?_
  rintro e w2 ⟨A, c, rfl, ho, hx, hnw⟩
  have HO := Lib.hid ho
  have X2 : Hid (Ext w w2) := X1.out.trans hx
  clear ho hx hnw X1
  go_wp2_with fail
  refine (ST1.out _).mono ?_
  rintro e w' ⟨rfl, rfl⟩
  go_wp2_with fail
  refine (index_any w2 A c l lo _ HO.out I1.out.1 I1.out.2 (by have := HLEN.out; omega)).mono ?_
  rintro e w2' ⟨rfl, hw2⟩
  obtain rfl : w2 = w2' := hw2.symm
  go_wp2_with fail
  refine (ST2.out _).mono ?_
  rintro e w' ⟨rfl, rfl⟩
  go_wp2_with fail
  refine (index_any w2 A c l hi _ HO.out I2.out.1 I2.out.2 (by have := HLEN.out; omega)).mono ?_
  rintro e w2' ⟨rfl, hw2⟩
  obtain rfl : w2 = w2' := hw2.symm
  go_wp2_with fail
  refine (row_split (HQ.out.ext X2.out) (by have := HLEN.out; omega) lo (by have := LOHI.out; omega)).mono ?_
  rintro e w3 ⟨q1, q2, rfl, s1, s2, x3⟩
  have S1 : Hid (RowAt w3 q1 low) := by rw [T1.out.1] at s1; exact s1
  have S2 : Hid (RowAt w3 q2 R) := by rw [T1.out.2.1] at s2; exact s2
  have X3 : Hid (Ext w w3) := X2.out.trans x3
  clear s1 s2 x3 X2 HO I1 I2 ST1 ST2
  go_wp2_with fail
  refine (row_split S2.out T1.out.2.2 d T2.out.2.2).mono ?_
  rintro e w4 ⟨q3, q4, rfl, s3, s4, x4⟩
  have S3 : Hid (RowAt w4 q3 (st u v :: mid)) := by rw [T2.out.1] at s3; exact s3
  have S4 : Hid (RowAt w4 q4 (st v u :: high)) := by rw [T2.out.2.1] at s4; exact s4
  have S1' : Hid (RowAt w4 q1 low) := S1.out.ext x4
  have X4 : Hid (Ext w w4) := X3.out.trans x4
  clear s3 s4 x4 X3 S1 S2
  go_wp2_with fail
  refine (row_split S3.out L3.out.1 1 (by simp)).mono ?_
  rintro e w5 ⟨q5, q6, rfl, s5, s6, x5⟩
  have S6 : Hid (RowAt w5 q6 mid) := s6
  have S4' : Hid (RowAt w5 q4 (st v u :: high)) := S4.out.ext x5
  have S1'' : Hid (RowAt w5 q1 low) := S1'.out.ext x5
  have X5 : Hid (Ext w w5) := X4.out.trans x5
  clear s5 s6 x5 X4 S1' S3 S4
  go_wp2_with fail
  refine (row_split S4'.out L3.out.2.1 1 (by simp)).mono ?_
  rintro e w6 ⟨q7, q8, rfl, s7, s8, x6⟩
  have S8 : Hid (RowAt w6 q8 high) := s8
  have R6 : Hid (RowAt w6 q6 mid) := S6.out.ext x6
  have R1 : Hid (RowAt w6 q1 low) := S1''.out.ext x6
  have X6 : Hid (Ext w w6) := X5.out.trans x6
  clear s7 s8 x6 X5 S1'' S4' S6
  have hrs : Hid (∀ (i : Nat) p, [(q1, low), (q8, high)][i]? = some p → (w6.alloc (.cells #[.pointer q1, .pointer q8] 68)).cell? ⟨w6.heap.size, i, none⟩ = some (.pointer p.1) ∧ RowAt (w6.alloc (.cells #[.pointer q1, .pointer q8] 68)) p.1 p.2) := by
    intro i p hp
    have hB := Blk.new w6 68 #[.pointer q1, .pointer q8]
    match i, hp with
    | 0, hp => simp at hp; subst hp; exact ⟨hB.cell 0, R1.out.ext (Ext.alloc _ _)⟩
    | 1, hp => simp at hp; subst hp; exact ⟨hB.cell 1, S8.out.ext (Ext.alloc _ _)⟩
    | i + 2, hp => simp at hp
  have hfl : [(q1, low), (q8, high)].flatMap (fun z : Option Addr × List Int => z.2) = low ++ high := by simp
  go_wp2_with fail
  refine (tjoin_any (m := 2) (c := 2) [(q1, low), (q8, high)] hrs.out (by simp) rfl (by omega) (by rw [hfl]; exact L3.out.2.2.1)).mono ?_
  rintro e w7 ⟨q9, rfl, s9, x7⟩
  rw [hfl] at s9
  have S9 := Lib.hid s9
  have x7' : Ext w6 w7 := (Ext.alloc w6 _).trans x7
  have M7 : Hid (RowAt w7 q6 mid) := R6.out.ext x7'
  have X7 : Hid (Ext w w7) := X6.out.trans x7'
  clear s9 x7 x7' hrs R1 R6 S8 X6 hfl
  have HB7 : Hid (Blk w7 F.fb 67 #[.map (some F.mb), F.rv n, .map (some F.eb)]) := HB0.out.chg (Chg.of_below X7.out) (by omega)
  have HR7 : Hid (RootAt w7 F n p) := own_chg HR.out (Chg.of_below X7.out) (fun k hk => by have := own_lt HR.out hk; omega)
  have CF := Lib.hid (cut_facts H.out HUV.out (HL.out ▸ HWAY.out))
  go_wp2_with fail
  refine (tset_any HB7.out h60.2 HR7.out HP.out.len (HV.out.ext X7.out) (by omega) M7.out L3.out.2.2.2 CF.out.1 CF.out.2.1).mono ?_
  rintro e w8 ⟨rfl, r1, p1, m1, s1, a1, a2, a3, a4, a5, a6⟩
  have hfb := H.out.fb_ne
  have HB8 : Hid (Blk w8 F.fb 67 #[.map (some F.mb), F.rv n, .map (some F.eb)]) := HB7.out.chg a6 (fun e => hfb (by rcases e with e | e; exact .inl e; exact .inr (.inl e)))
  have hsq7 : ∀ k, (k = F.mb ∨ k = F.rb) → ∀ cs, ¬ Blk w7 k 113 cs := fun k hk => (H.out.ext X7.out).noseq k (by rcases hk with e | e; exact .inl e; exact .inr (.inl e))
  have S98 : Hid (RowAt w8 q9 (low ++ high)) := S9.out.chg a6 hsq7
  have A1 : Hid ((r1 : Int) ∈ mks mid ∧ (∀ z ∈ mks mid, (r1 : Int) ≤ z) ∧ SetR n (mks mid) r1 q6 p m p1 m1 ∧ Chg (fun k => k = F.mb ∨ k = F.rb) w7 w8) := ⟨a1, a2, a3, a6⟩
  have P1 : Hid (p1.length = n) := by rw [Hid, a3.len]; exact HP.out.len
  have A4 := Lib.hid a4
  have A5 := Lib.hid a5
  clear a1 a2 a3 a4 a5 a6 hsq7 hfb HB7 HR7
  go_wp2_with fail
  refine (tset_any HB8.out h60.2 A4.out P1.out A5.out (by omega) S98.out L3.out.2.2.1 CF.out.2.2.1 CF.out.2.2.2).mono ?_
  rintro e w9 ⟨rfl, r2, p2, m2, s2, b1, b2, b3, b4, b5, b6⟩
  have HDEL := Lib.hid (H.out.cutted X7.out HP.out HW.out HUV.out (HL.out ▸ HWAY.out) M7.out S98.out A1.out.1 A1.out.2.1 A1.out.2.2.1 A1.out.2.2.2 b1 b2 b3 A4.out A5.out b4 b5 b6 (u : Int) (v : Int) rfl)
  have hb9 : Blk w9 F.fb 67 #[.map (some F.mb), F.rv n, .map (some F.eb)] := HB8.out.chg b6 (by
    have := H.out.fb_ne
    exact fun e => this (by rcases e with e | e; exact .inl e; exact .inr (.inl e)))
  have f2 : w9.cell? ⟨F.fb, 2, none⟩ = some (.map (some F.eb)) := hb9.cell 2
  have hl9 := hb9.lt
  have HK : Hid (∀ W, Ext w9 W → W.cell? ⟨F.fb, 2, none⟩ = some (.map (some F.eb))) := fun W hW => (hW.cell (p := ⟨F.fb, 2, none⟩) hl9).trans f2
  clear b1 b2 b3 b4 b5 b6 hb9 HB8 A1 A4 A5 P1 S98 S9 M7 CF X7 H HP HW HV HR HQ HL HWAY HUV HLEN HB0 HRL T1 T2 L3 LOHI z2 e9
  go_wp2
  go_region_held3 (fun w' => w'.cell? ⟨F.fb, 2, none⟩ = some (.map (some F.eb))) (go_keep)
    (first
      | (go_at_call 36; refine (of_any _ (u : Int) (v : Int)).mono ?_; rintro e w10 ⟨rfl, hb10⟩; have X10 : Hid (Ext w9 w10) := Ext.trans (Ext.drew _) hb10; have q10 : w10.cell? ⟨F.fb, 2, none⟩ = some (.map (some F.eb)) := HK.out _ X10.out; obtain ⟨W2, hr2, hf2, hc2, hq2⟩ := HDEL.out _ X10.out; have HF2 := Lib.hid hf2; have HC2 := Lib.hid hc2; clear hf2 hc2 hb10)
      | (refine step_vdel _ (by rfl) (.tmp 131) (.tmp 134) 65 38 (by rfl) _ _ (by rfl) (by rfl) W2 hr2 ?_)
      | fail)
  go_wp2
  go_ret
  exact ⟨rfl, HF2.out, HC2.out⟩
set_option maxHeartbeats 1000000 in
set_option maxRecDepth 100000 in
theorem tcut_B (h : FoAt w F n N E) (hN : N + 1 < 1000000) (u v : Nat) (huv : adj E u v) {p l low mid high : List Int} {s r : Nat} {m : Int → Option Value} {q : Option Addr} (h1 : Pts n E p) (h2 : RootAt w F n p) (h3 : VM kI w F.mb N s m) (h4 : WaysAt w n E p m)
    (hp : PD.g p v = r) (hm : m r = some (.pointer q)) (hq : RowAt w q l) (hway : TR.Way (adj E) u l) (hl : l = low ++ st u v :: mid ++ st v u :: high) :
    Calls Try.prog 13 #[.pointer (some ⟨F.fb, 0, none⟩), .int .i64 v, .int .i64 u] w (CutPost w F n N (cutE (AK.ek u v) E)) := by
  have h60 := h.hn
  obtain ⟨hu, hv, hne⟩ := adj_in h.fo.ok huv
  have hlen : l.length ≤ 180 := hway.len h.fo h60.2
  have c0 : w.cell? ⟨F.fb, 0, none⟩ = some (.map (some F.mb)) := h.blk.cell 0
  have c1 : w.cell? ⟨F.fb, 1, none⟩ = some (.slice (some ⟨F.rb, 0, none⟩) n F.c) := h.blk.cell 1
  have c2 : w.cell? ⟨F.fb, 2, none⟩ = some (.map (some F.eb)) := h.blk.cell 2
  have e1 := root_cell h2 h1.len (a := v) (by omega)
  rw [hp] at e1
  obtain ⟨me, k1, k2⟩ := h.edges
  have hek : AK.ek (v : Int) u = AK.ek u v := (GMek v u)
  have hlk : ∀ d os, (Instr.lookup 65 (.map (some F.eb)) (edV (AK.ek (v : Int) u)) false).run Try.prog (Sort.grow (redrawn w d) os) = .ok (.int .i64 1) (Sort.grow (redrawn w d) os) := fun d os => by
    have hok : okE (AK.ek u v) := okE_of (by unfold AK.ek; simp only; omega) (by unfold AK.ek; simp only; omega)
    have := (k1.ext (below_regrown w d os)).look Try.underlying65 (zeroInt _) (AK.ek u v) hok
    rw [k2 _ hok, if_pos ((adj_ek (a := u) (b := v) h.fo.lt hne).2 huv)] at this
    rw [hek]
    exact this
  have hlw : ∀ W, Ext w W → (Instr.lookup 64 (.map (some F.mb)) (.int .i64 r) false).run Try.prog W = .ok (.pointer q) W := fun W hW => by
    have := (h3.ext hW).look Try.underlying64 (zeroSeq _) (r : Int) (WalkArith.wf_i64 (by
      have := h1.pa v (by omega)
      obtain ⟨r', q1, q2, _⟩ := this
      omega))
    rw [hm] at this
    exact this
  have hrn : r < n := by
    obtain ⟨r', q1, q2, _⟩ := h1.pa v (by omega)
    omega
  obtain ⟨lo, hlo⟩ : ∃ lo, lo = low.length := ⟨_, rfl⟩
  obtain ⟨hi, hhi⟩ : ∃ hi, hi = low.length + 1 + mid.length := ⟨_, rfl⟩
  have LOHI : Hid (lo < hi ∧ hi < l.length) := ⟨by omega, by rw [hl]; simp; omega⟩
  have I1 : Hid (l[lo]? = some (st u v) ∧ l.Nodup) := ⟨by rw [hl, hlo]; simp, hway.nd⟩
  have I2 : Hid (l[hi]? = some (st v u) ∧ l.Nodup) := ⟨by
    have e : hi = (low ++ st u v :: mid).length := by rw [hhi]; simp; omega
    rw [hl, e, List.getElem?_append_right (Nat.le_refl _), Nat.sub_self]; rfl, hway.nd⟩
  obtain ⟨R, hR⟩ : ∃ R, R = st u v :: mid ++ st v u :: high := ⟨_, rfl⟩
  have T1 : Hid (l.take lo = low ∧ l.drop lo = R ∧ R.length ≤ 400) := ⟨by rw [hl, hlo]; simp, by rw [hl, hlo, hR]; simp, by rw [hR]; rw [hl] at hlen; simp at hlen ⊢; omega⟩
  obtain ⟨d, hd⟩ : ∃ d, d = hi - lo := ⟨_, rfl⟩
  have T2 : Hid (R.take d = st u v :: mid ∧ R.drop d = st v u :: high ∧ d ≤ R.length) := by
    have e : d = (st u v :: mid).length := by rw [hd, hlo, hhi]; simp; omega
    rw [e, hR]
    exact ⟨List.take_left' rfl, List.drop_left' rfl, by simp⟩
  have L3 : Hid ((st u v :: mid).length ≤ 400 ∧ (st v u :: high).length ≤ 400 ∧ (low ++ high).length ≤ 400 ∧ mid.length ≤ 400) := by
    rw [hl] at hlen; simp at hlen
    exact ⟨by simp; omega, by simp; omega, by simp; omega, by omega⟩
  have N1 := Lib.hid (tnode_any h (v : Int) true (by simp; omega))
  have N2 := Lib.hid (tnode_any h (u : Int) true (by simp; omega))
  have z1 : (v : Int) < (n : Int) := by omega
  have z2 : (lo : Int) < (hi : Int) := by have := LOHI.out; omega
  have zmin : min (hi : Int) (lo : Int) = (lo : Int) := by omega
  have zmax : max (hi : Int) (lo : Int) = (hi : Int) := by omega
  have e9 : (hi : Int) - (lo : Int) = (d : Int) := by have := LOHI.out; omega
  have zd : d ≤ 400 := by have := LOHI.out; omega
  have e10 : IntKind.i64.wrap (d : Int) = (d : Int) := IntWalk.i64_in _ (by omega)
  have H := Lib.hid h
  have HP := Lib.hid h1
  have HW := Lib.hid h4
  have HV := Lib.hid h3
  have HR := Lib.hid h2
  have HQ := Lib.hid hq
  have HL := Lib.hid hl
  have HWAY := Lib.hid hway
  have HUV := Lib.hid huv
  have HLEN := Lib.hid hlen
  have ST1 := Lib.hid (fun W => tstep_any W u v (by omega) (by omega))
  have ST2 := Lib.hid (fun W => tstep_any W v u (by omega) (by omega))
  have HB0 := Lib.hid h.blk
  have hlt := h.blk.lt
  have HRL : Hid (F.rb < w.heap.size) := own_lt h2 (by simp [FoP.rv, Value.ownBlock])
  clear h h1 h2 h3 h4 hq hway hl huv hlen k1 k2 hhi hlo hR hek hp hm hd
  go_enter Try.func13, Try.ntmps13
  go_wp2_with fail
  refine N1.out.mono ?_
  rintro e w' ⟨rfl, rfl⟩
  go_wp2_with fail
  refine N2.out.mono ?_
  rintro e w' ⟨rfl, rfl⟩
  go_wp2
  have g2 : ∀ d os, (Sort.grow (redrawn w d) os).cell? ⟨F.fb, 2, none⟩ = some (.map (some F.eb)) := fun d os => cell_regrown c2 d os
  refine wp_region_quiet_below (by kernel_rfl) (by kernel_rfl) ?_
  repeat (go_big_quiet_step ((go_at_call 36; exact Calls.regrown_of (of_any _ (v : Int) (u : Int)))))
  refine wpQuiet_nil ?_
  intro _ hw'
  obtain ⟨⟨dq, osq⟩, hw''⟩ := hw'
  subst hw''
  have X0 : Hid (Ext w (Sort.grow (redrawn w dq) osq)) := below_regrown w dq osq
  generalize Sort.grow (redrawn w dq) osq = w0 at X0 ⊢
  clear N1 N2 hlk g2 c2
  have d0 : w0.cell? ⟨F.fb, 0, none⟩ = some (.map (some F.mb)) := (X0.out.cell (p := ⟨F.fb, 0, none⟩) hlt).trans c0
  have d1 : w0.cell? ⟨F.fb, 1, none⟩ = some (.slice (some ⟨F.rb, 0, none⟩) n F.c) := (X0.out.cell (p := ⟨F.fb, 1, none⟩) hlt).trans c1
  have d2 : w0.cell? ⟨F.rb, v, none⟩ = some (.int .i64 r) := (X0.out.cell (p := ⟨F.rb, v, none⟩) HRL.out).trans e1
  have hlw0 : ∀ k, (Instr.lookup 64 (.map (some F.mb)) (.int .i64 r) false).run Try.prog (w0.drewN k) = .ok (.pointer q) (w0.drewN k) := fun k => hlw _ (X0.out.trans (Ext.drewN w0 k))
  clear c0 c1 e1 hlw
  go_wp2
  go_quiet (fail)
  have X1 : Hid (Ext w (w0.drewN nq)) := X0.out.trans (Ext.drewN w0 nq)
  generalize w0.drewN nq = w1 at X1 ⊢
  clear d0 d1 d2 hlw0 X0
  go_wp2_with fail
  refine (row_list (HQ.out.ext X1.out) (by have := HLEN.out; omega)).mono ?_
  rintro e w2 ⟨A, c, rfl, ho, hx, hnw⟩
  have HO := Lib.hid ho
  have X2 : Hid (Ext w w2) := X1.out.trans hx
  clear ho hx hnw X1
  go_wp2_with fail
  refine (ST2.out _).mono ?_
  rintro e w' ⟨rfl, rfl⟩
  go_wp2_with fail
  refine (index_any w2 A c l hi _ HO.out I2.out.1 I2.out.2 (by have := HLEN.out; omega)).mono ?_
  rintro e w2' ⟨rfl, hw2⟩
  obtain rfl : w2 = w2' := hw2.symm
  go_wp2_with fail
  refine (ST1.out _).mono ?_
  rintro e w' ⟨rfl, rfl⟩
  go_wp2_with fail
  refine (index_any w2 A c l lo _ HO.out I1.out.1 I1.out.2 (by have := HLEN.out; omega)).mono ?_
  rintro e w2' ⟨rfl, hw2⟩
  obtain rfl : w2 = w2' := hw2.symm
  go_wp2_with fail
  refine (row_split (HQ.out.ext X2.out) (by have := HLEN.out; omega) lo (by have := LOHI.out; omega)).mono ?_
  rintro e w3 ⟨q1, q2, rfl, s1, s2, x3⟩
  have S1 : Hid (RowAt w3 q1 low) := by rw [T1.out.1] at s1; exact s1
  have S2 : Hid (RowAt w3 q2 R) := by rw [T1.out.2.1] at s2; exact s2
  have X3 : Hid (Ext w w3) := X2.out.trans x3
  clear s1 s2 x3 X2 HO I1 I2 ST1 ST2
  go_wp2_with fail
  refine (row_split S2.out T1.out.2.2 d T2.out.2.2).mono ?_
  rintro e w4 ⟨q3, q4, rfl, s3, s4, x4⟩
  have S3 : Hid (RowAt w4 q3 (st u v :: mid)) := by rw [T2.out.1] at s3; exact s3
  have S4 : Hid (RowAt w4 q4 (st v u :: high)) := by rw [T2.out.2.1] at s4; exact s4
  have S1' : Hid (RowAt w4 q1 low) := S1.out.ext x4
  have X4 : Hid (Ext w w4) := X3.out.trans x4
  clear s3 s4 x4 X3 S1 S2
  go_wp2_with fail
  refine (row_split S3.out L3.out.1 1 (by simp)).mono ?_
  rintro e w5 ⟨q5, q6, rfl, s5, s6, x5⟩
  have S6 : Hid (RowAt w5 q6 mid) := s6
  have S4' : Hid (RowAt w5 q4 (st v u :: high)) := S4.out.ext x5
  have S1'' : Hid (RowAt w5 q1 low) := S1'.out.ext x5
  have X5 : Hid (Ext w w5) := X4.out.trans x5
  clear s5 s6 x5 X4 S1' S3 S4
  go_wp2_with fail
  refine (row_split S4'.out L3.out.2.1 1 (by simp)).mono ?_
  rintro e w6 ⟨q7, q8, rfl, s7, s8, x6⟩
  have S8 : Hid (RowAt w6 q8 high) := s8
  have R6 : Hid (RowAt w6 q6 mid) := S6.out.ext x6
  have R1 : Hid (RowAt w6 q1 low) := S1''.out.ext x6
  have X6 : Hid (Ext w w6) := X5.out.trans x6
  clear s7 s8 x6 X5 S1'' S4' S6
  have hrs : Hid (∀ (i : Nat) p, [(q1, low), (q8, high)][i]? = some p → (w6.alloc (.cells #[.pointer q1, .pointer q8] 68)).cell? ⟨w6.heap.size, i, none⟩ = some (.pointer p.1) ∧ RowAt (w6.alloc (.cells #[.pointer q1, .pointer q8] 68)) p.1 p.2) := by
    intro i p hp
    have hB := Blk.new w6 68 #[.pointer q1, .pointer q8]
    match i, hp with
    | 0, hp => simp at hp; subst hp; exact ⟨hB.cell 0, R1.out.ext (Ext.alloc _ _)⟩
    | 1, hp => simp at hp; subst hp; exact ⟨hB.cell 1, S8.out.ext (Ext.alloc _ _)⟩
    | i + 2, hp => simp at hp
  have hfl : [(q1, low), (q8, high)].flatMap (fun z : Option Addr × List Int => z.2) = low ++ high := by simp
  go_wp2_with fail
  refine (tjoin_any (m := 2) (c := 2) [(q1, low), (q8, high)] hrs.out (by simp) rfl (by omega) (by rw [hfl]; exact L3.out.2.2.1)).mono ?_
  rintro e w7 ⟨q9, rfl, s9, x7⟩
  rw [hfl] at s9
  have S9 := Lib.hid s9
  have x7' : Ext w6 w7 := (Ext.alloc w6 _).trans x7
  have M7 : Hid (RowAt w7 q6 mid) := R6.out.ext x7'
  have X7 : Hid (Ext w w7) := X6.out.trans x7'
  clear s9 x7 x7' hrs R1 R6 S8 X6 hfl
  have HB7 : Hid (Blk w7 F.fb 67 #[.map (some F.mb), F.rv n, .map (some F.eb)]) := HB0.out.chg (Chg.of_below X7.out) (by omega)
  have HR7 : Hid (RootAt w7 F n p) := own_chg HR.out (Chg.of_below X7.out) (fun k hk => by have := own_lt HR.out hk; omega)
  have CF := Lib.hid (cut_facts H.out HUV.out (HL.out ▸ HWAY.out))
  go_wp2_with fail
  refine (tset_any HB7.out h60.2 HR7.out HP.out.len (HV.out.ext X7.out) (by omega) M7.out L3.out.2.2.2 CF.out.1 CF.out.2.1).mono ?_
  rintro e w8 ⟨rfl, r1, p1, m1, s1, a1, a2, a3, a4, a5, a6⟩
  have hfb := H.out.fb_ne
  have HB8 : Hid (Blk w8 F.fb 67 #[.map (some F.mb), F.rv n, .map (some F.eb)]) := HB7.out.chg a6 (fun e => hfb (by rcases e with e | e; exact .inl e; exact .inr (.inl e)))
  have hsq7 : ∀ k, (k = F.mb ∨ k = F.rb) → ∀ cs, ¬ Blk w7 k 113 cs := fun k hk => (H.out.ext X7.out).noseq k (by rcases hk with e | e; exact .inl e; exact .inr (.inl e))
  have S98 : Hid (RowAt w8 q9 (low ++ high)) := S9.out.chg a6 hsq7
  have A1 : Hid ((r1 : Int) ∈ mks mid ∧ (∀ z ∈ mks mid, (r1 : Int) ≤ z) ∧ SetR n (mks mid) r1 q6 p m p1 m1 ∧ Chg (fun k => k = F.mb ∨ k = F.rb) w7 w8) := ⟨a1, a2, a3, a6⟩
  have P1 : Hid (p1.length = n) := by rw [Hid, a3.len]; exact HP.out.len
  have A4 := Lib.hid a4
  have A5 := Lib.hid a5
  clear a1 a2 a3 a4 a5 a6 hsq7 hfb HB7 HR7
  go_wp2_with fail
  refine (tset_any HB8.out h60.2 A4.out P1.out A5.out (by omega) S98.out L3.out.2.2.1 CF.out.2.2.1 CF.out.2.2.2).mono ?_
  rintro e w9 ⟨rfl, r2, p2, m2, s2, b1, b2, b3, b4, b5, b6⟩
  have HDEL := Lib.hid (H.out.cutted X7.out HP.out HW.out HUV.out (HL.out ▸ HWAY.out) M7.out S98.out A1.out.1 A1.out.2.1 A1.out.2.2.1 A1.out.2.2.2 b1 b2 b3 A4.out A5.out b4 b5 b6 (v : Int) (u : Int) (GMek v u))
  have hb9 : Blk w9 F.fb 67 #[.map (some F.mb), F.rv n, .map (some F.eb)] := HB8.out.chg b6 (by
    have := H.out.fb_ne
    exact fun e => this (by rcases e with e | e; exact .inl e; exact .inr (.inl e)))
  have f2 : w9.cell? ⟨F.fb, 2, none⟩ = some (.map (some F.eb)) := hb9.cell 2
  have hl9 := hb9.lt
  have HK : Hid (∀ W, Ext w9 W → W.cell? ⟨F.fb, 2, none⟩ = some (.map (some F.eb))) := fun W hW => (hW.cell (p := ⟨F.fb, 2, none⟩) hl9).trans f2
  clear b1 b2 b3 b4 b5 b6 hb9 HB8 A1 A4 A5 P1 S98 S9 M7 CF X7 H HP HW HV HR HQ HL HWAY HUV HLEN HB0 HRL T1 T2 L3 LOHI z2 e9
  go_wp2
  go_region_held3 (fun w' => w'.cell? ⟨F.fb, 2, none⟩ = some (.map (some F.eb))) (go_keep)
    (first
      | (go_at_call 36; refine (of_any _ (v : Int) (u : Int)).mono ?_; rintro e w10 ⟨rfl, hb10⟩; have X10 : Hid (Ext w9 w10) := Ext.trans (Ext.drew _) hb10; have q10 : w10.cell? ⟨F.fb, 2, none⟩ = some (.map (some F.eb)) := HK.out _ X10.out; obtain ⟨W2, hr2, hf2, hc2, hq2⟩ := HDEL.out _ X10.out; have HF2 := Lib.hid hf2; have HC2 := Lib.hid hc2; clear hf2 hc2 hb10)
      | (refine step_vdel _ (by rfl) (.tmp 131) (.tmp 134) 65 38 (by rfl) _ _ (by rfl) (by rfl) W2 hr2 ?_)
      | fail)
  go_wp2
  go_ret
  exact ⟨rfl, HF2.out, HC2.out⟩
end
end Go.Proofs.Ytlcnoihmhaaekaa
