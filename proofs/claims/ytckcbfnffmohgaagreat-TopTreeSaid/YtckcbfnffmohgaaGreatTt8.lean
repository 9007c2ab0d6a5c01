/-
  Walk of tour's Link. Condition: the forest lies in memory as 'FoAt' says.
  Walk of tour's Link: two trees become one. Condition: the forest lies in memory as 'FoAt' says.
  Walk of tour's Cut: errors; what holds behind it. Condition: the forest lies in memory as 'FoAt' says.
  Walk of tour's Cut: a tree falls in two. Condition: the forest lies in memory as 'FoAt' says.
-/
import Derived.Test.YtckcbfnffmohgaaGreatTt6
import Derived.Test.YtckcbfnffmohgaaGreatTt7
import Derived.Deep.RegionHeld3
import Derived.Deep.RegionHeldLaw
import Derived.Lib.QuietBelow
namespace Go.Proofs.YtckcbfnffmohgaaGreat
open Go Go.RowKit SQ TR DF PD
set_option linter.unusedVariables false

theorem step_vput {P : Program} (w : World) {ops : Array Oper} {o : Oper} {a : Act} {K : Act → World → Prop} {Q : Exit → Act → World → Prop} {Z : Prop} (hgd : o.guard = none) (m x v : Operand) (t : TypeId)
    (ho : o.op = Op.mapUpdate t m x v) (vm vx vv : Value) (hm : a.eval m = vm) (hx : a.eval x = vx) (hv : a.eval v = vv) (w' : World) (hr : (Instr.mapUpdate t vm vx vv).run P w = .ok () w') (h : K (a.put o.dst undef) w') :
    if Region.wanted o (yielded ops a.tmps) = true then Oper.wp P o a w K Q else Z := by
  have hw : Region.wanted o (yielded ops a.tmps) = true := by simp [Region.wanted, hgd]
  rw [if_pos hw]
  unfold Oper.wp
  simp [execOp, ho, hm, hx, hv, hr, Result.andThen]
  exact h
theorem step_vdel {P : Program} (w : World) {ops : Array Oper} {o : Oper} {a : Act} {K : Act → World → Prop} {Q : Exit → Act → World → Prop} {Z : Prop} (hgd : o.guard = none) (m x : Operand) (t k : TypeId)
    (ho : o.op = Op.call { callee := Callee.builtin Builtin.delete, args := #[m, x], argTypes := #[t, k] }) (vm vx : Value) (hm : a.eval m = vm) (hx : a.eval x = vx) (w' : World) (hr : ∀ ty, (Builtin.delete_ #[t, k] ty #[vm, vx]).run P w = .ok (.tuple #[]) w') (h : K (a.put o.dst (.tuple #[])) w') :
    if Region.wanted o (yielded ops a.tmps) = true then Oper.wp P o a w K Q else Z := by
  have hw : Region.wanted o (yielded ops a.tmps) = true := by simp [Region.wanted, hgd]
  rw [if_pos hw]
  unfold Oper.wp
  simp [execOp, ho, resolve, invoke, builtin, hm, hx, hr, Result.andThen]
  exact h
section
variable {w : World} {F : FoP} {n N : Nat} {E : List AK.Ed}
theorem root_cell {p : List Int} (h : RootAt w F n p) (hl : p.length = n) {a : Nat} (ha : a < n) : w.cell? ⟨F.rb, a, none⟩ = some (.int .i64 (PD.g p a)) := by
  rw [h.cellAt a (by omega), intsV, List.getElem?_map, List.getElem?_eq_getElem (by omega)]
  simp [PD.g, List.getD_eq_getElem?_getD, List.getElem?_eq_getElem (show a < p.length by omega)]
def LinkPost (w : World) (F : FoP) (n N : Nat) (E : List AK.Ed) (e : Ending) (w' : World) : Prop := e = .returned .nilIface ∧ FoAt w' F n (N + 1) E ∧ Chg F.S w w'
theorem ints_one (w : World) (z : Int) (t : TypeId) : IntsAt (w.alloc (.cells #[.int .i64 z] t)) (some ⟨w.heap.size, 0, none⟩) [z] :=
  .inr ⟨w.heap.size, 0, rfl, by simp, fun i v hv => by
    have hi : i = 0 := by have := (List.getElem?_eq_some_iff.1 hv).1; simp at this; omega
    subst hi
    have : z = v := by simpa using hv
    subst this
    exact (Blk.new w t #[.int .i64 z]).cell 0⟩
/-- Behind the ways' setting and the edge's the forest is that with the edge. -/
theorem FoAt.linked {w5 w6 : World} {a b r : Nat} {q : Option Addr} {x y p p' : List Int} {m m' : Int → Option Value} {s' : Nat} (h : FoAt w F n N E) (hx5 : Ext w w5) (hP : Pts n E p) (hW : WaysAt w n E p m) (ha : a < n) (hb : b < n) (hc : ¬ Cn (adj E) a b)
    (hx : TR.Way (adj E) a x) (hy : TR.Way (adj E) b y) (kx : TR.Go (adj E) a x a) (ky : TR.Go (adj E) b y b) (hq : RowAt w5 q (x ++ (st a b :: y) ++ [st b a]))
    (hr : (r : Int) ∈ mks (x ++ (st a b :: y) ++ [st b a])) (hmin : ∀ z ∈ mks (x ++ (st a b :: y) ++ [st b a]), (r : Int) ≤ z) (hs : SetR n (mks (x ++ (st a b :: y) ++ [st b a])) r q p m p' m')
    (hR : RootAt w6 F n p') (hV : VM kI w6 F.mb (N + 1) s' m') (hc6 : Chg (fun k => k = F.mb ∨ k = F.rb) w5 w6) (hN : N < 1000000) :
    ∀ W, Ext w6 W → ∃ W2, (Instr.mapUpdate 147 (.map (some F.eb)) (edV (AK.ek a b)) (.int .i64 1)).run Tryz.prog W = .ok () W2 ∧ FoAt W2 F n (N + 1) (putE (AK.ek a b) E) ∧ Chg F.S w W2 ∧ W2.cell? ⟨F.fb, 2, none⟩ = some (.map (some F.eb)) := by
  intro W hW6
  have hab : a ≠ b := fun e => hc (e ▸ .refl _)
  have h60 := h.hn
  have noseq := h.noseq
  have hsq : ∀ k, (k = F.mb ∨ k = F.rb) → ∀ cs, ¬ Blk w5 k 189 cs := fun k hk => (h.ext hx5).noseq k (by rcases hk with e | e; exact .inl e; exact .inr (.inl e))
  have hq6 : RowAt w6 q (x ++ (st a b :: y) ++ [st b a]) := hq.chg hc6 hsq
  have hWays6 : WaysAt w6 n E p m := fun r hr hg => by
    obtain ⟨q, l, a1, a2, a3⟩ := hW r hr hg
    exact ⟨q, l, a1, (a2.ext hx5).chg hc6 hsq, a3⟩
  obtain ⟨P', W'⟩ := link_state h60.2 h.fo hP hWays6 ha hb hc hx hy kx ky hq6 hr hmin hs
  obtain ⟨me, k1, k2⟩ := h.edges
  have hfb := h.fb_ne
  have k6 : VM kE W F.eb N E.length me := (((k1.ext hx5).chg hc6 (by
    obtain ⟨p0, s0, m0, _, b2, b3, _⟩ := h.ways
    rintro (e | e)
    · exact h.ne e.symm
    · exact k1.own_ne b2 (by simp [FoP.rv, Value.ownBlock, e]))).ext hW6)
  have hok : okE (AK.ek a b) := okE_of (by unfold AK.ek; simp only; omega) (by unfold AK.ek; simp only; omega)
  have hnE : AK.ek a b ∉ E := fun w => hc (.edge ((adj_ek (a := a) (b := b) h.fo.lt hab).1 w))
  obtain ⟨W2, hrun, hv2, hc2, hsz⟩ := k6.put Tryz.underlying147 (by omega) (AK.ek a b) hok (.int .i64 1)
  have hblk : Blk W2 F.fb 149 #[.map (some F.mb), F.rv n, .map (some F.eb)] := (((h.blk.chg (Chg.of_below hx5) (by have := h.blk.lt; omega)).chg hc6 (fun e => hfb (by rcases e with e | e; exact .inl e; exact .inr (.inl e)))).chg (Chg.of_below hW6) (by
    have := h.blk.lt; have := hx5.size; have := hc6.size; omega)).chg hc2 (fun e => hfb (.inr (.inr e)))
  have hRW : RootAt W F n p' := own_chg hR (Chg.of_below hW6) (fun k hk => by have := own_lt hR hk; omega)
  have hVW : VM kI W F.mb (N + 1) s' m' := hV.ext hW6
  have hsqW : ∀ k, k = F.eb → ∀ cs, ¬ Blk W k 189 cs := fun k hk cs hbk => by subst hk; exact k6.blk_ne hbk rfl
  refine ⟨W2, hrun, ⟨hblk, h60, h.fo.put ha hb hc, h.ne, ⟨p', s', m', P', own_chg hRW hc2 (fun k hk e => by
      have : F.rb = k := by simpa [FoP.rv, Value.ownBlock] using hk
      exact k6.own_ne hRW (by simp [FoP.rv, Value.ownBlock, this, e])), hVW.chg hc2 h.ne, fun r hr hg => ?_⟩, ⟨updV me (AK.ek a b) (some (.int .i64 1)), ?_, fun z hz => ?_⟩⟩, ?_, hblk.cell 2⟩
  · obtain ⟨q, l, a1, a2, a3⟩ := W' r hr hg
    exact ⟨q, l, a1, (a2.ext hW6).chg hc2 hsqW, a3⟩
  · have hm : me (AK.ek a b) = none := by rw [k2 _ hok, if_neg hnE]
    rw [putE_length]
    rw [hm] at hv2
    exact hv2
  · by_cases e : z = AK.ek a b
    · subst e
      rw [updV, if_pos rfl, if_pos (putE_mem.2 (.inl rfl))]
    · rw [updV, if_neg e, k2 z hz]
      by_cases q : z ∈ E
      · rw [if_pos q, if_pos (putE_mem.2 (.inr q))]
      · rw [if_neg q, if_neg (fun w => (putE_mem.1 w).elim e q)]
  · exact ((((Chg.new hx5 F.S).trans hc6 (fun i _ hi => by rcases hi with e | e; exact .inl e; exact .inr (.inl e))).trans (Chg.new hW6 F.S) (fun i _ hi => hi)).trans hc2 (fun i _ hi => .inr (.inr hi)))
end
end Go.Proofs.YtckcbfnffmohgaaGreat
namespace Go.Proofs.YtckcbfnffmohgaaGreat
open Go Go.RowKit SQ TR DF PD
set_option linter.unusedVariables false

section
variable {w : World} {F : FoP} {n N : Nat} {E : List AK.Ed}
set_option maxHeartbeats 4000000 in
set_option maxRecDepth 100000 in
theorem tlink_ok (h : FoAt w F n N E) (hN : N < 1000000) (a b : Nat) (ha : a < n) (hb : b < n) (hc : ¬ Cn (adj E) a b) :
    Calls Tryz.prog 58 #[.pointer (some ⟨F.fb, 0, none⟩), .int .i64 a, .int .i64 b] w (LinkPost w F n N (putE (AK.ek a b) E)) := by
  have c1 : w.cell? ⟨F.fb, 1, none⟩ = some (.slice (some ⟨F.rb, 0, none⟩) n F.c) := h.blk.cell 1
  obtain ⟨p, s, m, h1, h2, h3, h4⟩ := h.ways
  have h60 := h.hn
  have e1 := root_cell h2 h1.len ha
  have e2 := root_cell h2 h1.len hb
  have hg : (PD.g p a == PD.g p b) = false := by
    rw [beq_eq_false_iff_ne]
    exact fun e => hc ((h1.joined ha hb).1 e)
  generalize PD.g p a = ra at e1 hg
  generalize PD.g p b = rb at e2 hg
  have N1 := Lib.hid (tnode_any h a true (by simp [ha]))
  have N2 := Lib.hid (tnode_any h b true (by simp [hb]))
  have z1 : (a : Int) < (n : Int) := by omega
  have z2 : (b : Int) < (n : Int) := by omega
  have H := Lib.hid h
  have HP := Lib.hid h1
  have HW := Lib.hid h4
  have HV := Lib.hid h3
  have HR := Lib.hid h2
  have HC := Lib.hid hc
  have ST1 := Lib.hid (fun W => tstep_any W a b (by omega) (by omega))
  have ST2 := Lib.hid (fun W => tstep_any W b a (by omega) (by omega))
  clear h h1 h2 h3 h4 hc
  go_enter Tryz.func58, Tryz.ntmps58
  go_wp2_with fail
  refine N1.out.mono ?_
  rintro e w' ⟨rfl, rfl⟩
  go_wp2_with fail
  refine N2.out.mono ?_
  rintro e w' ⟨rfl, rfl⟩
  go_wp2
  go_quiet (fail)
  have X0 : Hid (Ext w (w.drewN nq)) := Ext.drewN _ _
  generalize w.drewN nq = w0 at X0 ⊢
  clear N1 N2 e1 e2 c1 hg
  have H0 : Hid (FoAt w0 F n N E) := H.out.ext X0.out
  go_wp2_with fail
  refine (tfrom_any H0.out a ha).mono ?_
  rintro e w1 ⟨q1, x, rfl, s1, y1, g1, x1⟩
  have S1 := Lib.hid s1
  have Y1 := Lib.hid y1
  have G1 := Lib.hid g1
  have X1 : Hid (Ext w w1) := X0.out.trans x1
  have H1 : Hid (FoAt w1 F n N E) := H.out.ext X1.out
  clear s1 y1 g1 x1 H0
  go_wp2_with fail
  refine (tfrom_any H1.out b hb).mono ?_
  rintro e w2 ⟨q2, y, rfl, s2, y2, g2, x2⟩
  have S2 := Lib.hid s2
  have Y2 := Lib.hid y2
  have G2 := Lib.hid g2
  have S1' : Hid (RowAt w2 q1 x) := S1.out.ext x2
  have X2 : Hid (Ext w w2) := X1.out.trans x2
  have LX : Hid (x.length ≤ 180 ∧ y.length ≤ 180) := ⟨Y1.out.len H.out.fo h60.2, Y2.out.len H.out.fo h60.2⟩
  clear s2 y2 g2 x2 H1 S1 X1
  go_wp2_with fail
  refine (ST1.out _).mono ?_
  rintro e w' ⟨rfl, rfl⟩
  go_wp2_with fail
  refine (row_of (n := 1) (c := 1) (ints_one _ _ _) rfl (by omega)).mono ?_
  rintro e w3 ⟨q3, rfl, s3, x3⟩
  have x3' : Ext w2 w3 := (Ext.alloc w2 _).trans x3
  have S3 := Lib.hid s3
  have S1'' : Hid (RowAt w3 q1 x) := S1'.out.ext x3'
  have S2' : Hid (RowAt w3 q2 y) := S2.out.ext x3'
  have X3 : Hid (Ext w w3) := X2.out.trans x3'
  clear s3 x3 x3' X2 S1' S2
  go_wp2_with fail
  refine (ST2.out _).mono ?_
  rintro e w' ⟨rfl, rfl⟩
  go_wp2_with fail
  refine (row_of (n := 1) (c := 1) (ints_one _ _ _) rfl (by omega)).mono ?_
  rintro e w4 ⟨q4, rfl, s4, x4⟩
  have x4' : Ext w3 w4 := (Ext.alloc w3 _).trans x4
  have R1 : Hid (RowAt w4 q1 x) := S1''.out.ext x4'
  have R2 : Hid (RowAt w4 q2 y) := S2'.out.ext x4'
  have R3 : Hid (RowAt w4 q3 [st a b]) := S3.out.ext x4'
  have R4 : Hid (RowAt w4 q4 [st b a]) := s4
  have X4 : Hid (Ext w w4) := X3.out.trans x4'
  clear s4 x4 x4' X3 S1'' S2' S3 ST1 ST2
  have hrs : Hid (∀ (i : Nat) p, [(q1, x), (q3, [st a b]), (q2, y), (q4, [st b a])][i]? = some p → (w4.alloc (.cells #[.pointer q1, .pointer q3, .pointer q2, .pointer q4] 150)).cell? ⟨w4.heap.size, i, none⟩ = some (.pointer p.1) ∧ RowAt (w4.alloc (.cells #[.pointer q1, .pointer q3, .pointer q2, .pointer q4] 150)) p.1 p.2) := by
    intro i p hp
    have hB := Blk.new w4 150 #[.pointer q1, .pointer q3, .pointer q2, .pointer q4]
    match i, hp with
    | 0, hp => simp at hp; subst hp; exact ⟨hB.cell 0, R1.out.ext (Ext.alloc _ _)⟩
    | 1, hp => simp at hp; subst hp; exact ⟨hB.cell 1, R3.out.ext (Ext.alloc _ _)⟩
    | 2, hp => simp at hp; subst hp; exact ⟨hB.cell 2, R2.out.ext (Ext.alloc _ _)⟩
    | 3, hp => simp at hp; subst hp; exact ⟨hB.cell 3, R4.out.ext (Ext.alloc _ _)⟩
    | i + 4, hp => simp at hp
  have hfl : [(q1, x), (q3, [st a b]), (q2, y), (q4, [st b a])].flatMap (fun z : Option Addr × List Int => z.2) = x ++ (st a b :: y) ++ [st b a] := by simp
  have hll : (x ++ (st a b :: y) ++ [st b a]).length ≤ 400 := by have := LX.out; simp; omega
  go_wp2_with fail
  refine (tjoin_any (m := 4) (c := 4) [(q1, x), (q3, [st a b]), (q2, y), (q4, [st b a])] hrs.out (by simp) rfl (by omega) (by rw [hfl]; exact hll)).mono ?_
  rintro e w5 ⟨q5, rfl, s5, x5⟩
  rw [hfl] at s5
  have S5 := Lib.hid s5
  have X5 : Hid (Ext w w5) := X4.out.trans ((Ext.alloc w4 _).trans x5)
  clear s5 x5 hrs R1 R2 R3 R4 X4 hfl
  have HB5 : Hid (Blk w5 F.fb 149 #[.map (some F.mb), F.rv n, .map (some F.eb)]) := (H.out.ext X5.out).blk
  have HR5 : Hid (RootAt w5 F n p) := own_chg HR.out (Chg.of_below X5.out) (fun k hk => by have := own_lt HR.out hk; omega)
  have hway : TR.Way (adj (putE (AK.ek a b) E)) a (x ++ (st a b :: y) ++ [st b a]) := by
    have he : adj (putE (AK.ek a b) E) = Ad (adj E) a b := funext fun u => funext fun v => propext (adj_put u v)
    rw [he]
    exact TR.Way.link (fun u v e => adj_symm e) (fun u v e => by have := adj_in H.out.fo.ok e; omega) (by omega) (by omega) HC.out Y1.out Y2.out G1.out G2.out
  have hmks := hway.mks ha (H.out.fo.put ha hb HC.out) h60.2
  have h0 : 0 < (mks (x ++ (st a b :: y) ++ [st b a])).length := List.length_pos_of_mem (hmks.2.2 a ha (.refl _))
  have HM : Hid (∀ z ∈ mks (x ++ (st a b :: y) ++ [st b a]), ∃ v : Nat, z = v ∧ v < n) := fun z hz => by
    obtain ⟨v, a1, a2, _⟩ := hmks.2.1 z hz; exact ⟨v, a1, a2⟩
  clear hway hmks
  go_wp2_with fail
  refine (tset_any HB5.out h60.2 HR5.out HP.out.len (HV.out.ext X5.out) hN S5.out hll h0 HM.out).mono ?_
  rintro e w6 ⟨rfl, r, p', m', s', a1, a2, a3, a4, a5, a6⟩
  have HPUT := Lib.hid (H.out.linked X5.out HP.out HW.out ha hb HC.out Y1.out Y2.out G1.out G2.out S5.out a1 a2 a3 a4 a5 a6 hN)
  have hb6 : Blk w6 F.fb 149 #[.map (some F.mb), F.rv n, .map (some F.eb)] := HB5.out.chg a6 (by
    have := H.out.fb_ne
    exact fun e => this (by rcases e with e | e; exact .inl e; exact .inr (.inl e)))
  have d2 : w6.cell? ⟨F.fb, 2, none⟩ = some (.map (some F.eb)) := hb6.cell 2
  have hl6 := hb6.lt
  have HK : Hid (∀ W, Ext w6 W → W.cell? ⟨F.fb, 2, none⟩ = some (.map (some F.eb))) := fun W hW => (hW.cell (p := ⟨F.fb, 2, none⟩) hl6).trans d2
  clear a1 a2 a3 a4 a5 a6 hb6 HM HB5 HR5 S5 H HP HW HV HR HC Y1 Y2 G1 G2 LX X5 X0 h0 hll
  go_wp2
  go_region_held3 (fun w' => w'.cell? ⟨F.fb, 2, none⟩ = some (.map (some F.eb))) (go_keep)
    (first
      | (go_at_call 54; refine (of_any _ (a : Int) (b : Int)).mono ?_; rintro e w7 ⟨rfl, hb7⟩; have X7 : Hid (Ext w6 w7) := Ext.trans (Ext.drew _) hb7; have q7 : w7.cell? ⟨F.fb, 2, none⟩ = some (.map (some F.eb)) := HK.out _ X7.out; obtain ⟨W2, hr2, hf2, hc2, hq2⟩ := HPUT.out _ X7.out; have HF2 := Lib.hid hf2; have HC2 := Lib.hid hc2; clear hf2 hc2 hb7)
      | (refine step_vput _ (by rfl) (.tmp 98) (.tmp 101) (.const (.int .i64 1)) 147 (by rfl) _ _ _ (by rfl) (by rfl) (by rfl) W2 hr2 ?_)
      | fail)
  go_wp2
  go_ret
  exact ⟨rfl, HF2.out, HC2.out⟩
end
end Go.Proofs.YtckcbfnffmohgaaGreat
namespace Go.Proofs.YtckcbfnffmohgaaGreat
open Go Go.RowKit SQ TR DF PD
set_option linter.unusedVariables false

theorem GMek (u v : Nat) : AK.ek (u : Int) v = AK.ek v u := by unfold AK.ek; rw [Int.min_comm, Int.max_comm]
theorem cutE_length {x : AK.Ed} : ∀ {E : List AK.Ed}, E.Nodup → x ∈ E → (cutE x E).length + 1 = E.length
  | [], _, h => absurd h List.not_mem_nil
  | y :: E, h, hx => by
    rw [List.nodup_cons] at h
    by_cases e : y = x
    · subst e
      have h0 : cutE y E = E := List.filter_eq_self.2 fun z hz => by simp; exact fun e => h.1 (e ▸ hz)
      have : cutE y (y :: E) = cutE y E := by simp [cutE]
      rw [this, h0]; rfl
    · have hx' : x ∈ E := (List.mem_cons.1 hx).resolve_left (Ne.symm e)
      have := cutE_length h.2 hx'
      have h2 : cutE x (y :: E) = y :: cutE x E := by simp [cutE, e]
      rw [h2, List.length_cons, List.length_cons]; omega
def CutPost (w : World) (F : FoP) (n N : Nat) (E : List AK.Ed) (e : Ending) (w' : World) : Prop := e = .returned .nilIface ∧ FoAt w' F n (N + 2) E ∧ Chg F.S w w'
section
variable {w : World} {F : FoP} {n N : Nat} {E : List AK.Ed}
/-- What holds of both new ways' marks. -/
theorem cut_facts {u v : Nat} {low mid high : List Int} (h : FoAt w F n N E) (huv : adj E u v) (hway : TR.Way (adj E) u (low ++ st u v :: mid ++ st v u :: high)) :
    0 < (mks mid).length ∧ (∀ z ∈ mks mid, ∃ v : Nat, z = v ∧ v < n) ∧ 0 < (mks (low ++ high)).length ∧ (∀ z ∈ mks (low ++ high), ∃ v : Nat, z = v ∧ v < n) := by
  have h60 := h.hn
  have hf' := h.fo.cut (AK.ek u v)
  obtain ⟨hu, hv, hne⟩ := adj_in h.fo.ok huv
  have he : adj (cutE (AK.ek u v) E) = Mn (adj E) u v := funext fun x => funext fun y => propext (adj_cut h.fo.lt x y)
  obtain ⟨w1, w2⟩ := TR.Way.cut (fun x y e => adj_symm e) (fun x y e => by have := adj_in h.fo.ok e; omega) (by omega) (by omega) huv (h.fo.fs u v huv) hway
  rw [← he] at w1 w2
  obtain ⟨a1, a2, a3⟩ := w1.mks hv hf' h60.2
  obtain ⟨b1, b2, b3⟩ := w2.mks hu hf' h60.2
  refine ⟨List.length_pos_of_mem (a3 v hv (.refl _)), fun z hz => ?_, List.length_pos_of_mem (b3 u hu (.refl _)), fun z hz => ?_⟩
  · obtain ⟨x, x1, x2, _⟩ := a2 z hz; exact ⟨x, x1, x2⟩
  · obtain ⟨x, x1, x2, _⟩ := b2 z hz; exact ⟨x, x1, x2⟩
/-- Behind both ways' setting and the edge's striking the forest is that without the edge. -/
theorem FoAt.cutted {w7 w8 w9 : World} {u v r1 r2 : Nat} {q1 q2 : Option Addr} {low mid high p p1 p2 : List Int} {m m1 m2 : Int → Option Value} {s2 : Nat} (h : FoAt w F n N E) (hx7 : Ext w w7) (hP : Pts n E p) (hW : WaysAt w n E p m) (huv : adj E u v)
    (hway : TR.Way (adj E) u (low ++ st u v :: mid ++ st v u :: high)) (hq1 : RowAt w7 q1 mid) (hq2 : RowAt w8 q2 (low ++ high))
    (hr1 : (r1 : Int) ∈ mks mid) (hmin1 : ∀ z ∈ mks mid, (r1 : Int) ≤ z) (hs1 : SetR n (mks mid) r1 q1 p m p1 m1) (hc8 : Chg (fun k => k = F.mb ∨ k = F.rb) w7 w8)
    (hr2 : (r2 : Int) ∈ mks (low ++ high)) (hmin2 : ∀ z ∈ mks (low ++ high), (r2 : Int) ≤ z) (hs2 : SetR n (mks (low ++ high)) r2 q2 p1 m1 p2 m2)
    {s1 : Nat} (hR8 : RootAt w8 F n p1) (hV8 : VM kI w8 F.mb (N + 1) s1 m1) (hR : RootAt w9 F n p2) (hV : VM kI w9 F.mb (N + 1 + 1) s2 m2) (hc9 : Chg (fun k => k = F.mb ∨ k = F.rb) w8 w9) (a b : Int) (hek : AK.ek a b = AK.ek u v) :
    ∀ W, Ext w9 W → ∃ W2, (∀ ty, (Builtin.delete_ #[147, 32] ty #[.map (some F.eb), edV (AK.ek a b)]).run Tryz.prog W = .ok (.tuple #[]) W2) ∧ FoAt W2 F n (N + 2) (cutE (AK.ek u v) E) ∧ Chg F.S w W2 ∧ W2.cell? ⟨F.fb, 2, none⟩ = some (.map (some F.eb)) := by
  intro W hW9
  have h60 := h.hn
  obtain ⟨hu, hv, hne⟩ := adj_in h.fo.ok huv
  have hsq7 : ∀ k, (k = F.mb ∨ k = F.rb) → ∀ cs, ¬ Blk w7 k 189 cs := fun k hk => (h.ext hx7).noseq k (by rcases hk with e | e; exact .inl e; exact .inr (.inl e))
  have hsz7 : ∀ k, (k = F.mb ∨ k = F.rb) → k < w7.heap.size := fun k hk => (h.ext hx7).lt.2 k (by rcases hk with e | e; exact .inl e; exact .inr (.inl e))
  have hsq8 : ∀ k, (k = F.mb ∨ k = F.rb) → ∀ cs, ¬ Blk w8 k 189 cs := fun k hk cs hb => by
    rcases hk with rfl | rfl
    · exact hV8.blk_ne hb rfl
    · exact own_ne hR8 hb (by decide) rfl
  have row79 : ∀ {q : Option Addr} {l : List Int}, RowAt w7 q l → RowAt w9 q l := fun hq => (hq.chg hc8 hsq7).chg hc9 hsq8
  have hWays9 : WaysAt w9 n E p m := fun r hr hg => by
    obtain ⟨q, l, a1, a2, a3⟩ := hW r hr hg
    exact ⟨q, l, a1, row79 (a2.ext hx7), a3⟩
  obtain ⟨P', W'⟩ := cut_state h60.2 h.fo hP hWays9 huv hway (row79 hq1) (hq2.chg hc9 hsq8) hr1 hmin1 hs1 hr2 hmin2 hs2
  obtain ⟨me, k1, k2⟩ := h.edges
  have hfb := h.fb_ne
  have hebm : F.eb ≠ F.mb := fun e => h.ne e.symm
  obtain ⟨p0, s0, m0, b1, b2, b3, _⟩ := h.ways
  have hebr : F.eb ≠ F.rb := fun e => k1.own_ne b2 (by simp [FoP.rv, Value.ownBlock, e])
  have neb : ¬ (F.eb = F.mb ∨ F.eb = F.rb) := fun e => e.elim hebm hebr
  have kW : VM kE W F.eb N E.length me := ((((k1.ext hx7).chg hc8 neb).chg hc9 neb)).ext hW9
  have hok : okE (AK.ek u v) := okE_of (by unfold AK.ek; simp only; omega) (by unfold AK.ek; simp only; omega)
  have hE : AK.ek u v ∈ E := (adj_ek (a := u) (b := v) h.fo.lt hne).2 huv
  obtain ⟨W2, hrun, ⟨s', hs', hv2⟩, hc2, hsz⟩ := kW.del Tryz.underlying147 (AK.ek u v) hok
  have nfb : ¬ (F.fb = F.mb ∨ F.fb = F.rb) := fun e => hfb (by rcases e with e | e; exact .inl e; exact .inr (.inl e))
  have hb9 : Blk w9 F.fb 149 #[.map (some F.mb), F.rv n, .map (some F.eb)] := ((h.ext hx7).blk.chg hc8 nfb).chg hc9 nfb
  have hblk : Blk W2 F.fb 149 #[.map (some F.mb), F.rv n, .map (some F.eb)] := (hb9.chg (Chg.of_below hW9) (by have := hb9.lt; omega)).chg hc2 (fun e => hfb (.inr (.inr e)))
  have hRW : RootAt W F n p2 := own_chg hR (Chg.of_below hW9) (fun k hk => by have := own_lt hR hk; omega)
  have hVW : VM kI W F.mb (N + 2) s2 m2 := hV.ext hW9
  have hsqW : ∀ k, k = F.eb → ∀ cs, ¬ Blk W k 189 cs := fun k hk cs hbk => by subst hk; exact kW.blk_ne hbk rfl
  refine ⟨W2, by rw [hek]; exact hrun, ⟨hblk, h60, h.fo.cut _, h.ne, ⟨p2, s2, m2, P', own_chg hRW hc2 (fun k hk e => by
      have : F.rb = k := by simpa [FoP.rv, Value.ownBlock] using hk
      exact hebr (by rw [this, e])), hVW.chg hc2 h.ne, fun r hr hg => ?_⟩, ⟨updV me (AK.ek u v) none, ?_, fun z hz => ?_⟩⟩, ?_, hblk.cell 2⟩
  · obtain ⟨q, l, a1, a2, a3⟩ := W' r hr hg
    exact ⟨q, l, a1, (a2.ext hW9).chg hc2 hsqW, a3⟩
  · have hm : me (AK.ek u v) = some (.int .i64 1) := by rw [k2 _ hok, if_pos hE]
    rw [hm] at hs'
    have hl := cutE_length (rises_nodup h.fo.up) hE
    have : (cutE (AK.ek u v) E).length = s' := by simp at hs'; omega
    rw [this]
    exact hv2.mono (by omega)
  · by_cases e : z = AK.ek u v
    · subst e
      rw [updV, if_pos rfl, if_neg (fun w => (cutE_mem.1 w).2 rfl)]
    · rw [updV, if_neg e, k2 z hz]
      by_cases q : z ∈ E
      · rw [if_pos q, if_pos (cutE_mem.2 ⟨q, e⟩)]
      · rw [if_neg q, if_neg (fun w => q (cutE_mem.1 w).1)]
  · exact ((((Chg.new hx7 F.S).trans hc8 (fun i _ hi => by rcases hi with e | e; exact .inl e; exact .inr (.inl e))).trans hc9 (fun i _ hi => by rcases hi with e | e; exact .inl e; exact .inr (.inl e))).trans (Chg.new hW9 F.S) (fun i _ hi => hi)).trans hc2 (fun i _ hi => .inr (.inr hi))
end
end Go.Proofs.YtckcbfnffmohgaaGreat
namespace Go.Proofs.YtckcbfnffmohgaaGreat
open Go Go.RowKit SQ TR DF PD
set_option linter.unusedVariables false

section
variable {w : World} {F : FoP} {n N : Nat} {E : List AK.Ed}
set_option maxHeartbeats 1000000 in
set_option maxRecDepth 100000 in
theorem tcut_A (h : FoAt w F n N E) (hN : N + 1 < 1000000) (u v : Nat) (huv : adj E u v) {p l low mid high : List Int} {s r : Nat} {m : Int → Option Value} {q : Option Addr} (h1 : Pts n E p) (h2 : RootAt w F n p) (h3 : VM kI w F.mb N s m) (h4 : WaysAt w n E p m)
    (hp : PD.g p u = r) (hm : m r = some (.pointer q)) (hq : RowAt w q l) (hway : TR.Way (adj E) u l) (hl : l = low ++ st u v :: mid ++ st v u :: high) :
    Calls Tryz.prog 55 #[.pointer (some ⟨F.fb, 0, none⟩), .int .i64 u, .int .i64 v] w (CutPost w F n N (cutE (AK.ek u v) E)) := by
  have h60 := h.hn
  obtain ⟨hu, hv, hne⟩ := adj_in h.fo.ok huv
  have hlen : l.length ≤ 180 := hway.len h.fo h60.2
  have c0 : w.cell? ⟨F.fb, 0, none⟩ = some (.map (some F.mb)) := h.blk.cell 0
  have c1 : w.cell? ⟨F.fb, 1, none⟩ = some (.slice (some ⟨F.rb, 0, none⟩) n F.c) := h.blk.cell 1
  have c2 : w.cell? ⟨F.fb, 2, none⟩ = some (.map (some F.eb)) := h.blk.cell 2
  have e1 := root_cell h2 h1.len (a := u) (by omega)
  rw [hp] at e1
  obtain ⟨me, k1, k2⟩ := h.edges
  have hek : AK.ek (u : Int) v = AK.ek u v := rfl
  have hlk : ∀ d os, (Instr.lookup 147 (.map (some F.eb)) (edV (AK.ek (u : Int) v)) false).run Tryz.prog (Sort.grow (redrawn w d) os) = .ok (.int .i64 1) (Sort.grow (redrawn w d) os) := fun d os => by
    have hok : okE (AK.ek u v) := okE_of (by unfold AK.ek; simp only; omega) (by unfold AK.ek; simp only; omega)
    have := (k1.ext (below_regrown w d os)).look Tryz.underlying147 (zeroInt _) (AK.ek u v) hok
    rw [k2 _ hok, if_pos ((adj_ek (a := u) (b := v) h.fo.lt hne).2 huv)] at this
    rw [hek]
    exact this
  have hlw : ∀ W, Ext w W → (Instr.lookup 146 (.map (some F.mb)) (.int .i64 r) false).run Tryz.prog W = .ok (.pointer q) W := fun W hW => by
    have := (h3.ext hW).look Tryz.underlying146 (zeroSeq _) (r : Int) (WalkArith.wf_i64 (by
      have := h1.pa u (by omega)
      obtain ⟨r', q1, q2, _⟩ := this
      omega))
    rw [hm] at this
    exact this
  have hrn : r < n := by
    obtain ⟨r', q1, q2, _⟩ := h1.pa u (by omega)
    omega
  obtain ⟨lo, hlo⟩ : ∃ lo, lo = low.length := ⟨_, rfl⟩
  obtain ⟨hi, hhi⟩ : ∃ hi, hi = low.length + 1 + mid.length := ⟨_, rfl⟩
  have LOHI : Hid (lo < hi ∧ hi < l.length) := ⟨by omega, by rw [hl]; simp; omega⟩
  have I1 : Hid (l[lo]? = some (st u v) ∧ l.Nodup) := ⟨by rw [hl, hlo]; simp, hway.nd⟩
  have I2 : Hid (l[hi]? = some (st v u) ∧ l.Nodup) := ⟨by
    have e : hi = (low ++ st u v :: mid).length := by rw [hhi]; simp; omega
    rw [hl, e, List.getElem?_append_right (Nat.le_refl _), Nat.sub_self]; rfl, hway.nd⟩
  obtain ⟨R, hR⟩ : ∃ R, R = st u v :: mid ++ st v u :: high := ⟨_, rfl⟩
  have T1 : Hid (l.take lo = low ∧ l.drop lo = R ∧ R.length ≤ 400) := ⟨by rw [hl, hlo]; simp, by rw [hl, hlo, hR]; simp, by rw [hR]; rw [hl] at hlen; simp at hlen ⊢; omega⟩
  obtain ⟨d, hd⟩ : ∃ d, d = hi - lo := ⟨_, rfl⟩
  have T2 : Hid (R.take d = st u v :: mid ∧ R.drop d = st v u :: high ∧ d ≤ R.length) := by
    have e : d = (st u v :: mid).length := by rw [hd, hlo, hhi]; simp; omega
    rw [e, hR]
    exact ⟨List.take_left' rfl, List.drop_left' rfl, by simp⟩
  have L3 : Hid ((st u v :: mid).length ≤ 400 ∧ (st v u :: high).length ≤ 400 ∧ (low ++ high).length ≤ 400 ∧ mid.length ≤ 400) := by
    rw [hl] at hlen; simp at hlen
    exact ⟨by simp; omega, by simp; omega, by simp; omega, by omega⟩
  have N1 := Lib.hid (tnode_any h (u : Int) true (by simp; omega))
  have N2 := Lib.hid (tnode_any h (v : Int) true (by simp; omega))
  have z1 : (u : Int) < (n : Int) := by omega
  have z2 : (lo : Int) < (hi : Int) := by have := LOHI.out; omega
  have zmin : min (lo : Int) (hi : Int) = (lo : Int) := by omega
  have zmax : max (lo : Int) (hi : Int) = (hi : Int) := by omega
  have e9 : (hi : Int) - (lo : Int) = (d : Int) := by have := LOHI.out; omega
  have zd : d ≤ 400 := by have := LOHI.out; omega
  have e10 : IntKind.i64.wrap (d : Int) = (d : Int) := IntWalk.i64_in _ (by omega)
  have H := Lib.hid h
  have HP := Lib.hid h1
  have HW := Lib.hid h4
  have HV := Lib.hid h3
  have HR := Lib.hid h2
  have HQ := Lib.hid hq
  have HL := Lib.hid hl
  have HWAY := Lib.hid hway
  have HUV := Lib.hid huv
  have HLEN := Lib.hid hlen
  have ST1 := Lib.hid (fun W => tstep_any W u v (by omega) (by omega))
  have ST2 := Lib.hid (fun W => tstep_any W v u (by omega) (by omega))
  have HB0 := Lib.hid h.blk
  have hlt := h.blk.lt
  have HRL : Hid (F.rb < w.heap.size) := own_lt h2 (by simp [FoP.rv, Value.ownBlock])
  clear h h1 h2 h3 h4 hq hway hl huv hlen k1 k2 hhi hlo hR hek hp hm hd
  go_enter Tryz.func55, Tryz.ntmps55
  go_wp2_with fail
  refine N1.out.mono ?_
  rintro e w' ⟨rfl, rfl⟩
  go_wp2_with fail
  refine N2.out.mono ?_
  rintro e w' ⟨rfl, rfl⟩
  go_wp2
  have g2 : ∀ d os, (Sort.grow (redrawn w d) os).cell? ⟨F.fb, 2, none⟩ = some (.map (some F.eb)) := fun d os => cell_regrown c2 d os
  refine wp_region_quiet_below (by kernel_rfl) (by kernel_rfl) ?_
  repeat (go_big_quiet_step ((go_at_call 54; exact Calls.regrown_of (of_any _ (u : Int) (v : Int)))))
  refine wpQuiet_nil ?_
  intro _ hw'
  obtain ⟨⟨dq, osq⟩, hw''⟩ := hw'
  subst hw''
  have X0 : Hid (Ext w (Sort.grow (redrawn w dq) osq)) := below_regrown w dq osq
  generalize Sort.grow (redrawn w dq) osq = w0 at X0 ⊢
  clear N1 N2 hlk g2 c2
  have d0 : w0.cell? ⟨F.fb, 0, none⟩ = some (.map (some F.mb)) := (X0.out.cell (p := ⟨F.fb, 0, none⟩) hlt).trans c0
  have d1 : w0.cell? ⟨F.fb, 1, none⟩ = some (.slice (some ⟨F.rb, 0, none⟩) n F.c) := (X0.out.cell (p := ⟨F.fb, 1, none⟩) hlt).trans c1
  have d2 : w0.cell? ⟨F.rb, u, none⟩ = some (.int .i64 r) := (X0.out.cell (p := ⟨F.rb, u, none⟩) HRL.out).trans e1
  have hlw0 : ∀ k, (Instr.lookup 146 (.map (some F.mb)) (.int .i64 r) false).run Tryz.prog (w0.drewN k) = .ok (.pointer q) (w0.drewN k) := fun k => hlw _ (X0.out.trans (Ext.drewN w0 k))
  clear c0 c1 e1 hlw
  go_wp2
  go_quiet (fail)
  have X1 : Hid (Ext w (w0.drewN nq)) := X0.out.trans (Ext.drewN w0 nq)
  generalize w0.drewN nq = w1 at X1 ⊢
  clear d0 d1 d2 hlw0 X0
  go_wp2_with fail
  refine (row_list (HQ.out.ext X1.out) (by have := HLEN.out; omega)).mono ?_
  rintro e w2 ⟨A, c, rfl, ho, hx, hnw⟩
  have HO := Lib.hid ho
  have X2 : Hid (Ext w w2) := X1.out.trans hx
  clear ho hx hnw X1
  go_wp2_with fail
  refine (ST1.out _).mono ?_
  rintro e w' ⟨rfl, rfl⟩
  go_wp2_with fail
  refine (index_any w2 A c l lo _ HO.out I1.out.1 I1.out.2 (by have := HLEN.out; omega)).mono ?_
  rintro e w2' ⟨rfl, hw2⟩
  obtain rfl : w2 = w2' := hw2.symm
  go_wp2_with fail
  refine (ST2.out _).mono ?_
  rintro e w' ⟨rfl, rfl⟩
  go_wp2_with fail
  refine (index_any w2 A c l hi _ HO.out I2.out.1 I2.out.2 (by have := HLEN.out; omega)).mono ?_
  rintro e w2' ⟨rfl, hw2⟩
  obtain rfl : w2 = w2' := hw2.symm
  go_wp2_with fail
  refine (row_split (HQ.out.ext X2.out) (by have := HLEN.out; omega) lo (by have := LOHI.out; omega)).mono ?_
  rintro e w3 ⟨q1, q2, rfl, s1, s2, x3⟩
  have S1 : Hid (RowAt w3 q1 low) := by rw [T1.out.1] at s1; exact s1
  have S2 : Hid (RowAt w3 q2 R) := by rw [T1.out.2.1] at s2; exact s2
  have X3 : Hid (Ext w w3) := X2.out.trans x3
  clear s1 s2 x3 X2 HO I1 I2 ST1 ST2
  go_wp2_with fail
  refine (row_split S2.out T1.out.2.2 d T2.out.2.2).mono ?_
  rintro e w4 ⟨q3, q4, rfl, s3, s4, x4⟩
  have S3 : Hid (RowAt w4 q3 (st u v :: mid)) := by rw [T2.out.1] at s3; exact s3
  have S4 : Hid (RowAt w4 q4 (st v u :: high)) := by rw [T2.out.2.1] at s4; exact s4
  have S1' : Hid (RowAt w4 q1 low) := S1.out.ext x4
  have X4 : Hid (Ext w w4) := X3.out.trans x4
  clear s3 s4 x4 X3 S1 S2
  go_wp2_with fail
  refine (row_split S3.out L3.out.1 1 (by simp)).mono ?_
  rintro e w5 ⟨q5, q6, rfl, s5, s6, x5⟩
  have S6 : Hid (RowAt w5 q6 mid) := s6
  have S4' : Hid (RowAt w5 q4 (st v u :: high)) := S4.out.ext x5
  have S1'' : Hid (RowAt w5 q1 low) := S1'.out.ext x5
  have X5 : Hid (Ext w w5) := X4.out.trans x5
  clear s5 s6 x5 X4 S1' S3 S4
  go_wp2_with fail
  refine (row_split S4'.out L3.out.2.1 1 (by simp)).mono ?_
  rintro e w6 ⟨q7, q8, rfl, s7, s8, x6⟩
  have S8 : Hid (RowAt w6 q8 high) := s8
  have R6 : Hid (RowAt w6 q6 mid) := S6.out.ext x6
  have R1 : Hid (RowAt w6 q1 low) := S1''.out.ext x6
  have X6 : Hid (Ext w w6) := X5.out.trans x6
  clear s7 s8 x6 X5 S1'' S4' S6
  have hrs : Hid (∀ (i : Nat) p, [(q1, low), (q8, high)][i]? = some p → (w6.alloc (.cells #[.pointer q1, .pointer q8] 150)).cell? ⟨w6.heap.size, i, none⟩ = some (.pointer p.1) ∧ RowAt (w6.alloc (.cells #[.pointer q1, .pointer q8] 150)) p.1 p.2) := by
    intro i p hp
    have hB := Blk.new w6 150 #[.pointer q1, .pointer q8]
    match i, hp with
    | 0, hp => simp at hp; subst hp; exact ⟨hB.cell 0, R1.out.ext (Ext.alloc _ _)⟩
    | 1, hp => simp at hp; subst hp; exact ⟨hB.cell 1, S8.out.ext (Ext.alloc _ _)⟩
    | i + 2, hp => simp at hp
  have hfl : [(q1, low), (q8, high)].flatMap (fun z : Option Addr × List Int => z.2) = low ++ high := by simp
  go_wp2_with fail
  refine (tjoin_any (m := 2) (c := 2) [(q1, low), (q8, high)] hrs.out (by simp) rfl (by omega) (by rw [hfl]; exact L3.out.2.2.1)).mono ?_
  rintro e w7 ⟨q9, rfl, s9, x7⟩
  rw [hfl] at s9
  have S9 := Lib.hid s9
  have x7' : Ext w6 w7 := (Ext.alloc w6 _).trans x7
  have M7 : Hid (RowAt w7 q6 mid) := R6.out.ext x7'
  have X7 : Hid (Ext w w7) := X6.out.trans x7'
  clear s9 x7 x7' hrs R1 R6 S8 X6 hfl
  have HB7 : Hid (Blk w7 F.fb 149 #[.map (some F.mb), F.rv n, .map (some F.eb)]) := HB0.out.chg (Chg.of_below X7.out) (by omega)
  have HR7 : Hid (RootAt w7 F n p) := own_chg HR.out (Chg.of_below X7.out) (fun k hk => by have := own_lt HR.out hk; omega)
  have CF := Lib.hid (cut_facts H.out HUV.out (HL.out ▸ HWAY.out))
  go_wp2_with fail
  refine (tset_any HB7.out h60.2 HR7.out HP.out.len (HV.out.ext X7.out) (by omega) M7.out L3.out.2.2.2 CF.out.1 CF.out.2.1).mono ?_
  rintro e w8 ⟨rfl, r1, p1, m1, s1, a1, a2, a3, a4, a5, a6⟩
  have hfb := H.out.fb_ne
  have HB8 : Hid (Blk w8 F.fb 149 #[.map (some F.mb), F.rv n, .map (some F.eb)]) := HB7.out.chg a6 (fun e => hfb (by rcases e with e | e; exact .inl e; exact .inr (.inl e)))
  have hsq7 : ∀ k, (k = F.mb ∨ k = F.rb) → ∀ cs, ¬ Blk w7 k 189 cs := fun k hk => (H.out.ext X7.out).noseq k (by rcases hk with e | e; exact .inl e; exact .inr (.inl e))
  have S98 : Hid (RowAt w8 q9 (low ++ high)) := S9.out.chg a6 hsq7
  have A1 : Hid ((r1 : Int) ∈ mks mid ∧ (∀ z ∈ mks mid, (r1 : Int) ≤ z) ∧ SetR n (mks mid) r1 q6 p m p1 m1 ∧ Chg (fun k => k = F.mb ∨ k = F.rb) w7 w8) := ⟨a1, a2, a3, a6⟩
  have P1 : Hid (p1.length = n) := by rw [Hid, a3.len]; exact HP.out.len
  have A4 := Lib.hid a4
  have A5 := Lib.hid a5
  clear a1 a2 a3 a4 a5 a6 hsq7 hfb HB7 HR7
  go_wp2_with fail
  refine (tset_any HB8.out h60.2 A4.out P1.out A5.out (by omega) S98.out L3.out.2.2.1 CF.out.2.2.1 CF.out.2.2.2).mono ?_
  rintro e w9 ⟨rfl, r2, p2, m2, s2, b1, b2, b3, b4, b5, b6⟩
  have HDEL := Lib.hid (H.out.cutted X7.out HP.out HW.out HUV.out (HL.out ▸ HWAY.out) M7.out S98.out A1.out.1 A1.out.2.1 A1.out.2.2.1 A1.out.2.2.2 b1 b2 b3 A4.out A5.out b4 b5 b6 (u : Int) (v : Int) rfl)
  have hb9 : Blk w9 F.fb 149 #[.map (some F.mb), F.rv n, .map (some F.eb)] := HB8.out.chg b6 (by
    have := H.out.fb_ne
    exact fun e => this (by rcases e with e | e; exact .inl e; exact .inr (.inl e)))
  have f2 : w9.cell? ⟨F.fb, 2, none⟩ = some (.map (some F.eb)) := hb9.cell 2
  have hl9 := hb9.lt
  have HK : Hid (∀ W, Ext w9 W → W.cell? ⟨F.fb, 2, none⟩ = some (.map (some F.eb))) := fun W hW => (hW.cell (p := ⟨F.fb, 2, none⟩) hl9).trans f2
  clear b1 b2 b3 b4 b5 b6 hb9 HB8 A1 A4 A5 P1 S98 S9 M7 CF X7 H HP HW HV HR HQ HL HWAY HUV HLEN HB0 HRL T1 T2 L3 LOHI z2 e9
  go_wp2
  go_region_held3 (fun w' => w'.cell? ⟨F.fb, 2, none⟩ = some (.map (some F.eb))) (go_keep)
    (first
      | (go_at_call 54; refine (of_any _ (u : Int) (v : Int)).mono ?_; rintro e w10 ⟨rfl, hb10⟩; have X10 : Hid (Ext w9 w10) := Ext.trans (Ext.drew _) hb10; have q10 : w10.cell? ⟨F.fb, 2, none⟩ = some (.map (some F.eb)) := HK.out _ X10.out; obtain ⟨W2, hr2, hf2, hc2, hq2⟩ := HDEL.out _ X10.out; have HF2 := Lib.hid hf2; have HC2 := Lib.hid hc2; clear hf2 hc2 hb10)
      | (refine step_vdel _ (by rfl) (.tmp 131) (.tmp 134) 147 32 (by rfl) _ _ (by rfl) (by rfl) W2 hr2 ?_)
      | fail)
  go_wp2
  go_ret
  exact ⟨rfl, HF2.out, HC2.out⟩
set_option maxHeartbeats 1000000 in
set_option maxRecDepth 100000 in
theorem tcut_B (h : FoAt w F n N E) (hN : N + 1 < 1000000) (u v : Nat) (huv : adj E u v) {p l low mid high : List Int} {s r : Nat} {m : Int → Option Value} {q : Option Addr} (h1 : Pts n E p) (h2 : RootAt w F n p) (h3 : VM kI w F.mb N s m) (h4 : WaysAt w n E p m)
    (hp : PD.g p v = r) (hm : m r = some (.pointer q)) (hq : RowAt w q l) (hway : TR.Way (adj E) u l) (hl : l = low ++ st u v :: mid ++ st v u :: high) :
    Calls Tryz.prog 55 #[.pointer (some ⟨F.fb, 0, none⟩), .int .i64 v, .int .i64 u] w (CutPost w F n N (cutE (AK.ek u v) E)) := by
  have h60 := h.hn
  obtain ⟨hu, hv, hne⟩ := adj_in h.fo.ok huv
  have hlen : l.length ≤ 180 := hway.len h.fo h60.2
  have c0 : w.cell? ⟨F.fb, 0, none⟩ = some (.map (some F.mb)) := h.blk.cell 0
  have c1 : w.cell? ⟨F.fb, 1, none⟩ = some (.slice (some ⟨F.rb, 0, none⟩) n F.c) := h.blk.cell 1
  have c2 : w.cell? ⟨F.fb, 2, none⟩ = some (.map (some F.eb)) := h.blk.cell 2
  have e1 := root_cell h2 h1.len (a := v) (by omega)
  rw [hp] at e1
  obtain ⟨me, k1, k2⟩ := h.edges
  have hek : AK.ek (v : Int) u = AK.ek u v := (GMek v u)
  have hlk : ∀ d os, (Instr.lookup 147 (.map (some F.eb)) (edV (AK.ek (v : Int) u)) false).run Tryz.prog (Sort.grow (redrawn w d) os) = .ok (.int .i64 1) (Sort.grow (redrawn w d) os) := fun d os => by
    have hok : okE (AK.ek u v) := okE_of (by unfold AK.ek; simp only; omega) (by unfold AK.ek; simp only; omega)
    have := (k1.ext (below_regrown w d os)).look Tryz.underlying147 (zeroInt _) (AK.ek u v) hok
    rw [k2 _ hok, if_pos ((adj_ek (a := u) (b := v) h.fo.lt hne).2 huv)] at this
    rw [hek]
    exact this
  have hlw : ∀ W, Ext w W → (Instr.lookup 146 (.map (some F.mb)) (.int .i64 r) false).run Tryz.prog W = .ok (.pointer q) W := fun W hW => by
    have := (h3.ext hW).look Tryz.underlying146 (zeroSeq _) (r : Int) (WalkArith.wf_i64 (by
      have := h1.pa v (by omega)
      obtain ⟨r', q1, q2, _⟩ := this
      omega))
    rw [hm] at this
    exact this
  have hrn : r < n := by
    obtain ⟨r', q1, q2, _⟩ := h1.pa v (by omega)
    omega
  obtain ⟨lo, hlo⟩ : ∃ lo, lo = low.length := ⟨_, rfl⟩
  obtain ⟨hi, hhi⟩ : ∃ hi, hi = low.length + 1 + mid.length := ⟨_, rfl⟩
  have LOHI : Hid (lo < hi ∧ hi < l.length) := ⟨by omega, by rw [hl]; simp; omega⟩
  have I1 : Hid (l[lo]? = some (st u v) ∧ l.Nodup) := ⟨by rw [hl, hlo]; simp, hway.nd⟩
  have I2 : Hid (l[hi]? = some (st v u) ∧ l.Nodup) := ⟨by
    have e : hi = (low ++ st u v :: mid).length := by rw [hhi]; simp; omega
    rw [hl, e, List.getElem?_append_right (Nat.le_refl _), Nat.sub_self]; rfl, hway.nd⟩
  obtain ⟨R, hR⟩ : ∃ R, R = st u v :: mid ++ st v u :: high := ⟨_, rfl⟩
  have T1 : Hid (l.take lo = low ∧ l.drop lo = R ∧ R.length ≤ 400) := ⟨by rw [hl, hlo]; simp, by rw [hl, hlo, hR]; simp, by rw [hR]; rw [hl] at hlen; simp at hlen ⊢; omega⟩
  obtain ⟨d, hd⟩ : ∃ d, d = hi - lo := ⟨_, rfl⟩
  have T2 : Hid (R.take d = st u v :: mid ∧ R.drop d = st v u :: high ∧ d ≤ R.length) := by
    have e : d = (st u v :: mid).length := by rw [hd, hlo, hhi]; simp; omega
    rw [e, hR]
    exact ⟨List.take_left' rfl, List.drop_left' rfl, by simp⟩
  have L3 : Hid ((st u v :: mid).length ≤ 400 ∧ (st v u :: high).length ≤ 400 ∧ (low ++ high).length ≤ 400 ∧ mid.length ≤ 400) := by
    rw [hl] at hlen; simp at hlen
    exact ⟨by simp; omega, by simp; omega, by simp; omega, by omega⟩
  have N1 := Lib.hid (tnode_any h (v : Int) true (by simp; omega))
  have N2 := Lib.hid (tnode_any h (u : Int) true (by simp; omega))
  have z1 : (v : Int) < (n : Int) := by omega
  have z2 : (lo : Int) < (hi : Int) := by have := LOHI.out; omega
  have zmin : min (hi : Int) (lo : Int) = (lo : Int) := by omega
  have zmax : max (hi : Int) (lo : Int) = (hi : Int) := by omega
  have e9 : (hi : Int) - (lo : Int) = (d : Int) := by have := LOHI.out; omega
  have zd : d ≤ 400 := by have := LOHI.out; omega
  have e10 : IntKind.i64.wrap (d : Int) = (d : Int) := IntWalk.i64_in _ (by omega)
  have H := Lib.hid h
  have HP := Lib.hid h1
  have HW := Lib.hid h4
  have HV := Lib.hid h3
  have HR := Lib.hid h2
  have HQ := Lib.hid hq
  have HL := Lib.hid hl
  have HWAY := Lib.hid hway
  have HUV := Lib.hid huv
  have HLEN := Lib.hid hlen
  have ST1 := Lib.hid (fun W => tstep_any W u v (by omega) (by omega))
  have ST2 := Lib.hid (fun W => tstep_any W v u (by omega) (by omega))
  have HB0 := Lib.hid h.blk
  have hlt := h.blk.lt
  have HRL : Hid (F.rb < w.heap.size) := own_lt h2 (by simp [FoP.rv, Value.ownBlock])
  clear h h1 h2 h3 h4 hq hway hl huv hlen k1 k2 hhi hlo hR hek hp hm hd
  go_enter Tryz.func55, Tryz.ntmps55
  go_wp2_with fail
  refine N1.out.mono ?_
  rintro e w' ⟨rfl, rfl⟩
  go_wp2_with fail
  refine N2.out.mono ?_
  rintro e w' ⟨rfl, rfl⟩
  go_wp2
  have g2 : ∀ d os, (Sort.grow (redrawn w d) os).cell? ⟨F.fb, 2, none⟩ = some (.map (some F.eb)) := fun d os => cell_regrown c2 d os
  refine wp_region_quiet_below (by kernel_rfl) (by kernel_rfl) ?_
  repeat (go_big_quiet_step ((go_at_call 54; exact Calls.regrown_of (of_any _ (v : Int) (u : Int)))))
  refine wpQuiet_nil ?_
  intro _ hw'
  obtain ⟨⟨dq, osq⟩, hw''⟩ := hw'
  subst hw''
  have X0 : Hid (Ext w (Sort.grow (redrawn w dq) osq)) := below_regrown w dq osq
  generalize Sort.grow (redrawn w dq) osq = w0 at X0 ⊢
  clear N1 N2 hlk g2 c2
  have d0 : w0.cell? ⟨F.fb, 0, none⟩ = some (.map (some F.mb)) := (X0.out.cell (p := ⟨F.fb, 0, none⟩) hlt).trans c0
  have d1 : w0.cell? ⟨F.fb, 1, none⟩ = some (.slice (some ⟨F.rb, 0, none⟩) n F.c) := (X0.out.cell (p := ⟨F.fb, 1, none⟩) hlt).trans c1
  have d2 : w0.cell? ⟨F.rb, v, none⟩ = some (.int .i64 r) := (X0.out.cell (p := ⟨F.rb, v, none⟩) HRL.out).trans e1
  have hlw0 : ∀ k, (Instr.lookup 146 (.map (some F.mb)) (.int .i64 r) false).run Tryz.prog (w0.drewN k) = .ok (.pointer q) (w0.drewN k) := fun k => hlw _ (X0.out.trans (Ext.drewN w0 k))
  clear c0 c1 e1 hlw
  go_wp2
  go_quiet (fail)
  have X1 : Hid (Ext w (w0.drewN nq)) := X0.out.trans (Ext.drewN w0 nq)
  generalize w0.drewN nq = w1 at X1 ⊢
  clear d0 d1 d2 hlw0 X0
  go_wp2_with fail
  refine (row_list (HQ.out.ext X1.out) (by have := HLEN.out; omega)).mono ?_
  rintro e w2 ⟨A, c, rfl, ho, hx, hnw⟩
  have HO := Lib.hid ho
  have X2 : Hid (Ext w w2) := X1.out.trans hx
  clear ho hx hnw X1
  go_wp2_with fail
  refine (ST2.out _).mono ?_
  rintro e w' ⟨rfl, rfl⟩
  go_wp2_with fail
  refine (index_any w2 A c l hi _ HO.out I2.out.1 I2.out.2 (by have := HLEN.out; omega)).mono ?_
  rintro e w2' ⟨rfl, hw2⟩
  obtain rfl : w2 = w2' := hw2.symm
  go_wp2_with fail
  refine (ST1.out _).mono ?_
  rintro e w' ⟨rfl, rfl⟩
  go_wp2_with fail
  refine (index_any w2 A c l lo _ HO.out I1.out.1 I1.out.2 (by have := HLEN.out; omega)).mono ?_
  rintro e w2' ⟨rfl, hw2⟩
  obtain rfl : w2 = w2' := hw2.symm
  go_wp2_with fail
  refine (row_split (HQ.out.ext X2.out) (by have := HLEN.out; omega) lo (by have := LOHI.out; omega)).mono ?_
  rintro e w3 ⟨q1, q2, rfl, s1, s2, x3⟩
  have S1 : Hid (RowAt w3 q1 low) := by rw [T1.out.1] at s1; exact s1
  have S2 : Hid (RowAt w3 q2 R) := by rw [T1.out.2.1] at s2; exact s2
  have X3 : Hid (Ext w w3) := X2.out.trans x3
  clear s1 s2 x3 X2 HO I1 I2 ST1 ST2
  go_wp2_with fail
  refine (row_split S2.out T1.out.2.2 d T2.out.2.2).mono ?_
  rintro e w4 ⟨q3, q4, rfl, s3, s4, x4⟩
  have S3 : Hid (RowAt w4 q3 (st u v :: mid)) := by rw [T2.out.1] at s3; exact s3
  have S4 : Hid (RowAt w4 q4 (st v u :: high)) := by rw [T2.out.2.1] at s4; exact s4
  have S1' : Hid (RowAt w4 q1 low) := S1.out.ext x4
  have X4 : Hid (Ext w w4) := X3.out.trans x4
  clear s3 s4 x4 X3 S1 S2
  go_wp2_with fail
  refine (row_split S3.out L3.out.1 1 (by simp)).mono ?_
  rintro e w5 ⟨q5, q6, rfl, s5, s6, x5⟩
  have S6 : Hid (RowAt w5 q6 mid) := s6
  have S4' : Hid (RowAt w5 q4 (st v u :: high)) := S4.out.ext x5
  have S1'' : Hid (RowAt w5 q1 low) := S1'.out.ext x5
  have X5 : Hid (Ext w w5) := X4.out.trans x5
  clear s5 s6 x5 X4 S1' S3 S4
  go_wp2_with fail
  refine (row_split S4'.out L3.out.2.1 1 (by simp)).mono ?_
  rintro e w6 ⟨q7, q8, rfl, s7, s8, x6⟩
  have S8 : Hid (RowAt w6 q8 high) := s8
  have R6 : Hid (RowAt w6 q6 mid) := S6.out.ext x6
  have R1 : Hid (RowAt w6 q1 low) := S1''.out.ext x6
  have X6 : Hid (Ext w w6) := X5.out.trans x6
  clear s7 s8 x6 X5 S1'' S4' S6
  have hrs : Hid (∀ (i : Nat) p, [(q1, low), (q8, high)][i]? = some p → (w6.alloc (.cells #[.pointer q1, .pointer q8] 150)).cell? ⟨w6.heap.size, i, none⟩ = some (.pointer p.1) ∧ RowAt (w6.alloc (.cells #[.pointer q1, .pointer q8] 150)) p.1 p.2) := by
    intro i p hp
    have hB := Blk.new w6 150 #[.pointer q1, .pointer q8]
    match i, hp with
    | 0, hp => simp at hp; subst hp; exact ⟨hB.cell 0, R1.out.ext (Ext.alloc _ _)⟩
    | 1, hp => simp at hp; subst hp; exact ⟨hB.cell 1, S8.out.ext (Ext.alloc _ _)⟩
    | i + 2, hp => simp at hp
  have hfl : [(q1, low), (q8, high)].flatMap (fun z : Option Addr × List Int => z.2) = low ++ high := by simp
  go_wp2_with fail
  refine (tjoin_any (m := 2) (c := 2) [(q1, low), (q8, high)] hrs.out (by simp) rfl (by omega) (by rw [hfl]; exact L3.out.2.2.1)).mono ?_
  rintro e w7 ⟨q9, rfl, s9, x7⟩
  rw [hfl] at s9
  have S9 := Lib.hid s9
  have x7' : Ext w6 w7 := (Ext.alloc w6 _).trans x7
  have M7 : Hid (RowAt w7 q6 mid) := R6.out.ext x7'
  have X7 : Hid (Ext w w7) := X6.out.trans x7'
  clear s9 x7 x7' hrs R1 R6 S8 X6 hfl
  have HB7 : Hid (Blk w7 F.fb 149 #[.map (some F.mb), F.rv n, .map (some F.eb)]) := HB0.out.chg (Chg.of_below X7.out) (by omega)
  have HR7 : Hid (RootAt w7 F n p) := own_chg HR.out (Chg.of_below X7.out) (fun k hk => by have := own_lt HR.out hk; omega)
  have CF := Lib.hid (cut_facts H.out HUV.out (HL.out ▸ HWAY.out))
  go_wp2_with fail
  refine (tset_any HB7.out h60.2 HR7.out HP.out.len (HV.out.ext X7.out) (by omega) M7.out L3.out.2.2.2 CF.out.1 CF.out.2.1).mono ?_
  rintro e w8 ⟨rfl, r1, p1, m1, s1, a1, a2, a3, a4, a5, a6⟩
  have hfb := H.out.fb_ne
  have HB8 : Hid (Blk w8 F.fb 149 #[.map (some F.mb), F.rv n, .map (some F.eb)]) := HB7.out.chg a6 (fun e => hfb (by rcases e with e | e; exact .inl e; exact .inr (.inl e)))
  have hsq7 : ∀ k, (k = F.mb ∨ k = F.rb) → ∀ cs, ¬ Blk w7 k 189 cs := fun k hk => (H.out.ext X7.out).noseq k (by rcases hk with e | e; exact .inl e; exact .inr (.inl e))
  have S98 : Hid (RowAt w8 q9 (low ++ high)) := S9.out.chg a6 hsq7
  have A1 : Hid ((r1 : Int) ∈ mks mid ∧ (∀ z ∈ mks mid, (r1 : Int) ≤ z) ∧ SetR n (mks mid) r1 q6 p m p1 m1 ∧ Chg (fun k => k = F.mb ∨ k = F.rb) w7 w8) := ⟨a1, a2, a3, a6⟩
  have P1 : Hid (p1.length = n) := by rw [Hid, a3.len]; exact HP.out.len
  have A4 := Lib.hid a4
  have A5 := Lib.hid a5
  clear a1 a2 a3 a4 a5 a6 hsq7 hfb HB7 HR7
  go_wp2_with fail
  refine (tset_any HB8.out h60.2 A4.out P1.out A5.out (by omega) S98.out L3.out.2.2.1 CF.out.2.2.1 CF.out.2.2.2).mono ?_
  rintro e w9 ⟨rfl, r2, p2, m2, s2, b1, b2, b3, b4, b5, b6⟩
  have HDEL := Lib.hid (H.out.cutted X7.out HP.out HW.out HUV.out (HL.out ▸ HWAY.out) M7.out S98.out A1.out.1 A1.out.2.1 A1.out.2.2.1 A1.out.2.2.2 b1 b2 b3 A4.out A5.out b4 b5 b6 (v : Int) (u : Int) (GMek v u))
  have hb9 : Blk w9 F.fb 149 #[.map (some F.mb), F.rv n, .map (some F.eb)] := HB8.out.chg b6 (by
    have := H.out.fb_ne
    exact fun e => this (by rcases e with e | e; exact .inl e; exact .inr (.inl e)))
  have f2 : w9.cell? ⟨F.fb, 2, none⟩ = some (.map (some F.eb)) := hb9.cell 2
  have hl9 := hb9.lt
  have HK : Hid (∀ W, Ext w9 W → W.cell? ⟨F.fb, 2, none⟩ = some (.map (some F.eb))) := fun W hW => (hW.cell (p := ⟨F.fb, 2, none⟩) hl9).trans f2
  clear b1 b2 b3 b4 b5 b6 hb9 HB8 A1 A4 A5 P1 S98 S9 M7 CF X7 H HP HW HV HR HQ HL HWAY HUV HLEN HB0 HRL T1 T2 L3 LOHI z2 e9
  go_wp2
  go_region_held3 (fun w' => w'.cell? ⟨F.fb, 2, none⟩ = some (.map (some F.eb))) (go_keep)
    (first
      | (go_at_call 54; refine (of_any _ (v : Int) (u : Int)).mono ?_; rintro e w10 ⟨rfl, hb10⟩; have X10 : Hid (Ext w9 w10) := Ext.trans (Ext.drew _) hb10; have q10 : w10.cell? ⟨F.fb, 2, none⟩ = some (.map (some F.eb)) := HK.out _ X10.out; obtain ⟨W2, hr2, hf2, hc2, hq2⟩ := HDEL.out _ X10.out; have HF2 := Lib.hid hf2; have HC2 := Lib.hid hc2; clear hf2 hc2 hb10)
      | (refine step_vdel _ (by rfl) (.tmp 131) (.tmp 134) 147 32 (by rfl) _ _ (by rfl) (by rfl) W2 hr2 ?_)
      | fail)
  go_wp2
  go_ret
  exact ⟨rfl, HF2.out, HC2.out⟩
end
end Go.Proofs.YtckcbfnffmohgaaGreat
