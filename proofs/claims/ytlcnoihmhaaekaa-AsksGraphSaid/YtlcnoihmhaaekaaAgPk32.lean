/-
  Walks of graph's Level, Has, Joined, Size, Parts. Condition: the graph lies in memory as 'GrM' says.
-/
import Derived.Test.YtlcnoihmhaaekaaAgPk31
namespace Go.Proofs.Ytlcnoihmhaaekaa
open Go Go.RowKit SQ TR DF PD
set_option linter.unusedVariables false

theorem step_look {P : Program} (w : World) {ops : Array Oper} {o : Oper} {a : Act} {K : Act → World → Prop} {Q : Exit → Act → World → Prop} {Z : Prop} (hgd : o.guard = none) (m x : Operand) (t : TypeId) (ok : Bool)
    (ho : o.op = Op.lookup t m x ok) (vm vx v : Value) (hm : a.eval m = vm) (hx : a.eval x = vx) (hr : (Instr.lookup t vm vx ok).run P w = .ok v w) (h : K (a.put o.dst v) w) :
    if Region.wanted o (yielded ops a.tmps) = true then Oper.wp P o a w K Q else Z := by
  have hw : Region.wanted o (yielded ops a.tmps) = true := by simp [Region.wanted, hgd]
  rw [if_pos hw]
  unfold Oper.wp
  simp [execOp, ho, hm, hx, hr, Result.andThen]
  exact h
theorem zeroState (w : World) : (zeroValue 87).run Try.prog w = .ok (.agg #[.int .i64 0, .bool false]) w := by kernel_rfl
theorem Ext.set_ {w W : World} (h : Ext w W) {p : Addr} (hp : w.heap.size ≤ p.block) (v : Value) : Ext w (W.setCell p v) := Below.setCell h hp v
theorem keepS {w W : World} {P : World → Prop} (H : ∀ W, Ext w W → P W) (hE : Ext w W) : Ext w W ∧ P W := ⟨hE, H W hE⟩
section
variable {w : World} {G : GrP} {n N : Nat} {A : List AK.Ed} {f : AK.Ed → GM.St} {Es : Nat → List AK.Ed}
theorem okE_ek {a b : Int} (ha : 0 ≤ a ∧ a ≤ 1000) (hb : 0 ≤ b ∧ b ≤ 1000) : okE (AK.ek a b) := okE_of (by unfold AK.ek; simp only; omega) (by unfold AK.ek; simp only; omega)
theorem GrM.look_ok (h : GrM w G n N A f Es) (x : AK.Ed) (hx : okE x) {z : Value} {ok : Bool} (hz : (if x ∈ A then stV (f x) else .agg #[.int .i64 0, .bool false]) = z) (hk : decide (x ∈ A) = ok) : (Instr.lookup 82 (.map (some G.eb)) (edV x) true).run Try.prog w = .ok (.tuple #[z, .bool ok]) w := by
  obtain ⟨me, m1, m2⟩ := h.edges
  have : (Instr.lookup 82 (.map (some G.eb)) (edV x) true).run Try.prog w = _ := m1.look_ok Try.underlying82 (zeroState _) x hx
  rw [m2 x hx] at this
  subst hz; subst hk
  by_cases q : x ∈ A
  · rw [if_pos q] at this ⊢; simpa [q] using this
  · rw [if_neg q] at this ⊢; simpa [q] using this
theorem GrM.look (h : GrM w G n N A f Es) (x : AK.Ed) (hx : okE x) {z : Value} (hz : (if x ∈ A then stV (f x) else .agg #[.int .i64 0, .bool false]) = z) : (Instr.lookup 82 (.map (some G.eb)) (edV x) false).run Try.prog w = .ok z w := by
  obtain ⟨me, m1, m2⟩ := h.edges
  have : (Instr.lookup 82 (.map (some G.eb)) (edV x) false).run Try.prog w = _ := m1.look Try.underlying82 (zeroState _) x hx
  rw [m2 x hx] at this
  subst hz
  by_cases q : x ∈ A
  · rw [if_pos q] at this ⊢; simpa using this
  · rw [if_neg q] at this ⊢; simpa using this
set_option maxRecDepth 100000 in
set_option maxHeartbeats 2000000 in
theorem glevel_ok (h : GrM w G n N A f Es) (a b : Nat) (ha : a < n) (hb : b < n) (hm : AK.ek a b ∈ A) :
    Calls Try.prog 26 #[.pointer (some ⟨G.gb, 0, none⟩), .int .i64 a, .int .i64 b] w fun e w' => e = .returned (.tuple #[.int .i64 ((f (AK.ek a b)).lv : Nat), .nilIface]) ∧ Ext w w' := by
  have h60 := h.hn
  have c1 : w.cell? ⟨G.gb, 1, none⟩ = some (.map (some G.eb)) := h.blk.cell 1
  have hlt := h.blk.lt
  have N1 := Lib.hid (gnode_any h a true (by simp [ha]))
  have N2 := Lib.hid (gnode_any h b true (by simp [hb]))
  obtain ⟨s, hs⟩ : ∃ s, f (AK.ek a b) = s := ⟨_, rfl⟩
  have LK : Hid (∀ W, Ext w W → (Instr.lookup 82 (.map (some G.eb)) (edV (AK.ek a b)) true).run Try.prog W = .ok (.tuple #[.agg #[.int .i64 s.lv, .bool s.tr], .bool true]) W) := fun W hW =>
    (h.ext hW).look_ok _ (okE_ek (by omega) (by omega)) (by rw [if_pos hm, hs]; rfl) (by simp [hm])
  rw [hs]
  clear h hm hs
  go_enter Try.func26, Try.ntmps26
  go_wp2_with fail
  refine N1.out.mono ?_
  rintro e w' ⟨rfl, rfl⟩
  go_wp2_with fail
  refine N2.out.mono ?_
  rintro e w' ⟨rfl, rfl⟩
  go_wp2
  have KG : Hid (∀ W, Ext w W → W.cell? ⟨G.gb, 1, none⟩ = some (.map (some G.eb)) ∧ (Instr.lookup 82 (.map (some G.eb)) (edV (AK.ek a b)) true).run Try.prog W = .ok (.tuple #[.agg #[.int .i64 s.lv, .bool s.tr], .bool true]) W) := fun W hW => ⟨(hW.cell (p := ⟨G.gb, 1, none⟩) hlt).trans c1, LK.out W hW⟩
  go_region_held3 (fun w' => Ext w w' ∧ w'.cell? ⟨G.gb, 1, none⟩ = some (.map (some G.eb)) ∧ (Instr.lookup 82 (.map (some G.eb)) (edV (AK.ek a b)) true).run Try.prog w' = .ok (.tuple #[.agg #[.int .i64 s.lv, .bool s.tr], .bool true]) w')
    ((refine keepS KG.out ?_; first | assumption | exact fst_ (by assumption) | exact Ext.trans (by assumption) (Ext.alloc _ _) | exact Ext.drew _ | exact (Ext.alloc _ _).trans (Ext.drew _) | exact Ext.set_ (Ext.set_ (by assumption) (Nat.le_refl _) _) (Nat.le_refl _) _ | exact Ext.trans (fst_ (by assumption)) (by assumption) | (trace_state; fail)))
    (first
      | (go_at_call 36; refine (of_any _ (a : Int) (b : Int)).mono ?_; rintro e w7 ⟨rfl, hb7⟩; first | have X7 : Ext w w7 := Ext.trans (Ext.drew _) hb7 | (have X7 : Ext w w7 := Ext.trans ((Ext.alloc _ _).trans (Ext.drew _)) hb7; have B7 : Blk w7 w.heap.size 87 #[.int .i64 0, .bool false] := ((Blk.new w _ _).drew).chg (Chg.of_below hb7) (by simp); have y0 := B7.cell 0; have y1 := B7.cell 1; have f0 := B7.frozen 0; have f1 := B7.frozen 1))
      | fail)
  go_wp2
  all_goals go_ret2
  all_goals exact ⟨rfl, fst_ (by assumption)⟩
set_option maxHeartbeats 1000000 in
theorem glevel_range (h : GrM w G n N A f Es) (a b : Int) (hr : ¬ (0 ≤ a ∧ a < n) ∨ ¬ (0 ≤ b ∧ b < n)) :
    Calls Try.prog 26 #[.pointer (some ⟨G.gb, 0, none⟩), .int .i64 a, .int .i64 b] w fun e w' => e = .returned (.tuple #[.int .i64 0, errV 1]) ∧ w = w' := by
  by_cases ha : 0 ≤ a ∧ a < n
  · have hb : ¬ (0 ≤ b ∧ b < n) := by omega
    have h1 := Lib.hid (gnode_any h a true (by simp [ha]))
    have h2 := Lib.hid (gnode_any h b false (by simp only [hb, decide_false]))
    clear hr ha hb h
    go_enter Try.func26, Try.ntmps26
    go_wp2_with fail
    refine h1.out.mono ?_
    rintro e w' ⟨rfl, rfl⟩
    go_wp2_with fail
    refine h2.out.mono ?_
    rintro e w' ⟨rfl, rfl⟩
    go_wp2
    go_ret2
    exact ⟨rfl, rfl⟩
  · have h1 := Lib.hid (gnode_any h a false (by simp only [ha, decide_false]))
    clear hr ha h
    go_enter Try.func26, Try.ntmps26
    go_wp2_with fail
    refine h1.out.mono ?_
    rintro e w' ⟨rfl, rfl⟩
    go_wp2
    go_ret2
    exact ⟨rfl, rfl⟩
set_option maxRecDepth 100000 in
set_option maxHeartbeats 2000000 in
theorem glevel_none (h : GrM w G n N A f Es) (a b : Nat) (ha : a < n) (hb : b < n) (hm : AK.ek a b ∉ A) :
    Calls Try.prog 26 #[.pointer (some ⟨G.gb, 0, none⟩), .int .i64 a, .int .i64 b] w fun e w' => e = .returned (.tuple #[.int .i64 0, errV 4]) ∧ Ext w w' := by
  have h60 := h.hn
  have c1 : w.cell? ⟨G.gb, 1, none⟩ = some (.map (some G.eb)) := h.blk.cell 1
  have hlt := h.blk.lt
  have N1 := Lib.hid (gnode_any h a true (by simp [ha]))
  have N2 := Lib.hid (gnode_any h b true (by simp [hb]))
  have LK : Hid (∀ W, Ext w W → (Instr.lookup 82 (.map (some G.eb)) (edV (AK.ek a b)) true).run Try.prog W = .ok (.tuple #[.agg #[.int .i64 0, .bool false], .bool false]) W) := fun W hW =>
    (h.ext hW).look_ok _ (okE_ek (by omega) (by omega)) (by rw [if_neg hm]) (by simp [hm])
  clear h hm
  go_enter Try.func26, Try.ntmps26
  go_wp2_with fail
  refine N1.out.mono ?_
  rintro e w' ⟨rfl, rfl⟩
  go_wp2_with fail
  refine N2.out.mono ?_
  rintro e w' ⟨rfl, rfl⟩
  go_wp2
  have KG : Hid (∀ W, Ext w W → W.cell? ⟨G.gb, 1, none⟩ = some (.map (some G.eb)) ∧ (Instr.lookup 82 (.map (some G.eb)) (edV (AK.ek a b)) true).run Try.prog W = .ok (.tuple #[.agg #[.int .i64 0, .bool false], .bool false]) W) := fun W hW => ⟨(hW.cell (p := ⟨G.gb, 1, none⟩) hlt).trans c1, LK.out W hW⟩
  go_region_held3 (fun w' => Ext w w' ∧ w'.cell? ⟨G.gb, 1, none⟩ = some (.map (some G.eb)) ∧ (Instr.lookup 82 (.map (some G.eb)) (edV (AK.ek a b)) true).run Try.prog w' = .ok (.tuple #[.agg #[.int .i64 0, .bool false], .bool false]) w')
    ((refine keepS KG.out ?_; first | assumption | exact fst_ (by assumption) | exact Ext.trans (by assumption) (Ext.alloc _ _) | exact Ext.drew _ | exact (Ext.alloc _ _).trans (Ext.drew _) | exact Ext.set_ (Ext.set_ (by assumption) (Nat.le_refl _) _) (Nat.le_refl _) _ | exact Ext.trans (fst_ (by assumption)) (by assumption) | (trace_state; fail)))
    (first
      | (go_at_call 36; refine (of_any _ (a : Int) (b : Int)).mono ?_; rintro e w7 ⟨rfl, hb7⟩; first | have X7 : Ext w w7 := Ext.trans (Ext.drew _) hb7 | (have X7 : Ext w w7 := Ext.trans ((Ext.alloc _ _).trans (Ext.drew _)) hb7; have B7 : Blk w7 w.heap.size 87 #[.int .i64 0, .bool false] := ((Blk.new w _ _).drew).chg (Chg.of_below hb7) (by simp); have y0 := B7.cell 0; have y1 := B7.cell 1; have f0 := B7.frozen 0; have f1 := B7.frozen 1))
      | fail)
  go_wp2
  all_goals go_ret2
  all_goals exact ⟨rfl, fst_ (by assumption)⟩
set_option maxHeartbeats 1000000 in
theorem gjoined_range (h : GrM w G n N A f Es) (a b : Int) (hr : ¬ (0 ≤ a ∧ a < n) ∨ ¬ (0 ≤ b ∧ b < n)) :
    Calls Try.prog 25 #[.pointer (some ⟨G.gb, 0, none⟩), .int .i64 a, .int .i64 b] w fun e w' => e = .returned (.tuple #[.bool false, errV 1]) ∧ w = w' := by
  obtain ⟨F, hF⟩ := h.get h.pos
  have c2 : w.cell? ⟨G.gb, 2, none⟩ = some (.slice (some ⟨G.ob, 0, none⟩) G.Fs.length G.c) := h.blk.cell 2
  have c3 := h.cellF hF
  have hpos : (0 : Int) < (G.Fs.length : Int) := by have := h.pos; omega
  have HT := Lib.hid (tsame_range (h.fo 0 F hF) a b hr)
  clear h hr
  go_enter Try.func25, Try.ntmps25
  go_wp2_with fail
  refine HT.out.mono ?_
  rintro e w' ⟨rfl, rfl⟩
  go_wp2
  go_ret2
  exact ⟨rfl, rfl⟩
set_option maxHeartbeats 1000000 in
theorem gjoined_ok (h : GrM w G n N A f Es) (a b : Nat) (ha : a < n) (hb : b < n) (t : Bool) (ht : t = true ↔ Cn (adj (Es 0)) a b) :
    Calls Try.prog 25 #[.pointer (some ⟨G.gb, 0, none⟩), .int .i64 a, .int .i64 b] w fun e w' => e = .returned (.tuple #[.bool t, .nilIface]) ∧ Ext w w' := by
  obtain ⟨F, hF⟩ := h.get h.pos
  have c2 : w.cell? ⟨G.gb, 2, none⟩ = some (.slice (some ⟨G.ob, 0, none⟩) G.Fs.length G.c) := h.blk.cell 2
  have c3 := h.cellF hF
  have hpos : (0 : Int) < (G.Fs.length : Int) := by have := h.pos; omega
  have HT := Lib.hid (tsame_ok (h.fo 0 F hF) a b ha hb t ht)
  clear h ht
  go_enter Try.func25, Try.ntmps25
  go_wp2_with fail
  refine HT.out.mono ?_
  rintro e w' ⟨rfl, hx⟩
  have HX := Lib.hid hx
  clear hx
  go_wp2
  go_ret2
  exact ⟨rfl, HX.out⟩
set_option maxHeartbeats 1000000 in
theorem gsize_range (h : GrM w G n N A f Es) (a : Int) (hr : ¬ (0 ≤ a ∧ a < n)) :
    Calls Try.prog 24 #[.pointer (some ⟨G.gb, 0, none⟩), .int .i64 a] w fun e w' => e = .returned (.tuple #[.int .i64 0, errV 1]) ∧ w = w' := by
  obtain ⟨F, hF⟩ := h.get h.pos
  have c2 : w.cell? ⟨G.gb, 2, none⟩ = some (.slice (some ⟨G.ob, 0, none⟩) G.Fs.length G.c) := h.blk.cell 2
  have c3 := h.cellF hF
  have hpos : (0 : Int) < (G.Fs.length : Int) := by have := h.pos; omega
  have HT := Lib.hid (tsize_range (h.fo 0 F hF) a hr)
  clear h hr
  go_enter Try.func24, Try.ntmps24
  go_wp2_with fail
  refine HT.out.mono ?_
  rintro e w' ⟨rfl, rfl⟩
  go_wp2
  go_ret2
  exact ⟨rfl, rfl⟩
set_option maxHeartbeats 1000000 in
theorem gsize_ok (h : GrM w G n N A f Es) (a : Nat) (ha : a < n) :
    Calls Try.prog 24 #[.pointer (some ⟨G.gb, 0, none⟩), .int .i64 a] w fun e w' => e = .returned (.tuple #[.int .i64 ((comp n (Es 0) a).length : Nat), .nilIface]) ∧ Ext w w' := by
  obtain ⟨F, hF⟩ := h.get h.pos
  have c2 : w.cell? ⟨G.gb, 2, none⟩ = some (.slice (some ⟨G.ob, 0, none⟩) G.Fs.length G.c) := h.blk.cell 2
  have c3 := h.cellF hF
  have hpos : (0 : Int) < (G.Fs.length : Int) := by have := h.pos; omega
  have HT := Lib.hid (tsize_ok (h.fo 0 F hF) a ha)
  clear h ha
  generalize (comp n (Es 0) a).length = m at HT ⊢
  go_enter Try.func24, Try.ntmps24
  go_wp2_with fail
  refine HT.out.mono ?_
  rintro e w' ⟨rfl, hx⟩
  have HX := Lib.hid hx
  clear hx
  go_wp2
  go_ret2
  exact ⟨rfl, HX.out⟩
set_option maxRecDepth 100000 in
set_option maxHeartbeats 1000000 in
theorem gparts_any (h : GrM w G n N A f Es) (hok : ∀ x ∈ A, 0 ≤ x.1 ∧ x.1 < x.2 ∧ x.2 < (n : Int)) (hup : A.Pairwise ltE) (hl : A.length ≤ 200) :
    Calls Try.prog 18 #[.pointer (some ⟨G.gb, 0, none⟩)] w fun e w' => e = .returned (.int .i64 ((n : Int) - (GM.lvl f A 0).length)) ∧ Ext w w' := by
  have h60 := h.hn
  have c0 : w.cell? ⟨G.gb, 0, none⟩ = some (.int .i64 n) := h.blk.cell 0
  have hlt := h.blk.lt
  have hll : (GM.lvl f A 0).length ≤ 200 := Nat.le_trans (List.length_filter_le _ _) hl
  have HT : Hid (∀ W, Ext w W → Calls Try.prog 23 #[.pointer (some ⟨G.gb, 0, none⟩)] W (EdgesPost W (GM.lvl f A 0))) := fun W hW => gtree_any (h.ext hW) hok hup hl
  have KG : Hid (∀ W, Ext w W → W.cell? ⟨G.gb, 0, none⟩ = some (.int .i64 n)) := fun W hW => (hW.cell (p := ⟨G.gb, 0, none⟩) hlt).trans c0
  clear h hok hup hl
  generalize GM.lvl f A 0 = L at HT hll ⊢
  have hwr : IntKind.i64.wrap ((n : Int) - (L.length : Int)) = (n : Int) - (L.length : Int) := IntWalk.i64_in _ (by omega)
  go_enter Try.func18, Try.ntmps18
  go_wp2
  go_region_held3 (fun w' => Ext w w' ∧ w'.cell? ⟨G.gb, 0, none⟩ = some (.int .i64 n))
    ((refine keepS KG.out ?_; first | assumption | exact fst_ (by assumption) | exact Ext.trans (by assumption) (Ext.alloc _ _) | exact Ext.drew _ | exact Ext.refl _ | exact Ext.trans (fst_ (by assumption)) (by assumption) | (trace_state; fail)))
    (first
      | (go_at_call 23; refine (HT.out _ (Ext.drew _)).mono ?_; rintro e w7 ⟨B, c, rfl, hb7, hx7, hn7⟩; have X7 : Ext w w7 := Ext.trans (Ext.drew _) hx7; clear hb7 hn7 hx7)
      | fail)
  go_wp2
  all_goals go_ret
  all_goals exact ⟨rfl, by first | assumption | exact fst_ (by assumption)⟩
end
end Go.Proofs.Ytlcnoihmhaaekaa
