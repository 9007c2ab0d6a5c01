/-
  The references' disk: Write, Sync. Conditions: the disk lies as 'RAt' says; the bytes as 'BytesAt' says, and not in the disk's blocks.
-/
import Derived.Test.YtenjblonepegfaaDoorRd1
import Derived.Deep.CutBlock
import Derived.Deep.DeepCutAuto
import Derived.StillTailTactics
namespace Go.Proofs.YtenjblonepegfaaDoor
open Go Go.RowKit
set_option linter.unusedVariables false

theorem infoPg : (Tryd.prog.info? 33).map (fun i => (i.zero, i.size, i.bytes)) = some (some (.slice none 0 0), 1, 24) := by kernel_rfl
theorem infoRW : (Tryd.prog.info? 122).map (fun i => (i.zero, i.size, i.bytes)) = some (some (.agg #[.int .i64 0, .slice none 0 0]), 2, 32) := by kernel_rfl
theorem pgs_set {K : List PR} {i : Nat} {x : PR} : pgs (K.set i x) = (pgs K).set i x.p := by simp [pgs, List.map_set]
/-- A page is put where the disk has one now. -/
theorem RAt.setNow {w : World} {r : RD} {n : Nat} {d : DK.D} (h : RAt w r n d) {i : Nat} (hi : i < n) {x : PR} (hx : POk w x) (hp : x.p.length = 32) :
    RAt (w.setCell ⟨r.gn, i, none⟩ (pv x)) { r with N := r.N.set i x } n { d with now := d.now.set i x.p } := by
  have hc := chg_cell w r.gn i (pv x)
  have hpg : ∀ k, k = r.gn → ∀ cs, ¬ Blk w k 5 cs := fun k hk => by subst hk; exact h.nopage (.inr (.inr (.inl rfl)))
  refine ⟨⟨h.ok.lk, by simp [h.ok.ln], h.ok.kp, fun p hpm => ?_, h.ok.wp, h.ok.left⟩, h.pos, h.le, h.blk.far (fun e => h.ggn e.symm) _, own_chg h.rk hc (by intro k hk; simp [Value.ownBlock] at hk; subst hk; exact h.n1), ?_, own_chg h.rw hc (fun k hk e => by subst e; exact h.gwn hk), h.n1, h.hk, ?_, h.hw, fun y hy => (h.pk y hy).chg hc hpg, fun y hy => ?_, fun y hy => (h.pw y hy).chg hc hpg⟩
  · rcases DK.mem_set hpm with hpm | rfl
    · exact h.ok.np p hpm
    · exact hp
  · show World.ownsRow _ _ _ _ _ _ ((r.N.set i x).map pv)
    rw [List.map_set]; exact (World.ownsRow.stored h.rn i (pv x)).1
  · show pgs (r.N.set i x) = _
    rw [pgs_set, h.hn]
  · have hy' : y ∈ r.N.set i x := hy
    rcases DK.mem_set hy' with hy | rfl
    · exact (h.pn y hy).chg hc hpg
    · exact hx.chg hc hpg
/-- A write more. -/
theorem RAt.setWs {w w2 w3 : World} {r : RD} {n : Nat} {d : DK.D} (h : RAt w r n d) {i : Nat} (hi : i < n) {x : PR} (hx : POk w x) (hp : x.p.length = 32) (b2 : Below w.heap.size w w2) {g c : Nat}
    (ho : w3.ownsRow 0 122 2 (.slice (some ⟨g, 0, none⟩) (d.ws.length + 1) c) (d.ws.length + 1) (rowsOf wC r.W ++ wC (i, x))) (hc : Chg (fun k => r.wv.ownBlock = some k) w2 w3) (hat : r.wv.ownBlock = some g ∨ g = w2.heap.size) :
    RAt (w3.setCell ⟨r.g, 2, none⟩ (.slice (some ⟨g, 0, none⟩) (d.ws.length + 1) c)) { r with wv := .slice (some ⟨g, 0, none⟩) (d.ws.length + 1) c, W := r.W ++ [(i, x)] } n { d with ws := d.ws ++ [(i, x.p)] } ∧
      Chg r.fp w2 (w3.setCell ⟨r.g, 2, none⟩ (.slice (some ⟨g, 0, none⟩) (d.ws.length + 1) c)) ∧ (r.fp g ∨ w.heap.size ≤ g) := by
  have h2 := h.ext b2
  have hx2 := hx.ext b2
  have hpg2 : ∀ k, r.wv.ownBlock = some k → ∀ cs, ¬ Blk w2 k 5 cs := fun k hk => h2.nopage (.inr (.inr (.inr hk)))
  have hfar : ∀ k, (k = r.g ∨ k = r.gk ∨ k = r.gn) → ¬ r.wv.ownBlock = some k := fun k hk => by
    rcases hk with rfl | rfl | rfl
    · exact h2.ggw
    · exact h2.gwk
    · exact h2.gwn
  have blk3 := h2.blk.chg hc (hfar _ (.inl rfl))
  have rk3 := own_chg h2.rk hc (by intro k hk; simp [Value.ownBlock] at hk; exact hfar k (.inr (.inl hk.symm)))
  have rn3 := own_chg h2.rn hc (by intro k hk; simp [Value.ownBlock] at hk; exact hfar k (.inr (.inr hk.symm)))
  have hgg : g ≠ r.g := by have := own_ne ho blk3 (by decide); simpa [Value.ownBlock] using this
  have hc4 := chg_cell w3 r.g 2 (.slice (some ⟨g, 0, none⟩) (d.ws.length + 1) c)
  have hpg3 : ∀ k, k = r.g → ∀ cs, ¬ Blk w3 k 5 cs := fun k hk cs hb => by subst hk; exact Blk.ne_ blk3 hb (by decide) rfl
  have hlen : (d.ws ++ [(i, x.p)]).length = d.ws.length + 1 := by simp
  refine ⟨⟨⟨h.ok.lk, h.ok.ln, h.ok.kp, h.ok.np, fun y hy => ?_, h.ok.left⟩, h.pos, h.le, by simpa using blk3.set_ 2 (.slice (some ⟨g, 0, none⟩) (d.ws.length + 1) c), own_far rk3 (by simpa [Value.ownBlock] using h2.ggk) _, own_far rn3 (by simpa [Value.ownBlock] using h2.ggn) _, ?_, h.n1, h.hk, h.hn, ?_, fun y hy => ((h2.pk y hy).chg hc hpg2).chg hc4 hpg3, fun y hy => ((h2.pn y hy).chg hc hpg2).chg hc4 hpg3, fun y hy => ?_⟩, ?_, ?_⟩
  · rcases List.mem_append.1 hy with hy | hy
    · exact h.ok.wp y hy
    · simp at hy; subst hy; exact ⟨hp, hi⟩
  · show World.ownsRow _ _ _ _ _ _ _
    rw [hlen, rowsOf_app, rowsOf_one]
    exact own_far ho (by simpa [Value.ownBlock] using hgg) _
  · show (r.W ++ [(i, x)]).map _ = _
    rw [List.map_append, h.hw]; rfl
  · have hy' : y ∈ r.W ++ [(i, x)] := hy
    rcases List.mem_append.1 hy' with hy | hy
    · exact ((h2.pw y hy).chg hc hpg2).chg hc4 hpg3
    · simp at hy; subst hy; exact (hx2.chg hc hpg2).chg hc4 hpg3
  · exact (hc.mono (fun k _ hk => .inr (.inr (.inr hk)))).trans hc4 (fun k _ hk => by subst hk; exact .inl rfl)
  · rcases hat with hat | hat
    · exact .inl (.inr (.inr (.inr hat)))
    · right; rw [hat]; exact b2.size
theorem RMoved.refl (w : World) (r : RD) : RMoved w r r w := ⟨rfl, Chg.refl _ _, fun _ h => .inl h⟩
def RWrite (w : World) (r : RD) (n : Nat) (d : DK.D) (i : Int) (b : List Int) (e : Ending) (w' : World) : Prop :=
  ∃ r' : RD, e = .returned (.int .i64 ((wrErr n d i b).getD 0)) ∧ RAt w' r' n (wrTo n d i b) ∧ RMoved w r r' w'
theorem rw_yes {w w1 w3 w4 w5 : World} {r : RD} {n : Nat} {d : DK.D} {i b g c : Nat} {bs : List Int} (hi : i < n) (hb : bs.length ≤ 32) (hs : DK.stopped d = false) (h1 : RAt w1 r n (DK.step d)) (q1 : Chg (fun k => k = r.g) w w1) (b3 : Below w1.heap.size w1 w3) (hx : POk w3 ⟨b, 32, DK.put bs⟩) (hw4 : w4 = w3.setCell ⟨r.gn, i, none⟩ (pv ⟨b, 32, DK.put bs⟩))
    (w4' : World) (b4 : Below w4.heap.size w4 w4') (ho : w5.ownsRow 0 122 2 (.slice (some ⟨g, 0, none⟩) ((DK.step d).ws.length + 1) c) ((DK.step d).ws.length + 1) (rowsOf wC r.W ++ wC (i, ⟨b, 32, DK.put bs⟩))) (hc : Chg (fun k => r.wv.ownBlock = some k) w4' w5) (hat : r.wv.ownBlock = some g ∨ g = w4'.heap.size) :
    RWrite w r n d i bs (.returned (.int .i64 0)) (w5.setCell ⟨r.g, 2, none⟩ (.slice (some ⟨g, 0, none⟩) ((DK.step d).ws.length + 1) c)) := by
  have n1 : ¬ ((i : Int) < 0 ∨ (n : Int) ≤ i) := by omega
  have n2 : ¬ 32 < bs.length := by omega
  have h3 := h1.ext b3
  have h4 := h3.setNow hi hx (DK.put_len hb)
  rw [← hw4] at h4
  have hx4 : POk w4 ⟨b, 32, DK.put bs⟩ := by rw [hw4]; exact hx.chg (chg_cell w3 r.gn i _) (fun k hk => by subst hk; exact h3.nopage (.inr (.inr (.inl rfl))))
  obtain ⟨h5, c5, hg⟩ := h4.setWs hi hx4 (DK.put_len hb) b4 ho hc hat
  have e1 : Chg r.fp w w1 := q1.mono (fun k _ hk => .inl hk)
  have e3 : Chg r.fp w w3 := e1.trans (Chg.of_below b3) (fun i hi hS => absurd hS (by have := e1.size; omega))
  have e4 : Chg r.fp w w4 := by rw [hw4]; exact e3.trans (chg_cell w3 r.gn i _) (fun k _ hk => by subst hk; exact .inr (.inr (.inl rfl)))
  have e4' : Chg r.fp w w4' := e4.trans (Chg.of_below b4) (fun i hi hS => absurd hS (by have := e4.size; omega))
  have e5 := e4'.trans c5 (fun _ _ h => h)
  refine ⟨⟨r.g, r.gk, r.ck, r.gn, r.cn, .slice (some ⟨g, 0, none⟩) ((DK.step d).ws.length + 1) c, r.K, r.N.set i ⟨b, 32, DK.put bs⟩, r.W ++ [(i, ⟨b, 32, DK.put bs⟩)]⟩, by simp only [wrErr, if_neg n1, if_neg n2, hs]; rfl, ?_, rfl, e5, ?_⟩
  · simp only [wrTo, if_neg n1, if_neg n2, hs]; exact h5
  · have := e4.size
    rintro k (h | h | h | h)
    · exact .inl (.inl h)
    · exact .inl (.inr (.inl h))
    · exact .inl (.inr (.inr (.inl h)))
    · simp [Value.ownBlock] at h; subst h
      rcases hg with hg | hg
      · exact .inl hg
      · right; omega
theorem wpList_copy_at {P : Program} (B : Nat) (w0 w : World) {ops : Array Oper} {rest : List Oper} {o : Oper} {a : Act} {Q : Exit → Act → World → Prop} (hgd : o.guard = none) (d s : Operand) (dT : TypeId)
    (ho : o.op = .call { callee := .builtin .copy, args := #[d, s], argTypes := #[dT, dT] }) (elem : TypeId) (hu : P.underlying dT = some (.slice elem)) (hsz : (P.info? elem).map (·.size) = some 1) (t : TypeId)
    (A : Option Addr) (m c x : Nat) (b : List Int) (hd : a.eval d = .slice (some ⟨x, 0, none⟩) 32 32) (hs : a.eval s = .slice A m c) (hbk : Blk w x t (DK.pgv DK.zero).toArray) (hok : CopyOk w A b m x) (hlen : b.length ≤ 32) (hb : Below B w0 w) (hx : B ≤ x)
    (h : ∀ w', Hid (Blk w' x t (DK.pgv (DK.put b)).toArray) → Below B w0 w' → wpList P ops Q rest (a.put o.dst (goInt (DK.pgv b).length)) w') :
    wpList P ops Q (o :: rest) a w := by
  refine wpList_copy_splice hgd d s dT dT ho elem hu hsz _ A 32 32 m c hd hs x 0 (DK.pgv DK.zero) t hbk (DK.pgv b) hok.1 hok.2 (by simp [DK.pgv, DK.zero]; exact hlen) pgv_one B w0 hb hx ?_
  intro w' hg hbe
  rw [put_cells] at hg
  exact h w' hg hbe
set_option maxHeartbeats 1000000 in
set_option maxRecDepth 100000 in
theorem rwrite_any (w : World) (r : RD) (n : Nat) (d : DK.D) (h : RAt w r n d) (i : Int) (A : Option Addr) (m c : Nat) (b : List Int) (hm : b.length = m) (hmm : m ≤ maxLen) (hws : d.ws.length ≤ 10000) (hA : BytesAt w A b) (hAb : b ≠ [] → ∀ x, A = some x → x.block ≠ r.g) :
    Calls Tryd.prog 14 #[.pointer (some ⟨r.g, 0, none⟩), .int .i64 i, .slice A m c] w (RWrite w r n d i b) := by
  have c1 : w.cell? ⟨r.g, 1, none⟩ = some (.slice (some ⟨r.gn, 0, none⟩) n r.cn) := h.blk.cell 1
  unfold maxLen at hmm
  have hle := h.le
  have HH := Lib.hid h
  have HM := Lib.hid hm
  have HA := Lib.hid hA
  have HAb := Lib.hid hAb
  have HWS := Lib.hid hws
  clear h hA hAb hws hm
  by_cases hi : i < 0 ∨ (n : Int) ≤ i
  · have HR : Hid (RWrite w r n d i b (.returned (.int .i64 1)) w) := ⟨r, by simp [wrErr, hi], by simp [wrTo, hi]; exact HH.out, RMoved.refl w r⟩
    rcases (show i < 0 ∨ (¬ i < 0 ∧ (n : Int) ≤ i) by omega) with h1 | ⟨h1, h2⟩
    all_goals
      clear hi
      go_enter Tryd.func14, Tryd.ntmps14
      go_wp2
      go_ret
      exact HR.out
  have h1 : ¬ (i < 0) := by omega
  have h2 : ¬ ((n : Int) ≤ i) := by omega
  by_cases hb : 32 < m
  · have h3 : (32 : Int) < (m : Int) := by omega
    have HR : Hid (RWrite w r n d i b (.returned (.int .i64 3)) w) := by
      have := HM.out
      exact ⟨r, by simp only [wrErr, if_neg hi, if_pos (show 32 < b.length by omega)]; rfl, by simp only [wrTo, if_neg hi, if_pos (show 32 < b.length by omega)]; exact HH.out, RMoved.refl w r⟩
    clear hi hb
    go_enter Tryd.func14, Tryd.ntmps14
    go_wp2
    go_ret
    exact HR.out
  have h3 : ¬ ((32 : Int) < (m : Int)) := by omega
  have hb32 : Hid (b.length ≤ 32) := by have := HM.out; unfold Hid; omega
  have HI := Lib.hid hi
  clear hi
  obtain ⟨i, rfl⟩ := Int.eq_ofNat_of_zero_le (show 0 ≤ i by omega)
  have hin : i < n := by omega
  obtain ⟨st, hst⟩ : ∃ st, DK.stopped d = st := ⟨_, rfl⟩
  have HST := Lib.hid hst
  cases st with
  | true =>
    go_enter Tryd.func14, Tryd.ntmps14
    go_wp2_with fail
    refine (rstep_any w r n d HH.out).mono ?_
    rintro e w1 ⟨rfl, k1, q1⟩
    have HR : Hid (RWrite w r n d i b (.returned (.int .i64 8)) w1) := ⟨r, by simp only [wrErr, if_neg HI.out, if_neg (show ¬ 32 < b.length by have := hb32.out; omega), HST.out]; rfl, by simp only [wrTo, if_neg HI.out, if_neg (show ¬ 32 < b.length by have := hb32.out; omega), HST.out]; exact k1, rfl, q1.mono (fun k _ hk => .inl hk), fun k hk => .inl hk⟩
    rw [hst]
    clear k1 q1 hst
    go_wp2
    go_ret
    exact HR.out
  | false =>
    go_enter Tryd.func14, Tryd.ntmps14
    go_wp2_with fail
    refine (rstep_any w r n d HH.out).mono ?_
    rintro e w1 ⟨rfl, k1, q1⟩
    have K1 := Lib.hid k1
    have Q1 := Lib.hid q1
    have HA1 : Hid (BytesAt w1 A b) := HA.out.chg q1 HAb.out
    rw [hst]
    clear k1 q1 hst
    go_wp2_with fail
    refine (blank_any w1).mono ?_
    rintro e w2 ⟨x, rfl, hbk, hb2, hxb⟩
    have HBK := Lib.hid hbk
    have HB2 := Lib.hid hb2
    have HXB := Lib.hid hxb
    have hcp := bytes_copy (HA1.out.ext hb2) HM.out (by omega) x
    have HCP := Lib.hid hcp
    have HFIT : Hid (0 + (DK.pgv b).length ≤ (DK.pgv DK.zero).length) := by have := hb32.out; simp [Hid, DK.pgv, DK.zero]; omega
    clear hbk hb2 hxb hcp
    go_upto_region 10 with (with_reducible refine wpList_copy_at w1.heap.size w1 w2 rfl (.tmp 28) (.tmp 29) 33 rfl 5 Tryd.underlying33 byteSize 5 A m c x b rfl rfl HBK.out HCP.out hb32.out HB2.out HXB.out ?_; intro w3 HG3 hB3)
    have HB3 := Lib.hid hB3
    have HX3 : Hid (POk w3 ⟨x, 32, DK.put b⟩) := POk.of_blk HG3.out (DK.put_len hb32.out)
    have HR3 := Lib.hid (K1.out.ext hB3)
    have d1 : w3.cell? ⟨r.g, 1, none⟩ = some (.slice (some ⟨r.gn, 0, none⟩) n r.cn) := HR3.out.blk.cell 1
    have hcl := World.ownsRow.cellAt HR3.out.rn i (by omega)
    obtain ⟨y, hy⟩ : ∃ y, (r.N.map pv)[i]? = some y := ⟨_, List.getElem?_eq_getElem (by have := HR3.out.rn.1; rw [this]; omega)⟩
    rw [hy] at hcl
    have hfz := World.ownsRow.frozenAt HR3.out.rn i
    have z0 : (0 : Int) ≤ (i : Int) := by omega
    have z1 : (i : Int) < (n : Int) := by omega
    clear hB3 hy c1
    go_upto_region 11 with fail
    have hws1 : (DK.step d).ws = d.ws := by unfold DK.step; split <;> rfl
    have HWS1 := Lib.hid hws1
    obtain ⟨L, hL⟩ : ∃ L, L = (DK.step d).ws.length := ⟨_, rfl⟩
    have hL2 : L ≤ 10000 := by rw [hL, hws1]; exact HWS.out
    have HLL := Lib.hid hL
    have H4 := Lib.hid (HR3.out.setNow hin HX3.out (DK.put_len hb32.out))
    obtain ⟨w4, hw4⟩ : ∃ w4, w4 = w3.setCell ⟨r.gn, i, none⟩ (.slice (some ⟨x, 0, none⟩) 32 32) := ⟨_, rfl⟩
    have HW4 := Lib.hid hw4
    rw [← hw4]
    have H4' : Hid (RAt w4 { r with N := r.N.set i ⟨x, 32, DK.put b⟩ } n { DK.step d with now := (DK.step d).now.set i (DK.put b) }) := by unfold Hid; rw [hw4]; exact H4.out
    have d2 : w4.cell? ⟨r.g, 2, none⟩ = some r.wv := H4'.out.blk.cell 2
    have hrw := H4'.out.rw
    simp only at hrw
    rw [← hL] at hrw
    have HRW := Lib.hid hrw
    have HBL := Lib.hid H4'.out.blk
    have HNG := Lib.hid H4'.out.ggw
    clear hws1 hL hw4 hrw d1 hcl hfz H4
    go_wp2_with (at_builtin; refine wpList_pushS _ rfl (.tmp 42) (.tmp 46) 44 rfl 122 _ 2 32 Tryd.underlying44 infoRW rfl (by decide) r.wv L _ rfl (HRW.out.alloc _) ⟨by omega, by omega⟩ (wC (i, ⟨x, 32, DK.put b⟩)) w4.heap.size rfl rfl (news_cells rfl _ _) (by simp [wC, pv, Value.oneCell']) ?_; intro g5 c5 w5 ho5 hc5 hat5 _; have b5 := (HBL.out.alloc (.cells (wC (i, ⟨x, 32, DK.put b⟩)).toArray 122)).chg hc5 HNG.out; have q3 : w5.cell? ⟨r.g, 2, none⟩ = some r.wv := b5.cell 2; have q4 := b5.frozen 2; have HO5 := Lib.hid ho5; have HC5 := Lib.hid hc5; have HT5 := Lib.hid hat5; clear b5 ho5 hc5 hat5)
    go_ret
    have h1 := HO5.out; have h2 := HC5.out; have h3 := HT5.out
    have hl := HLL.out
    subst hl
    exact rw_yes hin hb32.out HST.out K1.out Q1.out HB3.out HX3.out HW4.out _ ((Below.refl _ _).alloc (Nat.le_refl _) _) h1 h2 h3
def RSync (w : World) (r : RD) (n : Nat) (d : DK.D) (e : Ending) (w' : World) : Prop :=
  ∃ r' : RD, e = .returned (.int .i64 (if DK.stopped d then 8 else 0)) ∧ RAt w' r' n (if DK.stopped d then DK.step d else DK.sync (DK.step d)) ∧ RMoved w r r' w'
end Go.Proofs.YtenjblonepegfaaDoor
