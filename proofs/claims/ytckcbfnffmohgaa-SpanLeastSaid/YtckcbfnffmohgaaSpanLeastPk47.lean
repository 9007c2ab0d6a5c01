/-
  Walk of tour's Link. Condition: the forest lies in memory as 'FoAt' says.
-/
import Derived.Test.YtckcbfnffmohgaaSpanLeastPk45
import Derived.Test.YtckcbfnffmohgaaTof
import Derived.Deep.RegionHeld3
import Derived.Deep.RegionHeldLaw
import Derived.Lib.QuietBelow
namespace Go.Proofs.Ytckcbfnffmohgaa
open Go Go.RowKit SQ TR DF PD
set_option linter.unusedVariables false

theorem step_vput {P : Program} (w : World) {ops : Array Oper} {o : Oper} {a : Act} {K : Act → World → Prop} {Q : Exit → Act → World → Prop} {Z : Prop} (hgd : o.guard = none) (m x v : Operand) (t : TypeId)
    (ho : o.op = Op.mapUpdate t m x v) (vm vx vv : Value) (hm : a.eval m = vm) (hx : a.eval x = vx) (hv : a.eval v = vv) (w' : World) (hr : (Instr.mapUpdate t vm vx vv).run P w = .ok () w') (h : K (a.put o.dst undef) w') :
    if Region.wanted o (yielded ops a.tmps) = true then Oper.wp P o a w K Q else Z := by
  have hw : Region.wanted o (yielded ops a.tmps) = true := by simp [Region.wanted, hgd]
  rw [if_pos hw]
  unfold Oper.wp
  simp [execOp, ho, hm, hx, hv, hr, Result.andThen]
  exact h
theorem step_vdel {P : Program} (w : World) {ops : Array Oper} {o : Oper} {a : Act} {K : Act → World → Prop} {Q : Exit → Act → World → Prop} {Z : Prop} (hgd : o.guard = none) (m x : Operand) (t k : TypeId)
    (ho : o.op = Op.call { callee := Callee.builtin Builtin.delete, args := #[m, x], argTypes := #[t, k] }) (vm vx : Value) (hm : a.eval m = vm) (hx : a.eval x = vx) (w' : World) (hr : ∀ ty, (Builtin.delete_ #[t, k] ty #[vm, vx]).run P w = .ok (.tuple #[]) w') (h : K (a.put o.dst (.tuple #[])) w') :
    if Region.wanted o (yielded ops a.tmps) = true then Oper.wp P o a w K Q else Z := by
  have hw : Region.wanted o (yielded ops a.tmps) = true := by simp [Region.wanted, hgd]
  rw [if_pos hw]
  unfold Oper.wp
  simp [execOp, ho, resolve, invoke, builtin, hm, hx, hr, Result.andThen]
  exact h
section
variable {w : World} {F : FoP} {n N : Nat} {E : List AK.Ed}
set_option maxHeartbeats 1000000 in
theorem tlink_range (h : FoAt w F n N E) (a b : Int) (hr : ¬ (0 ≤ a ∧ a < n) ∨ ¬ (0 ≤ b ∧ b < n)) :
    Calls Try.prog 10 #[.pointer (some ⟨F.fb, 0, none⟩), .int .i64 a, .int .i64 b] w fun e w' => e = .returned (errV 1) ∧ w = w' := by
  by_cases ha : 0 ≤ a ∧ a < n
  · have hb : ¬ (0 ≤ b ∧ b < n) := by omega
    have h1 := Lib.hid (tnode_any h a true (by simp [ha]))
    have h2 := Lib.hid (tnode_any h b false (by simp only [hb, decide_false]))
    clear hr ha hb h
    go_enter Try.func10, Try.ntmps10
    go_wp2_with fail
    refine h1.out.mono ?_
    rintro e w' ⟨rfl, rfl⟩
    go_wp2_with fail
    refine h2.out.mono ?_
    rintro e w' ⟨rfl, rfl⟩
    go_wp2
    go_ret
    exact ⟨rfl, rfl⟩
  · have h1 := Lib.hid (tnode_any h a false (by simp only [ha, decide_false]))
    clear hr ha h
    go_enter Try.func10, Try.ntmps10
    go_wp2_with fail
    refine h1.out.mono ?_
    rintro e w' ⟨rfl, rfl⟩
    go_wp2
    go_ret
    exact ⟨rfl, rfl⟩
theorem root_cell {p : List Int} (h : RootAt w F n p) (hl : p.length = n) {a : Nat} (ha : a < n) : w.cell? ⟨F.rb, a, none⟩ = some (.int .i64 (PD.g p a)) := by
  rw [h.cellAt a (by omega), intsV, List.getElem?_map, List.getElem?_eq_getElem (by omega)]
  simp [PD.g, List.getD_eq_getElem?_getD, List.getElem?_eq_getElem (show a < p.length by omega)]
set_option maxHeartbeats 1000000 in
theorem tlink_clash (h : FoAt w F n N E) (a b : Nat) (ha : a < n) (hb : b < n) (hc : Cn (adj E) a b) :
    Calls Try.prog 10 #[.pointer (some ⟨F.fb, 0, none⟩), .int .i64 a, .int .i64 b] w fun e w' => e = .returned (errV 6) ∧ Ext w w' := by
  have c1 : w.cell? ⟨F.fb, 1, none⟩ = some (.slice (some ⟨F.rb, 0, none⟩) n F.c) := h.blk.cell 1
  obtain ⟨p, s, m, h1, h2, h3, h4⟩ := h.ways
  have e1 := root_cell h2 h1.len ha
  have e2 := root_cell h2 h1.len hb
  have hg : PD.g p a = PD.g p b := h1.same hc
  rw [hg] at e1
  generalize PD.g p b = r at e1 e2
  have N1 := Lib.hid (tnode_any h a true (by simp [ha]))
  have N2 := Lib.hid (tnode_any h b true (by simp [hb]))
  have z1 : (a : Int) < (n : Int) := by omega
  have z2 : (b : Int) < (n : Int) := by omega
  clear hg h h1 h2 h3 h4 hc
  go_enter Try.func10, Try.ntmps10
  go_wp2_with fail
  refine N1.out.mono ?_
  rintro e w' ⟨rfl, rfl⟩
  go_wp2_with fail
  refine N2.out.mono ?_
  rintro e w' ⟨rfl, rfl⟩
  go_wp2
  go_quiet (fail)
  go_wp2
  go_ret
  exact ⟨rfl, Ext.drewN _ _⟩
def LinkPost (w : World) (F : FoP) (n N : Nat) (E : List AK.Ed) (e : Ending) (w' : World) : Prop := e = .returned .nilIface ∧ FoAt w' F n (N + 1) E ∧ Chg F.S w w'
theorem ints_one (w : World) (z : Int) (t : TypeId) : IntsAt (w.alloc (.cells #[.int .i64 z] t)) (some ⟨w.heap.size, 0, none⟩) [z] :=
  .inr ⟨w.heap.size, 0, rfl, by simp, fun i v hv => by
    have hi : i = 0 := by have := (List.getElem?_eq_some_iff.1 hv).1; simp at this; omega
    subst hi
    have : z = v := by simpa using hv
    subst this
    exact (Blk.new w t #[.int .i64 z]).cell 0⟩
/-- Behind the ways' setting and the edge's the forest is that with the edge. -/
theorem FoAt.linked {w5 w6 : World} {a b r : Nat} {q : Option Addr} {x y p p' : List Int} {m m' : Int → Option Value} {s' : Nat} (h : FoAt w F n N E) (hx5 : Ext w w5) (hP : Pts n E p) (hW : WaysAt w n E p m) (ha : a < n) (hb : b < n) (hc : ¬ Cn (adj E) a b)
    (hx : TR.Way (adj E) a x) (hy : TR.Way (adj E) b y) (kx : TR.Go (adj E) a x a) (ky : TR.Go (adj E) b y b) (hq : RowAt w5 q (x ++ (st a b :: y) ++ [st b a]))
    (hr : (r : Int) ∈ mks (x ++ (st a b :: y) ++ [st b a])) (hmin : ∀ z ∈ mks (x ++ (st a b :: y) ++ [st b a]), (r : Int) ≤ z) (hs : SetR n (mks (x ++ (st a b :: y) ++ [st b a])) r q p m p' m')
    (hR : RootAt w6 F n p') (hV : VM kI w6 F.mb (N + 1) s' m') (hc6 : Chg (fun k => k = F.mb ∨ k = F.rb) w5 w6) (hN : N < 1000000) :
    ∀ W, Ext w6 W → ∃ W2, (Instr.mapUpdate 50 (.map (some F.eb)) (edV (AK.ek a b)) (.int .i64 1)).run Try.prog W = .ok () W2 ∧ FoAt W2 F n (N + 1) (putE (AK.ek a b) E) ∧ Chg F.S w W2 ∧ W2.cell? ⟨F.fb, 2, none⟩ = some (.map (some F.eb)) := by
  intro W hW6
  have hab : a ≠ b := fun e => hc (e ▸ .refl _)
  have h60 := h.hn
  have noseq := h.noseq
  have hsq : ∀ k, (k = F.mb ∨ k = F.rb) → ∀ cs, ¬ Blk w5 k 97 cs := fun k hk => (h.ext hx5).noseq k (by rcases hk with e | e; exact .inl e; exact .inr (.inl e))
  have hq6 : RowAt w6 q (x ++ (st a b :: y) ++ [st b a]) := hq.chg hc6 hsq
  have hWays6 : WaysAt w6 n E p m := fun r hr hg => by
    obtain ⟨q, l, a1, a2, a3⟩ := hW r hr hg
    exact ⟨q, l, a1, (a2.ext hx5).chg hc6 hsq, a3⟩
  obtain ⟨P', W'⟩ := link_state h60.2 h.fo hP hWays6 ha hb hc hx hy kx ky hq6 hr hmin hs
  obtain ⟨me, k1, k2⟩ := h.edges
  have hfb := h.fb_ne
  have k6 : VM kE W F.eb N E.length me := (((k1.ext hx5).chg hc6 (by
    obtain ⟨p0, s0, m0, _, b2, b3, _⟩ := h.ways
    rintro (e | e)
    · exact h.ne e.symm
    · exact k1.own_ne b2 (by simp [FoP.rv, Value.ownBlock, e]))).ext hW6)
  have hok : okE (AK.ek a b) := okE_of (by unfold AK.ek; simp only; omega) (by unfold AK.ek; simp only; omega)
  have hnE : AK.ek a b ∉ E := fun w => hc (.edge ((adj_ek (a := a) (b := b) h.fo.lt hab).1 w))
  obtain ⟨W2, hrun, hv2, hc2, hsz⟩ := k6.put Try.underlying50 (by omega) (AK.ek a b) hok (.int .i64 1)
  have hblk : Blk W2 F.fb 52 #[.map (some F.mb), F.rv n, .map (some F.eb)] := (((h.blk.chg (Chg.of_below hx5) (by have := h.blk.lt; omega)).chg hc6 (fun e => hfb (by rcases e with e | e; exact .inl e; exact .inr (.inl e)))).chg (Chg.of_below hW6) (by
    have := h.blk.lt; have := hx5.size; have := hc6.size; omega)).chg hc2 (fun e => hfb (.inr (.inr e)))
  have hRW : RootAt W F n p' := own_chg hR (Chg.of_below hW6) (fun k hk => by have := own_lt hR hk; omega)
  have hVW : VM kI W F.mb (N + 1) s' m' := hV.ext hW6
  have hsqW : ∀ k, k = F.eb → ∀ cs, ¬ Blk W k 97 cs := fun k hk cs hbk => by subst hk; exact k6.blk_ne hbk rfl
  refine ⟨W2, hrun, ⟨hblk, h60, h.fo.put ha hb hc, h.ne, ⟨p', s', m', P', own_chg hRW hc2 (fun k hk e => by
      have : F.rb = k := by simpa [FoP.rv, Value.ownBlock] using hk
      exact k6.own_ne hRW (by simp [FoP.rv, Value.ownBlock, this, e])), hVW.chg hc2 h.ne, fun r hr hg => ?_⟩, ⟨updV me (AK.ek a b) (some (.int .i64 1)), ?_, fun z hz => ?_⟩⟩, ?_, hblk.cell 2⟩
  · obtain ⟨q, l, a1, a2, a3⟩ := W' r hr hg
    exact ⟨q, l, a1, (a2.ext hW6).chg hc2 hsqW, a3⟩
  · have hm : me (AK.ek a b) = none := by rw [k2 _ hok, if_neg hnE]
    rw [putE_length]
    rw [hm] at hv2
    exact hv2
  · by_cases e : z = AK.ek a b
    · subst e
      rw [updV, if_pos rfl, if_pos (putE_mem.2 (.inl rfl))]
    · rw [updV, if_neg e, k2 z hz]
      by_cases q : z ∈ E
      · rw [if_pos q, if_pos (putE_mem.2 (.inr q))]
      · rw [if_neg q, if_neg (fun w => (putE_mem.1 w).elim e q)]
  · exact ((((Chg.new hx5 F.S).trans hc6 (fun i _ hi => by rcases hi with e | e; exact .inl e; exact .inr (.inl e))).trans (Chg.new hW6 F.S) (fun i _ hi => hi)).trans hc2 (fun i _ hi => .inr (.inr hi)))
end
end Go.Proofs.Ytckcbfnffmohgaa
