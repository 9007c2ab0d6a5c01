/-
  Walk of tour's Cut: errors; what holds behind it. Condition: the forest lies in memory as 'FoAt' says.
-/
import Derived.Test.YtgdbnjcnilnnmaaGreatDoorTo4
namespace Go.Proofs.YtgdbnjcnilnnmaaGreatDoor
open Go Go.RowKit SQ TR DF PD
set_option linter.unusedVariables false

theorem GMek (u v : Nat) : AK.ek (u : Int) v = AK.ek v u := by unfold AK.ek; rw [Int.min_comm, Int.max_comm]
theorem cutE_length {x : AK.Ed} : ∀ {E : List AK.Ed}, E.Nodup → x ∈ E → (cutE x E).length + 1 = E.length
  | [], _, h => absurd h List.not_mem_nil
  | y :: E, h, hx => by
    rw [List.nodup_cons] at h
    by_cases e : y = x
    · subst e
      have h0 : cutE y E = E := List.filter_eq_self.2 fun z hz => by simp; exact fun e => h.1 (e ▸ hz)
      have : cutE y (y :: E) = cutE y E := by simp [cutE]
      rw [this, h0]; rfl
    · have hx' : x ∈ E := (List.mem_cons.1 hx).resolve_left (Ne.symm e)
      have := cutE_length h.2 hx'
      have h2 : cutE x (y :: E) = y :: cutE x E := by simp [cutE, e]
      rw [h2, List.length_cons, List.length_cons]; omega
def CutPost (w : World) (F : FoP) (n N : Nat) (E : List AK.Ed) (e : Ending) (w' : World) : Prop := e = .returned .nilIface ∧ FoAt w' F n (N + 2) E ∧ Chg F.S w w'
section
variable {w : World} {F : FoP} {n N : Nat} {E : List AK.Ed}
set_option maxHeartbeats 1000000 in
theorem tcut_range (h : FoAt w F n N E) (a b : Int) (hr : ¬ (0 ≤ a ∧ a < n) ∨ ¬ (0 ≤ b ∧ b < n)) :
    Calls Tryz.prog 17 #[.pointer (some ⟨F.fb, 0, none⟩), .int .i64 a, .int .i64 b] w fun e w' => e = .returned (errV 1) ∧ w = w' := by
  by_cases ha : 0 ≤ a ∧ a < n
  · have hb : ¬ (0 ≤ b ∧ b < n) := by omega
    have h1 := Lib.hid (tnode_any h a true (by simp [ha]))
    have h2 := Lib.hid (tnode_any h b false (by simp only [hb, decide_false]))
    clear hr ha hb h
    go_enter Tryz.func17, Tryz.ntmps17
    go_wp2_with fail
    refine h1.out.mono ?_
    rintro e w' ⟨rfl, rfl⟩
    go_wp2_with fail
    refine h2.out.mono ?_
    rintro e w' ⟨rfl, rfl⟩
    go_wp2
    go_ret
    exact ⟨rfl, rfl⟩
  · have h1 := Lib.hid (tnode_any h a false (by simp only [ha, decide_false]))
    clear hr ha h
    go_enter Tryz.func17, Tryz.ntmps17
    go_wp2_with fail
    refine h1.out.mono ?_
    rintro e w' ⟨rfl, rfl⟩
    go_wp2
    go_ret
    exact ⟨rfl, rfl⟩
set_option maxHeartbeats 1000000 in
theorem tcut_none (h : FoAt w F n N E) (a b : Nat) (ha : a < n) (hb : b < n) (hn : AK.ek a b ∉ E) :
    Calls Tryz.prog 17 #[.pointer (some ⟨F.fb, 0, none⟩), .int .i64 a, .int .i64 b] w fun e w' => e = .returned (errV 4) ∧ Ext w w' := by
  have h60 := h.hn
  have c2 : w.cell? ⟨F.fb, 2, none⟩ = some (.map (some F.eb)) := h.blk.cell 2
  obtain ⟨me, k1, k2⟩ := h.edges
  have hlk : ∀ d os, (Instr.lookup 85 (.map (some F.eb)) (edV (AK.ek (a : Int) b)) false).run Tryz.prog (Sort.grow (redrawn w d) os) = .ok (.int .i64 0) (Sort.grow (redrawn w d) os) := fun d os => by
    have hok : okE (AK.ek a b) := okE_of (by unfold AK.ek; simp only; omega) (by unfold AK.ek; simp only; omega)
    have := (k1.ext (below_regrown w d os)).look Tryz.underlying85 (zeroInt _) (AK.ek a b) hok
    rw [k2 _ hok, if_neg hn] at this
    exact this
  have N1 := Lib.hid (tnode_any h (a : Int) true (by simp; omega))
  have N2 := Lib.hid (tnode_any h (b : Int) true (by simp; omega))
  clear h hn k1 k2
  go_enter Tryz.func17, Tryz.ntmps17
  go_wp2_with fail
  refine N1.out.mono ?_
  rintro e w' ⟨rfl, rfl⟩
  go_wp2_with fail
  refine N2.out.mono ?_
  rintro e w' ⟨rfl, rfl⟩
  go_wp2
  have g2 : ∀ d os, (Sort.grow (redrawn w d) os).cell? ⟨F.fb, 2, none⟩ = some (.map (some F.eb)) := fun d os => cell_regrown c2 d os
  refine wp_region_quiet_below (by kernel_rfl) (by kernel_rfl) ?_
  repeat (go_big_quiet_step ((go_at_call 55; exact Calls.regrown_of (of_any _ (a : Int) (b : Int)))))
  refine wpQuiet_nil ?_
  intro _ hw'
  obtain ⟨⟨dq, osq⟩, hw''⟩ := hw'
  subst hw''
  go_wp2
  go_ret
  exact ⟨rfl, below_regrown w dq osq⟩
/-- What holds of both new ways' marks. -/
theorem cut_facts {u v : Nat} {low mid high : List Int} (h : FoAt w F n N E) (huv : adj E u v) (hway : TR.Way (adj E) u (low ++ st u v :: mid ++ st v u :: high)) :
    0 < (mks mid).length ∧ (∀ z ∈ mks mid, ∃ v : Nat, z = v ∧ v < n) ∧ 0 < (mks (low ++ high)).length ∧ (∀ z ∈ mks (low ++ high), ∃ v : Nat, z = v ∧ v < n) := by
  have h60 := h.hn
  have hf' := h.fo.cut (AK.ek u v)
  obtain ⟨hu, hv, hne⟩ := adj_in h.fo.ok huv
  have he : adj (cutE (AK.ek u v) E) = Mn (adj E) u v := funext fun x => funext fun y => propext (adj_cut h.fo.lt x y)
  obtain ⟨w1, w2⟩ := TR.Way.cut (fun x y e => adj_symm e) (fun x y e => by have := adj_in h.fo.ok e; omega) (by omega) (by omega) huv (h.fo.fs u v huv) hway
  rw [← he] at w1 w2
  obtain ⟨a1, a2, a3⟩ := w1.mks hv hf' h60.2
  obtain ⟨b1, b2, b3⟩ := w2.mks hu hf' h60.2
  refine ⟨List.length_pos_of_mem (a3 v hv (.refl _)), fun z hz => ?_, List.length_pos_of_mem (b3 u hu (.refl _)), fun z hz => ?_⟩
  · obtain ⟨x, x1, x2, _⟩ := a2 z hz; exact ⟨x, x1, x2⟩
  · obtain ⟨x, x1, x2, _⟩ := b2 z hz; exact ⟨x, x1, x2⟩
/-- Behind both ways' setting and the edge's striking the forest is that without the edge. -/
theorem FoAt.cutted {w7 w8 w9 : World} {u v r1 r2 : Nat} {q1 q2 : Option Addr} {low mid high p p1 p2 : List Int} {m m1 m2 : Int → Option Value} {s2 : Nat} (h : FoAt w F n N E) (hx7 : Ext w w7) (hP : Pts n E p) (hW : WaysAt w n E p m) (huv : adj E u v)
    (hway : TR.Way (adj E) u (low ++ st u v :: mid ++ st v u :: high)) (hq1 : RowAt w7 q1 mid) (hq2 : RowAt w8 q2 (low ++ high))
    (hr1 : (r1 : Int) ∈ mks mid) (hmin1 : ∀ z ∈ mks mid, (r1 : Int) ≤ z) (hs1 : SetR n (mks mid) r1 q1 p m p1 m1) (hc8 : Chg (fun k => k = F.mb ∨ k = F.rb) w7 w8)
    (hr2 : (r2 : Int) ∈ mks (low ++ high)) (hmin2 : ∀ z ∈ mks (low ++ high), (r2 : Int) ≤ z) (hs2 : SetR n (mks (low ++ high)) r2 q2 p1 m1 p2 m2)
    {s1 : Nat} (hR8 : RootAt w8 F n p1) (hV8 : VM kI w8 F.mb (N + 1) s1 m1) (hR : RootAt w9 F n p2) (hV : VM kI w9 F.mb (N + 1 + 1) s2 m2) (hc9 : Chg (fun k => k = F.mb ∨ k = F.rb) w8 w9) (a b : Int) (hek : AK.ek a b = AK.ek u v) :
    ∀ W, Ext w9 W → ∃ W2, (∀ ty, (Builtin.delete_ #[85, 93] ty #[.map (some F.eb), edV (AK.ek a b)]).run Tryz.prog W = .ok (.tuple #[]) W2) ∧ FoAt W2 F n (N + 2) (cutE (AK.ek u v) E) ∧ Chg F.S w W2 ∧ W2.cell? ⟨F.fb, 2, none⟩ = some (.map (some F.eb)) := by
  intro W hW9
  have h60 := h.hn
  obtain ⟨hu, hv, hne⟩ := adj_in h.fo.ok huv
  have hsq7 : ∀ k, (k = F.mb ∨ k = F.rb) → ∀ cs, ¬ Blk w7 k 147 cs := fun k hk => (h.ext hx7).noseq k (by rcases hk with e | e; exact .inl e; exact .inr (.inl e))
  have hsz7 : ∀ k, (k = F.mb ∨ k = F.rb) → k < w7.heap.size := fun k hk => (h.ext hx7).lt.2 k (by rcases hk with e | e; exact .inl e; exact .inr (.inl e))
  have hsq8 : ∀ k, (k = F.mb ∨ k = F.rb) → ∀ cs, ¬ Blk w8 k 147 cs := fun k hk cs hb => by
    rcases hk with rfl | rfl
    · exact hV8.blk_ne hb rfl
    · exact own_ne hR8 hb (by decide) rfl
  have row79 : ∀ {q : Option Addr} {l : List Int}, RowAt w7 q l → RowAt w9 q l := fun hq => (hq.chg hc8 hsq7).chg hc9 hsq8
  have hWays9 : WaysAt w9 n E p m := fun r hr hg => by
    obtain ⟨q, l, a1, a2, a3⟩ := hW r hr hg
    exact ⟨q, l, a1, row79 (a2.ext hx7), a3⟩
  obtain ⟨P', W'⟩ := cut_state h60.2 h.fo hP hWays9 huv hway (row79 hq1) (hq2.chg hc9 hsq8) hr1 hmin1 hs1 hr2 hmin2 hs2
  obtain ⟨me, k1, k2⟩ := h.edges
  have hfb := h.fb_ne
  have hebm : F.eb ≠ F.mb := fun e => h.ne e.symm
  obtain ⟨p0, s0, m0, b1, b2, b3, _⟩ := h.ways
  have hebr : F.eb ≠ F.rb := fun e => k1.own_ne b2 (by simp [FoP.rv, Value.ownBlock, e])
  have neb : ¬ (F.eb = F.mb ∨ F.eb = F.rb) := fun e => e.elim hebm hebr
  have kW : VM kE W F.eb N E.length me := ((((k1.ext hx7).chg hc8 neb).chg hc9 neb)).ext hW9
  have hok : okE (AK.ek u v) := okE_of (by unfold AK.ek; simp only; omega) (by unfold AK.ek; simp only; omega)
  have hE : AK.ek u v ∈ E := (adj_ek (a := u) (b := v) h.fo.lt hne).2 huv
  obtain ⟨W2, hrun, ⟨s', hs', hv2⟩, hc2, hsz⟩ := kW.del Tryz.underlying85 (AK.ek u v) hok
  have nfb : ¬ (F.fb = F.mb ∨ F.fb = F.rb) := fun e => hfb (by rcases e with e | e; exact .inl e; exact .inr (.inl e))
  have hb9 : Blk w9 F.fb 87 #[.map (some F.mb), F.rv n, .map (some F.eb)] := ((h.ext hx7).blk.chg hc8 nfb).chg hc9 nfb
  have hblk : Blk W2 F.fb 87 #[.map (some F.mb), F.rv n, .map (some F.eb)] := (hb9.chg (Chg.of_below hW9) (by have := hb9.lt; omega)).chg hc2 (fun e => hfb (.inr (.inr e)))
  have hRW : RootAt W F n p2 := own_chg hR (Chg.of_below hW9) (fun k hk => by have := own_lt hR hk; omega)
  have hVW : VM kI W F.mb (N + 2) s2 m2 := hV.ext hW9
  have hsqW : ∀ k, k = F.eb → ∀ cs, ¬ Blk W k 147 cs := fun k hk cs hbk => by subst hk; exact kW.blk_ne hbk rfl
  refine ⟨W2, by rw [hek]; exact hrun, ⟨hblk, h60, h.fo.cut _, h.ne, ⟨p2, s2, m2, P', own_chg hRW hc2 (fun k hk e => by
      have : F.rb = k := by simpa [FoP.rv, Value.ownBlock] using hk
      exact hebr (by rw [this, e])), hVW.chg hc2 h.ne, fun r hr hg => ?_⟩, ⟨updV me (AK.ek u v) none, ?_, fun z hz => ?_⟩⟩, ?_, hblk.cell 2⟩
  · obtain ⟨q, l, a1, a2, a3⟩ := W' r hr hg
    exact ⟨q, l, a1, (a2.ext hW9).chg hc2 hsqW, a3⟩
  · have hm : me (AK.ek u v) = some (.int .i64 1) := by rw [k2 _ hok, if_pos hE]
    rw [hm] at hs'
    have hl := cutE_length (rises_nodup h.fo.up) hE
    have : (cutE (AK.ek u v) E).length = s' := by simp at hs'; omega
    rw [this]
    exact hv2.mono (by omega)
  · by_cases e : z = AK.ek u v
    · subst e
      rw [updV, if_pos rfl, if_neg (fun w => (cutE_mem.1 w).2 rfl)]
    · rw [updV, if_neg e, k2 z hz]
      by_cases q : z ∈ E
      · rw [if_pos q, if_pos (cutE_mem.2 ⟨q, e⟩)]
      · rw [if_neg q, if_neg (fun w => q (cutE_mem.1 w).1)]
  · exact ((((Chg.new hx7 F.S).trans hc8 (fun i _ hi => by rcases hi with e | e; exact .inl e; exact .inr (.inl e))).trans hc9 (fun i _ hi => by rcases hi with e | e; exact .inl e; exact .inr (.inl e))).trans (Chg.new hW9 F.S) (fun i _ hi => hi)).trans hc2 (fun i _ hi => .inr (.inr hi))
end
end Go.Proofs.YtgdbnjcnilnnmaaGreatDoor
