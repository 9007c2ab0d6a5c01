/-
  Graphs as they lie in memory: edges with levels, a forest for each level. No conditions.
  Walks of graph's those, Edges and Tree. Condition: the graph lies in memory as 'GrM' says.
-/
import Derived.Test.YtlcnoihmhaaekaaBs28
import Derived.Test.YtlcnoihmhaaekaaBs29
namespace Go.Proofs.Ytlcnoihmhaaekaa
open Go Go.RowKit SQ TR DF PD
set_option linter.unusedVariables false

/-- Where a graph lies. -/
structure GrP where
  gb : Nat
  eb : Nat
  ob : Nat
  c : Nat
  Fs : List FoP
def ptrF (Fs : List FoP) : List Value := Fs.map fun F => .pointer (some ⟨F.fb, 0, none⟩)
def stV (s : GM.St) : Value := .agg #[.int .i64 s.lv, .bool s.tr]
def GrP.fv (G : GrP) : Value := .slice (some ⟨G.ob, 0, none⟩) G.Fs.length G.c
/-- The blocks that may turn. -/
def GrP.S (G : GrP) (k : Nat) : Prop := k = G.gb ∨ k = G.eb ∨ k = G.ob ∨ ∃ (i : Nat) (F : FoP), G.Fs[i]? = some F ∧ F.S k
/-- A graph lies in memory: Es i is what the forest of level i holds. -/
structure GrM (w : World) (G : GrP) (n N : Nat) (A : List AK.Ed) (f : AK.Ed → GM.St) (Es : Nat → List AK.Ed) : Prop where
  blk : Blk w G.gb 85 #[.int .i64 n, .map (some G.eb), G.fv]
  hn : 1 ≤ n ∧ n ≤ 60
  row : w.ownsRow 0 23 1 G.fv G.Fs.length (ptrF G.Fs)
  pos : 0 < G.Fs.length
  fo : ∀ (i : Nat) (F : FoP), G.Fs[i]? = some F → FoAt w F n N (Es i)
  edges : ∃ me, VM kE w G.eb N A.length me ∧ ∀ x, okE x → me x = if x ∈ A then some (stV (f x)) else none
  ap : ∀ (i j : Nat) (F H : FoP), G.Fs[i]? = some F → G.Fs[j]? = some H → i ≠ j → ∀ k, F.S k → ¬ H.S k ∧ k ≠ H.fb
  ap2 : ∀ (i : Nat) (F : FoP), G.Fs[i]? = some F → ∀ k, F.S k → k ≠ G.gb ∧ k ≠ G.eb ∧ k ≠ G.ob
section
variable {w w' : World} {G : GrP} {n N N' : Nat} {A : List AK.Ed} {f : AK.Ed → GM.St} {Es : Nat → List AK.Ed} {S : Nat → Prop}
theorem GrM.lt (h : GrM w G n N A f Es) : ∀ k, G.S k → k < w.heap.size := by
  obtain ⟨me, m1, m2⟩ := h.edges
  rintro k (rfl | rfl | rfl | ⟨i, F, hi, hk⟩)
  · exact h.blk.lt
  · exact m1.lt
  · exact own_lt h.row (by simp [GrP.fv, Value.ownBlock])
  · exact (h.fo i F hi).lt.2 k hk
theorem GrM.chg (h : GrM w G n N A f Es) (hc : Chg S w w') (hS : ∀ k, G.S k → ¬ S k) (hf : ∀ (i : Nat) (F : FoP), G.Fs[i]? = some F → ¬ S F.fb) (hq : ∀ k, S k → ∀ cs, ¬ Blk w k 113 cs) : GrM w' G n N A f Es := by
  obtain ⟨me, m1, m2⟩ := h.edges
  refine ⟨h.blk.chg hc (hS _ (.inl rfl)), h.hn, own_chg h.row hc (fun k hk => hS k (by simp [GrP.fv, Value.ownBlock] at hk; exact .inr (.inr (.inl hk.symm)))), h.pos, fun i F hi => (h.fo i F hi).chg hc (hf i F hi) (fun k hk => hS k (.inr (.inr (.inr ⟨i, F, hi, hk⟩)))) hq, ⟨me, m1.chg hc (hS _ (.inr (.inl rfl))), m2⟩, h.ap, h.ap2⟩
theorem GrM.ext (h : GrM w G n N A f Es) (hx : Ext w w') : GrM w' G n N A f Es :=
  h.chg (Chg.of_below hx) (fun k hk => by have := h.lt k hk; omega) (fun i F hi => by have := (h.fo i F hi).lt.1; omega) (fun k hk cs hb => by have := hb.lt; omega)
theorem GrM.mono (h : GrM w G n N A f Es) (hN : N ≤ N') : GrM w G n N' A f Es := by
  obtain ⟨me, m1, m2⟩ := h.edges
  exact ⟨h.blk, h.hn, h.row, h.pos, fun i F hi => (h.fo i F hi).mono hN, ⟨me, m1.mono hN, m2⟩, h.ap, h.ap2⟩
theorem GrM.congr (h : GrM w G n N A f Es) {Es' : Nat → List AK.Ed} (he : ∀ i, i < G.Fs.length → Es' i = Es i) : GrM w G n N A f Es' :=
  ⟨h.blk, h.hn, h.row, h.pos, fun i F hi => by rw [he i (List.getElem?_eq_some_iff.1 hi).1]; exact h.fo i F hi, h.edges, h.ap, h.ap2⟩
/-- The forest of a level is turned. -/
theorem GrM.turn (h : GrM w G n N A f Es) {i : Nat} {F : FoP} {E' : List AK.Ed} (hi : G.Fs[i]? = some F) (h' : FoAt w' F n N' E') (hN : N ≤ N') (hc : Chg F.S w w') : GrM w' G n N' A f (fun j => if j = i then E' else Es j) := by
  obtain ⟨me, m1, m2⟩ := h.edges
  have a2 := h.ap2 i F hi
  refine ⟨h.blk.chg hc (fun e => (a2 _ e).1 rfl), h.hn, own_chg h.row hc (fun k hk e => (a2 k e).2.2 (by simp [GrP.fv, Value.ownBlock] at hk; exact hk.symm)), h.pos, fun j H hj => ?_, ⟨me, (m1.chg hc (fun e => (a2 _ e).2.1 rfl)).mono hN, m2⟩, h.ap, h.ap2⟩
  by_cases e : j = i
  · subst e
    rw [hi] at hj
    obtain rfl := Option.some.inj hj
    rw [if_pos rfl]; exact h'
  · rw [if_neg e]
    refine ((h.fo j H hj).chg hc (fun hk => ((h.ap i j F H hi hj (fun q => e q.symm) _ hk).2 rfl)) (fun k hk hk2 => (h.ap i j F H hi hj (fun q => e q.symm) k hk2).1 hk) (h.fo i F hi).noseq).mono hN
/-- An edge's state is written. -/
theorem GrM.write (h : GrM w G n N A f Es) (hN : N < 1000000) (x : AK.Ed) (hx : okE x) (s : GM.St) : ∃ w', (Instr.mapUpdate 82 (.map (some G.eb)) (edV x) (stV s)).run Try.prog w = .ok () w' ∧
    GrM w' G n (N + 1) (if x ∈ A then A else putE x A) (GM.updS f x s) Es ∧ Chg (fun k => k = G.eb) w w' ∧ w'.heap.size = w.heap.size := by
  obtain ⟨me, m1, m2⟩ := h.edges
  obtain ⟨w2, hr, hv, hc, hs⟩ := m1.put Try.underlying82 hN x hx (stV s)
  have nF : ∀ (i : Nat) (F : FoP), G.Fs[i]? = some F → ¬ F.S G.eb := fun i F hi hk => (h.ap2 i F hi _ hk).2.1 rfl
  have nfb : ∀ (i : Nat) (F : FoP), G.Fs[i]? = some F → F.fb ≠ G.eb := fun i F hi => m1.blk_ne (h.fo i F hi).blk
  refine ⟨w2, hr, ⟨h.blk.chg hc (m1.blk_ne h.blk), h.hn, own_chg h.row hc (fun k hk e => m1.own_ne h.row (by rw [hk, e])), h.pos, fun i F hi => ((h.fo i F hi).chg hc (nfb i F hi) (fun k hk e => nF i F hi (e ▸ hk)) (fun k hk cs hb => by subst hk; exact m1.blk_ne hb rfl)).mono (by omega), ⟨updV me x (some (stV s)), ?_, fun y hy => ?_⟩, h.ap, h.ap2⟩, hc, hs⟩
  · rw [m2 x hx] at hv
    by_cases q : x ∈ A
    · rw [if_pos q] at hv ⊢; exact hv
    · rw [if_neg q] at hv ⊢; rw [putE_length]; exact hv
  · unfold updV GM.updS
    by_cases e : y = x
    · subst e
      rw [if_pos rfl, if_pos rfl, if_pos]
      split
      · assumption
      · exact putE_mem.2 (.inl rfl)
    · rw [if_neg e, m2 y hy, if_neg e]
      by_cases q : y ∈ A
      · rw [if_pos q, if_pos]
        split
        · exact q
        · exact putE_mem.2 (.inr q)
      · rw [if_neg q, if_neg]
        split
        · exact q
        · exact fun w => (putE_mem.1 w).elim e q
/-- An edge is struck. -/
theorem GrM.strike (h : GrM w G n N A f Es) (hA : A.Nodup) (x : AK.Ed) (hx : okE x) (hm : x ∈ A) : ∃ w', (∀ ty, (Builtin.delete_ #[82, 38] ty #[.map (some G.eb), edV x]).run Try.prog w = .ok (.tuple #[]) w') ∧
    GrM w' G n N (cutE x A) f Es ∧ Chg (fun k => k = G.eb) w w' ∧ w'.heap.size = w.heap.size := by
  obtain ⟨me, m1, m2⟩ := h.edges
  obtain ⟨w2, hr, ⟨s', hs', hv⟩, hc, hs⟩ := m1.del Try.underlying82 x hx
  have nF : ∀ (i : Nat) (F : FoP), G.Fs[i]? = some F → ¬ F.S G.eb := fun i F hi hk => (h.ap2 i F hi _ hk).2.1 rfl
  have nfb : ∀ (i : Nat) (F : FoP), G.Fs[i]? = some F → F.fb ≠ G.eb := fun i F hi => m1.blk_ne (h.fo i F hi).blk
  refine ⟨w2, hr, ⟨h.blk.chg hc (m1.blk_ne h.blk), h.hn, own_chg h.row hc (fun k hk e => m1.own_ne h.row (by rw [hk, e])), h.pos, fun i F hi => (h.fo i F hi).chg hc (nfb i F hi) (fun k hk e => nF i F hi (e ▸ hk)) (fun k hk cs hb => by subst hk; exact m1.blk_ne hb rfl), ⟨updV me x none, ?_, fun y hy => ?_⟩, h.ap, h.ap2⟩, hc, hs⟩
  · rw [m2 x hx, if_pos hm] at hs'
    have := cutE_length hA hm
    have e : (cutE x A).length = s' := by simp at hs'; omega
    rw [e]; exact hv
  · unfold updV
    by_cases e : y = x
    · subst e
      rw [if_pos rfl, if_neg (fun w => (cutE_mem.1 w).2 rfl)]
    · rw [if_neg e, m2 y hy]
      by_cases q : y ∈ A
      · rw [if_pos q, if_pos (cutE_mem.2 ⟨q, e⟩)]
      · rw [if_neg q, if_neg (fun w => q (cutE_mem.1 w).1)]
end
end Go.Proofs.Ytlcnoihmhaaekaa
namespace Go.Proofs.Ytlcnoihmhaaekaa
open Go Go.RowKit SQ TR DF PD
set_option linter.unusedVariables false

structure EgP (w : World) (b r N s : Nat) (m : AK.Ed → Option Value) (p : AK.Ed → Bool) (d : List AK.Ed) (v : Value) (wr : World) : Prop where
  vr : VR kE wr b r N s m d
  row : DRow wr v (d.filter p)
  bel : Below w.heap.size w wr
  new : ∀ j, v.ownBlock = some j → w.heap.size ≤ j
theorem EgP.skip {w wr w3 : World} {b r N s : Nat} {m : AK.Ed → Option Value} {p : AK.Ed → Bool} {d : List AK.Ed} {v : Value} {x : AK.Ed} (h : EgP w b r N s m p d v wr) {w2 : World} (hvr : VR kE w2 b r N s m (d ++ [x])) (hc : Chg (fun j => j = r) wr w2) (hx : Ext w2 w3) (hp : p x = false) (hr : w.heap.size ≤ r) :
    EgP w b r N s m p (d ++ [x]) v w3 ∧ w3.rangeLeft b r = w2.rangeLeft b r := by
  have hne := h.vr.own_ne h.row
  refine ⟨⟨hvr.kept (Chg.of_below hx) (by have := hvr.vm.lt; omega) (by have := hvr.lt; omega), ?_, ?_, h.new⟩, ?_⟩
  · rw [List.filter_append, show [x].filter p = [] by simp [hp], List.append_nil]
    exact own_chg (own_chg h.row hc (fun j hj e => hne (by rw [hj, e]))) (Chg.of_below hx) (fun j hj => by have := own_lt h.row hj; have := hc.size; omega)
  · have b2 : Below w.heap.size w w2 := ((Chg.of_below h.bel).trans hc (fun i hi e => by omega)).below (Nat.le_refl _) (fun _ _ h => h)
    exact b2.trans (Below.mono hx b2.size)
  · have hl1 := hvr.vm.lt
    have hl2 := hvr.lt
    unfold World.rangeLeft
    rw [hx.block _ hl1, hx.block _ hl2]
theorem EgP.push {w wr w2 W w5 : World} {b r N s g c' : Nat} {m : AK.Ed → Option Value} {p : AK.Ed → Bool} {d : List AK.Ed} {v : Value} {x : AK.Ed} (h : EgP w b r N s m p d v wr) (hvr : VR kE w2 b r N s m (d ++ [x])) (hc : Chg (fun j => j = r) wr w2) (hW : Ext w2 W) (hp : p x = true) (hr : w.heap.size ≤ r)
    (ho : w5.ownsRow 0 38 2 (.slice (some ⟨g, 0, none⟩) ((d.filter p).length + 1) c') ((d.filter p).length + 1) (rowsOf edC (d.filter p) ++ edC x)) (hc5 : Chg (fun j => v.ownBlock = some j) W w5) (hat : v.ownBlock = some g ∨ g = W.heap.size) :
    EgP w b r N s m p (d ++ [x]) (.slice (some ⟨g, 0, none⟩) ((d ++ [x]).filter p).length c') w5 ∧ w5.rangeLeft b r = w2.rangeLeft b r := by
  have hne := h.vr.own_ne h.row
  have nb := h.vr.vm.own_ne h.row
  have hvrW : VR kE W b r N s m (d ++ [x]) := hvr.kept (Chg.of_below hW) (by have := hvr.vm.lt; omega) (by have := hvr.lt; omega)
  have ef : (d ++ [x]).filter p = d.filter p ++ [x] := by rw [List.filter_append]; congr 1; simp [hp]
  refine ⟨⟨hvrW.kept hc5 nb hne, ?_, ?_, ?_⟩, ?_⟩
  · rw [ef]
    unfold DRow
    rw [List.length_append, rowsOf_app, rowsOf_one]
    exact ho
  · have b2 : Below w.heap.size w w2 := ((Chg.of_below h.bel).trans hc (fun i hi e => by omega)).below (Nat.le_refl _) (fun _ _ h => h)
    have bW : Below w.heap.size w W := b2.trans (Below.mono hW b2.size)
    exact ((Chg.of_below bW).trans hc5 (fun i hi hs => h.new i hs)).below (Nat.le_refl _) (fun _ _ h => h)
  · intro j hj
    have : g = j := by simpa [Value.ownBlock] using hj
    subst this
    rcases hat with hat | hat
    · exact h.new _ hat
    · have := h.bel.size; have := hc.size; have := hW.size; omega
  · have hl1 := hvr.vm.lt
    have hl2 := hvr.lt
    unfold World.rangeLeft
    rw [hc5.block _ (Nat.lt_of_lt_of_le hl1 hW.size) nb, hc5.block _ (Nat.lt_of_lt_of_le hl2 hW.size) hne, hW.block _ hl1, hW.block _ hl2]
section
variable {w : World} {G : GrP} {n N : Nat} {A : List AK.Ed} {f : AK.Ed → GM.St} {Es : Nat → List AK.Ed}
theorem keepE_any (W : World) (s : GM.St) : Calls Try.prog 46 #[.agg #[.int .i64 s.lv, .bool s.tr]] W fun e w' => e = .returned (.bool true) ∧ Ext W w' := by
  go_enter Try.func46, Try.ntmps46
  go_wp2
  go_ret
  exact ⟨rfl, Ext.alloc _ _⟩
theorem keepT_any (W : World) (s : GM.St) : Calls Try.prog 47 #[.agg #[.int .i64 s.lv, .bool s.tr]] W fun e w' => e = .returned (.bool s.tr) ∧ Ext W w' := by
  go_enter Try.func47, Try.ntmps47
  go_wp2
  go_ret
  exact ⟨rfl, Ext.alloc _ _⟩
set_option maxRecDepth 100000 in
set_option maxHeartbeats 2000000 in
theorem thoseE_any (h : GrM w G n N A f Es) (hok : ∀ x ∈ A, 0 ≤ x.1 ∧ x.1 < x.2 ∧ x.2 < (n : Int)) (hup : A.Pairwise ltE) (hl : A.length ≤ 200) :
    Calls Try.prog 45 #[.pointer (some ⟨G.gb, 0, none⟩), .func (.func 46) #[] #[]] w (EdgesPost w (A.filter fun x => true)) := by
  obtain ⟨p, hpe⟩ : ∃ p : AK.Ed → Bool, p = fun x => true := ⟨_, rfl⟩
  rw [← hpe]
  have c1 : w.cell? ⟨G.gb, 1, none⟩ = some (.map (some G.eb)) := h.blk.cell 1
  have h60 := h.hn
  obtain ⟨me, k1, k2⟩ := h.edges
  have HM := Lib.hid k2
  have HOK := Lib.hid hok
  have HUP := Lib.hid hup
  obtain ⟨w1, hrg, hvr, hb1, hs1⟩ := k1.range Try.underlying82
  have hrg : (Instr.range 82 (.map (some G.eb))).run Try.prog w = .ok (.pointer (some ⟨w.heap.size, 0, none⟩)) w1 := hrg
  have HV := Lib.hid hvr
  have HB := Lib.hid hb1
  have HPE := Lib.hid hpe
  clear h k1 k2 hvr hb1 hok hup hpe
  go_enter Try.func45, Try.ntmps45
  go_wp2
  go_loopw [5] (fun v wr => ∃ (d : List AK.Ed) (B : Option Addr) (c : Nat), v = .slice B (d.filter p).length c ∧ Hid (EgP w G.eb w.heap.size N A.length me p d (.slice B (d.filter p).length c) wr)) (fun _ wr => wr.rangeLeft G.eb w.heap.size)
  case atStart => exact ⟨[], none, 0, rfl, HV.out, World.ownsRow_nil _ _ _ _, HB.out, fun j hj => by simp [Value.ownBlock] at hj⟩
  case round =>
    obtain ⟨d, B, c, rfl, HR⟩ := hrel
    have hdA : ∀ x ∈ d, x ∈ A := fun x hx => by
      have hok := HR.out.vr.okd x hx
      obtain ⟨D, left, cnt, g1, g2, g3, g4⟩ := HR.out.vr.rg
      have := ((g4 x hok).2.1 hx).1
      rw [HM.out x hok] at this
      by_cases q : x ∈ A
      · exact q
      · rw [if_neg q] at this; simp at this
    have hdl : (d.filter p).length ≤ 200 := by
      have h1 := nodup_le HR.out.vr.nd hdA
      have h2 := List.length_filter_le p d
      omega
    have HDA := Lib.hid hdA
    clear hdA
    rcases HR.out.vr.next 0 with ⟨hnx, hall⟩ | ⟨x, v, w2, hox, hxd, hmx, hnx0, hvr2, hlt, hc2, hsz2, hen0⟩
    · have HALL := Lib.hid hall
      have hE : Hid (sortedE (d.filter p) = A.filter p) := by
        refine sorted_is (n := n) h60.2 (fun x hx => HOK.out x (List.mem_filter.1 hx).1) (HUP.out.filter _) (HR.out.vr.nd.filter _) fun x => ?_
        rw [List.mem_filter, List.mem_filter]
        constructor
        · exact fun hx => ⟨HDA.out x hx.1, hx.2⟩
        · intro hx
          have h3 := HOK.out x hx.1
          have hok : kE.ok x := okE_of (by omega) (by omega)
          refine ⟨(HALL.out x hok).2 ?_, hx.2⟩
          rw [HM.out x hok, if_pos hx.1]; rfl
      have hdl2 : (d.filter p).length = (A.filter p).length := by rw [← hE.out, sortedE_length]
      have hf : ∀ x ∈ d.filter p, 0 ≤ x.1 ∧ x.1 < 60 ∧ 0 ≤ x.2 ∧ x.2 < 60 := fun x hx => by
        have := HOK.out x (HDA.out x (List.mem_filter.1 hx).1); omega
      have RS := Lib.hid (rising_any wr _ B c (d.filter p) rfl hf (by omega) HR.out.row)
      have HDL := Lib.hid hdl2
      clear hall hf hdl2
      go_wp2_with fail
      refine RS.out.mono ?_
      rintro e w3 ⟨rfl, h1, h3⟩
      have H1 := Lib.hid h1
      have H3 := Lib.hid h3
      clear h1 h3
      go_wp2
      go_ret
      have q1 := H1.out
      have hdl := HDL.out
      rw [hE.out] at q1
      rw [hdl] at q1 ⊢
      refine ⟨B, c, rfl, q1, ((Chg.of_below HR.out.bel).trans H3.out (fun i hi hs => HR.out.new i hs)).below (Nat.le_refl _) (fun _ _ h => h), fun j hj => HR.out.new j (by rw [hdl]; exact hj)⟩
    · have hxA : x ∈ A := by
        rw [HM.out x hox] at hmx
        by_cases q : x ∈ A
        · exact q
        · rw [if_neg q] at hmx; cases hmx
      obtain ⟨x1, x2⟩ := x
      obtain ⟨s, hs⟩ : ∃ s, f (x1, x2) = s := ⟨_, rfl⟩
      have hv1 : v = .agg #[.int .i64 s.lv, .bool s.tr] := by
        rw [HM.out _ hox, if_pos hxA, hs] at hmx; exact (Option.some.inj hmx).symm
      subst hv1
      have hnx : (Instr.next (.pointer (some ⟨w.heap.size, 0, none⟩)) false 0).run Try.prog wr = .ok (.tuple #[.bool true, .agg #[.int .i64 x1, .int .i64 x2], .agg #[.int .i64 s.lv, .bool s.tr]]) w2 := hnx0
      have hen : (Instr.entry (.pointer (some ⟨w.heap.size, 0, none⟩))).run Try.prog w2 = .ok (.tuple #[.agg #[.int .i64 x1, .int .i64 x2], .agg #[.int .i64 s.lv, .bool s.tr]]) w2 := hen0
      have hpx : p (x1, x2) = true := by have hq := congrFun HPE.out (x1, x2); simpa [hs] using hq
      have HV2 := Lib.hid hvr2
      have HLT := Lib.hid hlt
      have HC2 := Lib.hid hc2
      clear hnx0 hen0 hvr2 hlt hc2 hmx hxd hox hxA
      go_wp2_with fail
      refine (keepE_any _ s).mono ?_
      rintro e w3 ⟨rfl, hx3⟩
      have X3 : Hid (Ext w2 w3) := (((Below.refl _ _).alloc (Nat.le_refl _) _).alloc (by simp) _ : Below w2.heap.size w2 _).trans (Below.mono hx3 (by simp; omega))
      have y0 : w3.cell? ⟨wr.heap.size, 0, none⟩ = some (.int .i64 x1) := by
        have h1 := ((Blk.new w2 38 #[.int .i64 x1, .int .i64 x2]).alloc (.cells #[.int .i64 s.lv, .bool s.tr] 87)).chg (Chg.of_below hx3) (fun hh => by simp at hh <;> omega)
        rw [hsz2] at h1
        exact h1.cell 0
      have y1 : w3.cell? ⟨wr.heap.size, 1, none⟩ = some (.int .i64 x2) := by
        have h1 := ((Blk.new w2 38 #[.int .i64 x1, .int .i64 x2]).alloc (.cells #[.int .i64 s.lv, .bool s.tr] 87)).chg (Chg.of_below hx3) (fun hh => by simp at hh <;> omega)
        rw [hsz2] at h1
        exact h1.cell 1
      have HROW : Hid (DRow w3 (.slice B (d.filter p).length c) (d.filter p)) := by
        have hne := HR.out.vr.own_ne HR.out.row
        exact own_chg (own_chg HR.out.row HC2.out (fun j hj e => hne (by rw [hj, e]))) (Chg.of_below X3.out) (fun j hj => by have := own_lt HR.out.row hj; omega)
      clear hx3
      go_wp2_with (at_builtin; refine wpList_pushS _ rfl (.tmp 21) (.tmp 23) 35 rfl 38 _ 2 16 Try.underlying35 infoEdge rfl (by decide) (.slice B (d.filter p).length c) (d.filter p).length (rowsOf edC (d.filter p)) rfl (own_chg HROW.out ((Chg.refl (fun _ => False) _).alloc _) (fun _ _ h => h)) ⟨by omega, by omega⟩ [.int .i64 x1, .int .i64 x2] w3.heap.size rfl rfl (news_cells rfl _ _) (by simp [Value.oneCell']) ?_; intro g5 c5 w5 ho5 hc5 hat5 _; have HA := Lib.hid (HR.out.push HV2.out HC2.out (X3.out.trans (Ext.alloc _ _)) hpx (Nat.le_refl _) ho5 hc5 hat5); clear ho5 hc5 hat5)
      go_roundw
      case rel => exact ⟨d ++ [(x1, x2)], some ⟨g5, 0, none⟩, c5, by rw [List.filter_append]; simp [hpx], HA.out.1⟩
      case measure => have := HA.out.2; have := HLT.out; omega

set_option maxRecDepth 100000 in
set_option maxHeartbeats 2000000 in
theorem thoseT_any (h : GrM w G n N A f Es) (hok : ∀ x ∈ A, 0 ≤ x.1 ∧ x.1 < x.2 ∧ x.2 < (n : Int)) (hup : A.Pairwise ltE) (hl : A.length ≤ 200) :
    Calls Try.prog 45 #[.pointer (some ⟨G.gb, 0, none⟩), .func (.func 47) #[] #[]] w (EdgesPost w (A.filter fun x => (f x).tr)) := by
  obtain ⟨p, hpe⟩ : ∃ p : AK.Ed → Bool, p = fun x => (f x).tr := ⟨_, rfl⟩
  rw [← hpe]
  have c1 : w.cell? ⟨G.gb, 1, none⟩ = some (.map (some G.eb)) := h.blk.cell 1
  have h60 := h.hn
  obtain ⟨me, k1, k2⟩ := h.edges
  have HM := Lib.hid k2
  have HOK := Lib.hid hok
  have HUP := Lib.hid hup
  obtain ⟨w1, hrg, hvr, hb1, hs1⟩ := k1.range Try.underlying82
  have hrg : (Instr.range 82 (.map (some G.eb))).run Try.prog w = .ok (.pointer (some ⟨w.heap.size, 0, none⟩)) w1 := hrg
  have HV := Lib.hid hvr
  have HB := Lib.hid hb1
  have HPE := Lib.hid hpe
  clear h k1 k2 hvr hb1 hok hup hpe
  go_enter Try.func45, Try.ntmps45
  go_wp2
  go_loopw [5] (fun v wr => ∃ (d : List AK.Ed) (B : Option Addr) (c : Nat), v = .slice B (d.filter p).length c ∧ Hid (EgP w G.eb w.heap.size N A.length me p d (.slice B (d.filter p).length c) wr)) (fun _ wr => wr.rangeLeft G.eb w.heap.size)
  case atStart => exact ⟨[], none, 0, rfl, HV.out, World.ownsRow_nil _ _ _ _, HB.out, fun j hj => by simp [Value.ownBlock] at hj⟩
  case round =>
    obtain ⟨d, B, c, rfl, HR⟩ := hrel
    have hdA : ∀ x ∈ d, x ∈ A := fun x hx => by
      have hok := HR.out.vr.okd x hx
      obtain ⟨D, left, cnt, g1, g2, g3, g4⟩ := HR.out.vr.rg
      have := ((g4 x hok).2.1 hx).1
      rw [HM.out x hok] at this
      by_cases q : x ∈ A
      · exact q
      · rw [if_neg q] at this; simp at this
    have hdl : (d.filter p).length ≤ 200 := by
      have h1 := nodup_le HR.out.vr.nd hdA
      have h2 := List.length_filter_le p d
      omega
    have HDA := Lib.hid hdA
    clear hdA
    rcases HR.out.vr.next 0 with ⟨hnx, hall⟩ | ⟨x, v, w2, hox, hxd, hmx, hnx0, hvr2, hlt, hc2, hsz2, hen0⟩
    · have HALL := Lib.hid hall
      have hE : Hid (sortedE (d.filter p) = A.filter p) := by
        refine sorted_is (n := n) h60.2 (fun x hx => HOK.out x (List.mem_filter.1 hx).1) (HUP.out.filter _) (HR.out.vr.nd.filter _) fun x => ?_
        rw [List.mem_filter, List.mem_filter]
        constructor
        · exact fun hx => ⟨HDA.out x hx.1, hx.2⟩
        · intro hx
          have h3 := HOK.out x hx.1
          have hok : kE.ok x := okE_of (by omega) (by omega)
          refine ⟨(HALL.out x hok).2 ?_, hx.2⟩
          rw [HM.out x hok, if_pos hx.1]; rfl
      have hdl2 : (d.filter p).length = (A.filter p).length := by rw [← hE.out, sortedE_length]
      have hf : ∀ x ∈ d.filter p, 0 ≤ x.1 ∧ x.1 < 60 ∧ 0 ≤ x.2 ∧ x.2 < 60 := fun x hx => by
        have := HOK.out x (HDA.out x (List.mem_filter.1 hx).1); omega
      have RS := Lib.hid (rising_any wr _ B c (d.filter p) rfl hf (by omega) HR.out.row)
      have HDL := Lib.hid hdl2
      clear hall hf hdl2
      go_wp2_with fail
      refine RS.out.mono ?_
      rintro e w3 ⟨rfl, h1, h3⟩
      have H1 := Lib.hid h1
      have H3 := Lib.hid h3
      clear h1 h3
      go_wp2
      go_ret
      have q1 := H1.out
      have hdl := HDL.out
      rw [hE.out] at q1
      rw [hdl] at q1 ⊢
      refine ⟨B, c, rfl, q1, ((Chg.of_below HR.out.bel).trans H3.out (fun i hi hs => HR.out.new i hs)).below (Nat.le_refl _) (fun _ _ h => h), fun j hj => HR.out.new j (by rw [hdl]; exact hj)⟩
    · have hxA : x ∈ A := by
        rw [HM.out x hox] at hmx
        by_cases q : x ∈ A
        · exact q
        · rw [if_neg q] at hmx; cases hmx
      obtain ⟨x1, x2⟩ := x
      obtain ⟨s, hs⟩ : ∃ s, f (x1, x2) = s := ⟨_, rfl⟩
      have hv1 : v = .agg #[.int .i64 s.lv, .bool s.tr] := by
        rw [HM.out _ hox, if_pos hxA, hs] at hmx; exact (Option.some.inj hmx).symm
      subst hv1
      have hnx : (Instr.next (.pointer (some ⟨w.heap.size, 0, none⟩)) false 0).run Try.prog wr = .ok (.tuple #[.bool true, .agg #[.int .i64 x1, .int .i64 x2], .agg #[.int .i64 s.lv, .bool s.tr]]) w2 := hnx0
      have hen : (Instr.entry (.pointer (some ⟨w.heap.size, 0, none⟩))).run Try.prog w2 = .ok (.tuple #[.agg #[.int .i64 x1, .int .i64 x2], .agg #[.int .i64 s.lv, .bool s.tr]]) w2 := hen0
      have hpx : p (x1, x2) = s.tr := by have hq := congrFun HPE.out (x1, x2); simpa [hs] using hq
      have HV2 := Lib.hid hvr2
      have HLT := Lib.hid hlt
      have HC2 := Lib.hid hc2
      clear hnx0 hen0 hvr2 hlt hc2 hmx hxd hox hxA
      go_wp2_with fail
      refine (keepT_any _ s).mono ?_
      rintro e w3 ⟨rfl, hx3⟩
      have X3 : Hid (Ext w2 w3) := (((Below.refl _ _).alloc (Nat.le_refl _) _).alloc (by simp) _ : Below w2.heap.size w2 _).trans (Below.mono hx3 (by simp; omega))
      have y0 : w3.cell? ⟨wr.heap.size, 0, none⟩ = some (.int .i64 x1) := by
        have h1 := ((Blk.new w2 38 #[.int .i64 x1, .int .i64 x2]).alloc (.cells #[.int .i64 s.lv, .bool s.tr] 87)).chg (Chg.of_below hx3) (fun hh => by simp at hh <;> omega)
        rw [hsz2] at h1
        exact h1.cell 0
      have y1 : w3.cell? ⟨wr.heap.size, 1, none⟩ = some (.int .i64 x2) := by
        have h1 := ((Blk.new w2 38 #[.int .i64 x1, .int .i64 x2]).alloc (.cells #[.int .i64 s.lv, .bool s.tr] 87)).chg (Chg.of_below hx3) (fun hh => by simp at hh <;> omega)
        rw [hsz2] at h1
        exact h1.cell 1
      have HROW : Hid (DRow w3 (.slice B (d.filter p).length c) (d.filter p)) := by
        have hne := HR.out.vr.own_ne HR.out.row
        exact own_chg (own_chg HR.out.row HC2.out (fun j hj e => hne (by rw [hj, e]))) (Chg.of_below X3.out) (fun j hj => by have := own_lt HR.out.row hj; omega)
      clear hx3
      cases htr : s.tr with
      | true =>
        rw [htr] at hpx
        go_wp2_with (at_builtin; refine wpList_pushS _ rfl (.tmp 21) (.tmp 23) 35 rfl 38 _ 2 16 Try.underlying35 infoEdge rfl (by decide) (.slice B (d.filter p).length c) (d.filter p).length (rowsOf edC (d.filter p)) rfl (own_chg HROW.out ((Chg.refl (fun _ => False) _).alloc _) (fun _ _ h => h)) ⟨by omega, by omega⟩ [.int .i64 x1, .int .i64 x2] w3.heap.size rfl rfl (news_cells rfl _ _) (by simp [Value.oneCell']) ?_; intro g5 c5 w5 ho5 hc5 hat5 _; have HA := Lib.hid (HR.out.push HV2.out HC2.out (X3.out.trans (Ext.alloc _ _)) hpx (Nat.le_refl _) ho5 hc5 hat5); clear ho5 hc5 hat5)
        go_roundw
        case rel => exact ⟨d ++ [(x1, x2)], some ⟨g5, 0, none⟩, c5, by rw [List.filter_append]; simp [hpx], HA.out.1⟩
        case measure => have := HA.out.2; have := HLT.out; omega

      | false =>
        rw [htr] at hpx
        have HA := Lib.hid (HR.out.skip HV2.out HC2.out X3.out hpx (Nat.le_refl _))
        go_wp2
        go_roundw
        case rel => exact ⟨d ++ [(x1, x2)], B, c, by rw [List.filter_append]; simp [hpx], by have e : ((d ++ [(x1, x2)]).filter p).length = (d.filter p).length := by rw [List.filter_append]; simp [hpx]
                                                                                             rw [e]; exact HA.out.1⟩
        case measure => have := HA.out.2; have := HLT.out; omega

end
section
variable {w : World} {G : GrP} {n N : Nat} {A : List AK.Ed} {f : AK.Ed → GM.St} {Es : Nat → List AK.Ed}
theorem gedges_any (h : GrM w G n N A f Es) (hok : ∀ x ∈ A, 0 ≤ x.1 ∧ x.1 < x.2 ∧ x.2 < (n : Int)) (hup : A.Pairwise ltE) (hl : A.length ≤ 200) :
    Calls Try.prog 20 #[.pointer (some ⟨G.gb, 0, none⟩)] w (EdgesPost w A) := by
  have hh := thoseE_any h hok hup hl
  rw [show (A.filter fun _ => true) = A by simp] at hh
  have HH := Lib.hid hh
  clear h hok hup hl hh
  go_enter Try.func20, Try.ntmps20
  go_wp2_with fail
  refine HH.out.mono ?_
  rintro e w1 ⟨B, c, rfl, h1⟩
  have H1 := Lib.hid h1
  clear h1
  go_wp2
  go_ret
  exact ⟨B, c, rfl, H1.out⟩
theorem gtree_any (h : GrM w G n N A f Es) (hok : ∀ x ∈ A, 0 ≤ x.1 ∧ x.1 < x.2 ∧ x.2 < (n : Int)) (hup : A.Pairwise ltE) (hl : A.length ≤ 200) :
    Calls Try.prog 23 #[.pointer (some ⟨G.gb, 0, none⟩)] w (EdgesPost w (GM.lvl f A 0)) := by
  have hh := thoseT_any h hok hup hl
  rw [show (A.filter fun x => (f x).tr) = GM.lvl f A 0 by simp [GM.lvl]] at hh
  have HH := Lib.hid hh
  clear h hok hup hl hh
  go_enter Try.func23, Try.ntmps23
  go_wp2_with fail
  refine HH.out.mono ?_
  rintro e w1 ⟨B, c, rfl, h1⟩
  have H1 := Lib.hid h1
  clear h1
  go_wp2
  go_ret
  exact ⟨B, c, rfl, H1.out⟩
end
end Go.Proofs.Ytlcnoihmhaaekaa
