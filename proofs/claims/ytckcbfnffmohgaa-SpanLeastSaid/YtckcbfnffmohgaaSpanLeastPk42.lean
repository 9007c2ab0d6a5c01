/-
  Forests as they lie in memory. No conditions.
  What holds of a forest's roots and ways when two trees are linked, when one is cut. Conditions: the ways lie in memory as 'RowAt' says.
-/
import Derived.Test.YtckcbfnffmohgaaSpanLeastPk35
import Derived.Test.YtckcbfnffmohgaaVm
import Derived.Test.YtckcbfnffmohgaaSpanLeastPk41
import Derived.Test.YtckcbfnffmohgaaSpanLeastPk19
namespace Go.Proofs.Ytckcbfnffmohgaa
open Go Go.RowKit SQ TR DF PD
set_option linter.unusedVariables false

theorem SeqAt.chg2 {S : Nat → Prop} {w w' : World} (hc : Chg S w w') (hS : ∀ k, S k → ∀ cs, ¬ Blk w k 97 cs) : ∀ {t : T} {p : Option Addr}, SeqAt w p t → SeqAt w' p t
  | .nil, _, h => h
  | .node _ _ _, _, ⟨b, lp, rp, h1, h2, h3, h4⟩ => ⟨b, lp, rp, h1, h2.chg hc (fun h => hS b h _ h2), h3.chg2 hc hS, h4.chg2 hc hS⟩
theorem RowAt.chg {S : Nat → Prop} {w w' : World} {p : Option Addr} {xs : List Int} (h : RowAt w p xs) (hc : Chg S w w') (hS : ∀ k, S k → ∀ cs, ¬ Blk w k 97 cs) : RowAt w' p xs := by
  obtain ⟨t, h1, h2⟩ := h; exact ⟨t, h1.chg2 hc hS, h2⟩

/-- Where a forest lies. -/
structure FoP where
  fb : Nat
  mb : Nat
  rb : Nat
  eb : Nat
  c : Nat
/-- The blocks that turn. -/
def FoP.S (F : FoP) (k : Nat) : Prop := k = F.mb ∨ k = F.rb ∨ k = F.eb
def FoP.rv (F : FoP) (n : Nat) : Value := .slice (some ⟨F.rb, 0, none⟩) n F.c
def RootAt (w : World) (F : FoP) (n : Nat) (p : List Int) : Prop := w.ownsRow 0 3 1 (F.rv n) n (intsV p)
def WaysAt (w : World) (n : Nat) (E : List AK.Ed) (p : List Int) (m : Int → Option Value) : Prop := ∀ r : Nat, r < n → g p r = r → ∃ q l, m r = some (.pointer q) ∧ RowAt w q l ∧ TR.Way (adj E) r l
def EdgesAre (E : List AK.Ed) (me : AK.Ed → Option Value) : Prop := ∀ x, okE x → me x = if x ∈ E then some (.int .i64 1) else none
/-- A forest lies in memory: its roots, its ways, its edges. -/
structure FoAt (w : World) (F : FoP) (n N : Nat) (E : List AK.Ed) : Prop where
  blk : Blk w F.fb 52 #[.map (some F.mb), F.rv n, .map (some F.eb)]
  hn : 1 ≤ n ∧ n ≤ 60
  fo : Fo n E
  ne : F.mb ≠ F.eb
  ways : ∃ p s m, Pts n E p ∧ RootAt w F n p ∧ VM kI w F.mb N s m ∧ WaysAt w n E p m
  edges : ∃ me, VM kE w F.eb N E.length me ∧ EdgesAre E me
section
variable {w w' : World} {F : FoP} {n N : Nat} {E : List AK.Ed} {S : Nat → Prop}
theorem root_blk {p : List Int} (h : RootAt w F n p) (hn : 0 < n) : ∃ cs, Blk w F.rb 3 cs := by
  rcases h.2 with ⟨_, h0⟩ | ⟨g', cap, cur, hv, _, hh, _⟩
  · omega
  · simp only [FoP.rv, Value.slice.injEq, Option.some.injEq, Addr.mk.injEq, and_true, true_and] at hv
    obtain ⟨hv, rfl⟩ := hv
    exact ⟨cur, hv ▸ hh⟩
theorem FoAt.chg (h : FoAt w F n N E) (hc : Chg S w w') (hf : ¬ S F.fb) (hS : ∀ k, F.S k → ¬ S k) (hq : ∀ k, S k → ∀ cs, ¬ Blk w k 97 cs) : FoAt w' F n N E := by
  obtain ⟨p, s, m, h1, h2, h3, h4⟩ := h.ways
  obtain ⟨me, k1, k2⟩ := h.edges
  refine ⟨h.blk.chg hc hf, h.hn, h.fo, h.ne, ⟨p, s, m, h1, own_chg h2 hc (fun k hk => hS k (by simp [FoP.rv, Value.ownBlock] at hk; exact .inr (.inl hk.symm))), h3.chg hc (hS _ (.inl rfl)), fun r hr hg => ?_⟩, ⟨me, k1.chg hc (hS _ (.inr (.inr rfl))), k2⟩⟩
  obtain ⟨q, l, a1, a2, a3⟩ := h4 r hr hg
  exact ⟨q, l, a1, a2.chg hc hq, a3⟩
theorem FoAt.lt (h : FoAt w F n N E) : F.fb < w.heap.size ∧ ∀ k, F.S k → k < w.heap.size := by
  obtain ⟨p, s, m, h1, h2, h3, h4⟩ := h.ways
  obtain ⟨me, k1, k2⟩ := h.edges
  refine ⟨h.blk.lt, ?_⟩
  rintro k (rfl | rfl | rfl)
  · exact h3.lt
  · exact own_lt h2 (by simp [FoP.rv, Value.ownBlock])
  · exact k1.lt
theorem FoAt.noseq (h : FoAt w F n N E) : ∀ k, F.S k → ∀ cs, ¬ Blk w k 97 cs := by
  obtain ⟨p, s, m, h1, h2, h3, h4⟩ := h.ways
  obtain ⟨me, k1, k2⟩ := h.edges
  rintro k (rfl | rfl | rfl) cs hb
  · exact h3.blk_ne hb rfl
  · exact own_ne h2 hb (by decide) rfl
  · exact k1.blk_ne hb rfl
theorem FoAt.ext (h : FoAt w F n N E) (hx : Ext w w') : FoAt w' F n N E := by
  have hl := h.lt
  exact h.chg (Chg.of_below hx) (by omega) (fun k hk hk2 => by have := hl.2 k hk; omega) (fun k hk cs hb => by have := hb.lt; omega)
theorem FoAt.mono (h : FoAt w F n N E) {N' : Nat} (hN : N ≤ N') : FoAt w F n N' E := by
  obtain ⟨p, s, m, h1, h2, h3, h4⟩ := h.ways
  obtain ⟨me, k1, k2⟩ := h.edges
  exact ⟨h.blk, h.hn, h.fo, h.ne, ⟨p, s, m, h1, h2, h3.mono hN, h4⟩, ⟨me, k1.mono hN, k2⟩⟩
/-- The forest's own block is none of those that turn. -/
theorem FoAt.fb_ne (h : FoAt w F n N E) : ¬ F.S F.fb := by
  obtain ⟨p, s, m, h1, h2, h3, h4⟩ := h.ways
  obtain ⟨me, k1, k2⟩ := h.edges
  rintro (e | e | e)
  · exact h3.blk_ne h.blk e
  · exact own_ne h2 h.blk (by decide) (by simp [FoP.rv, Value.ownBlock, e])
  · exact k1.blk_ne h.blk e
end
end Go.Proofs.Ytckcbfnffmohgaa
namespace Go.Proofs.Ytckcbfnffmohgaa
open Go Go.RowKit SQ TR DF PD
set_option linter.unusedVariables false

/-- A way is set: its marks have the root r, where the way is. -/
structure SetR (n : Nat) (M : List Int) (r : Nat) (q : Option Addr) (p : List Int) (m : Int → Option Value) (p' : List Int) (m' : Int → Option Value) : Prop where
  len : p'.length = p.length
  g : ∀ v : Nat, v < n → PD.g p' v = if (v : Int) ∈ M then (r : Int) else PD.g p v
  m : ∀ x : Int, m' x = if x = r then some (.pointer q) else if x ∈ M then none else m x
section
variable {w : World} {n : Nat} {E E' : List AK.Ed} {p p' : List Int} {m m' : Int → Option Value}
theorem state_of (hn : n ≤ 60) (hok : ∀ x ∈ E', 0 ≤ x.1 ∧ x.1 < x.2 ∧ x.2 < (n : Int)) (hl : p'.length = n) (hP : Pts n E p) (hW : WaysAt w n E p m)
    (h : ∀ v, v < n → (∃ (r : Nat) (q : Option Addr) (l : List Int), PD.g p' v = r ∧ Cn (adj E') r v ∧ (∀ u, u < n → Cn (adj E') v u → r ≤ u) ∧ m' r = some (.pointer q) ∧ RowAt w q l ∧ TR.Way (adj E') r l) ∨
      (PD.g p' v = PD.g p v ∧ m' v = m v ∧ (∀ x y, Cn (adj E) v x → (adj E x y ↔ adj E' x y)) ∧ ∀ x, Cn (adj E) v x ↔ Cn (adj E') v x)) : Pts n E' p' ∧ WaysAt w n E' p' m' := by
  refine ⟨pts_of hok hl fun v hv => ?_, fun r hr hg => ?_⟩
  · rcases h v hv with ⟨r, q, l, h1, h2, h3, _⟩ | ⟨h1, h2, h3, h4⟩
    · exact ⟨r, h1, h2, h3⟩
    · obtain ⟨r, k1, k2, k3⟩ := hP.pa v hv
      refine ⟨r, by rw [h1, k1], ((h4 r).1 k3.symm).symm, fun u hu c => ?_⟩
      have := pts_least hP hu ((h4 u).2 c)
      omega
  · rcases h r hr with ⟨r', q, l, h1, h2, h3, h4, h5, h6⟩ | ⟨h1, h2, h3, h4⟩
    · have : r' = r := by rw [hg] at h1; omega
      subst this
      exact ⟨q, l, h4, h5, h6⟩
    · obtain ⟨q, l, k1, k2, k3⟩ := hW r hr (by rw [← h1]; exact hg)
      exact ⟨q, l, by rw [h2]; exact k1, k2, k3.other (by omega) h3 h4⟩
theorem link_state {a b r : Nat} {q : Option Addr} {x y : List Int} (hn : n ≤ 60) (hf : Fo n E) (hP : Pts n E p) (hW : WaysAt w n E p m) (ha : a < n) (hb : b < n) (hc : ¬ Cn (adj E) a b)
    (hx : TR.Way (adj E) a x) (hy : TR.Way (adj E) b y) (kx : TR.Go (adj E) a x a) (ky : TR.Go (adj E) b y b) (hq : RowAt w q (x ++ (st a b :: y) ++ [st b a]))
    (hr : (r : Int) ∈ mks (x ++ (st a b :: y) ++ [st b a])) (hmin : ∀ z ∈ mks (x ++ (st a b :: y) ++ [st b a]), (r : Int) ≤ z) (hs : SetR n (mks (x ++ (st a b :: y) ++ [st b a])) r q p m p' m') :
    Pts n (putE (AK.ek a b) E) p' ∧ WaysAt w n (putE (AK.ek a b) E) p' m' := by
  have hf' := hf.put ha hb hc
  have sy : ∀ u v, adj E u v → adj E v u := fun u v e => adj_symm e
  have inn : ∀ u v, adj E u v → v < 60 := fun u v e => by have := adj_in hf.ok e; omega
  have way : TR.Way (adj (putE (AK.ek a b) E)) a (x ++ (st a b :: y) ++ [st b a]) := by
    have h0 := TR.Way.link sy inn (by omega) (by omega) hc hx hy kx ky
    have he : adj (putE (AK.ek a b) E) = Ad (adj E) a b := funext fun u => funext fun v => propext (adj_put u v)
    rw [he]; exact h0
  obtain ⟨mk1, mk2, mk3⟩ := way.mks ha hf' hn
  obtain ⟨r', hr1, hr2, hr3⟩ := mk2 _ hr
  have : r' = r := by omega
  subst this
  refine state_of hn hf'.ok (by rw [hs.len]; exact hP.len) hP hW fun v hv => ?_
  by_cases cv : Cn (adj (putE (AK.ek a b) E)) a v
  · left
    have hm := mk3 v hv cv
    refine ⟨r', q, _, by rw [hs.g v hv, if_pos hm], hr3.symm.trans cv, fun u hu c => ?_, by rw [hs.m, if_pos rfl], hq, way.re hr3⟩
    have := hmin _ (mk3 u hu (cv.trans c)); omega
  · right
    have hm : (v : Int) ∉ mks (x ++ (st a b :: y) ++ [st b a]) := fun w => by
      obtain ⟨z, z1, _, z3⟩ := mk2 _ w
      have : z = v := by omega
      subst this; exact cv z3
    have hne : (v : Int) ≠ r' := fun e => by rw [e] at hm; exact hm hr
    have nva : ¬ Cn (adj E) v a := fun c => cv ((c.mono fun _ _ e => (adj_put _ _).2 (.inl e)).symm)
    have cab : Cn (adj (putE (AK.ek a b) E)) a b := .edge ((adj_put a b).2 (.inr (.inl ⟨rfl, rfl⟩)))
    have nvb : ¬ Cn (adj E) v b := fun c => cv (cab.trans (c.mono fun _ _ e => (adj_put _ _).2 (.inl e)).symm)
    refine ⟨by rw [hs.g v hv, if_neg hm], by rw [hs.m, if_neg hne, if_neg hm], fun z u c => ⟨fun e => (adj_put z u).2 (.inl e), fun e => ?_⟩, fun z => ⟨fun c => c.mono fun _ _ e => (adj_put _ _).2 (.inl e), fun c => ?_⟩⟩
    · rcases (adj_put z u).1 e with e | ⟨rfl, rfl⟩ | ⟨rfl, rfl⟩
      · exact e
      · exact absurd c nva
      · exact absurd c nvb
    · rcases cn_cut' (F := adj E) (fun p q h => (adj_put p q).1 h) c with c | ⟨c, _⟩ | ⟨c, _⟩
      · exact c
      · exact absurd c nva
      · exact absurd c nvb
theorem cut_state {u v r1 r2 : Nat} {q1 q2 : Option Addr} {low mid high : List Int} {p1 : List Int} {m1 : Int → Option Value} (hn : n ≤ 60) (hf : Fo n E) (hP : Pts n E p) (hW : WaysAt w n E p m) (huv : adj E u v)
    (hway : TR.Way (adj E) u (low ++ st u v :: mid ++ st v u :: high)) (hq1 : RowAt w q1 mid) (hq2 : RowAt w q2 (low ++ high))
    (hr1 : (r1 : Int) ∈ mks mid) (hmin1 : ∀ z ∈ mks mid, (r1 : Int) ≤ z) (hs1 : SetR n (mks mid) r1 q1 p m p1 m1)
    (hr2 : (r2 : Int) ∈ mks (low ++ high)) (hmin2 : ∀ z ∈ mks (low ++ high), (r2 : Int) ≤ z) (hs2 : SetR n (mks (low ++ high)) r2 q2 p1 m1 p' m') :
    Pts n (cutE (AK.ek u v) E) p' ∧ WaysAt w n (cutE (AK.ek u v) E) p' m' := by
  have hf' := hf.cut (AK.ek u v)
  obtain ⟨hu, hv, hne⟩ := adj_in hf.ok huv
  have sy : ∀ x y, adj E x y → adj E y x := fun x y e => adj_symm e
  have inn : ∀ x y, adj E x y → y < 60 := fun x y e => by have := adj_in hf.ok e; omega
  have he : adj (cutE (AK.ek u v) E) = Mn (adj E) u v := funext fun x => funext fun y => propext (adj_cut hf.lt x y)
  have nuv : ¬ Cn (Mn (adj E) u v) u v := hf.fs u v huv
  obtain ⟨w1, w2⟩ := TR.Way.cut sy inn (by omega) (by omega) huv nuv hway
  have w1' : TR.Way (adj (cutE (AK.ek u v) E)) v mid := by rw [he]; exact w1
  have w2' : TR.Way (adj (cutE (AK.ek u v) E)) u (low ++ high) := by rw [he]; exact w2
  have nuv' : ¬ Cn (adj (cutE (AK.ek u v) E)) u v := by rw [he]; exact nuv
  obtain ⟨a1, a2, a3⟩ := w1'.mks hv hf' hn
  obtain ⟨b1, b2, b3⟩ := w2'.mks hu hf' hn
  obtain ⟨s1, e1, f1, c1⟩ := a2 _ hr1
  have : s1 = r1 := by omega
  subst this
  obtain ⟨s2, e2, f2, c2⟩ := b2 _ hr2
  have : s2 = r2 := by omega
  subst this
  have in1 : ∀ z : Nat, (z : Int) ∈ mks mid → Cn (adj (cutE (AK.ek u v) E)) v z := fun z h => by
    obtain ⟨y, y1, _, y3⟩ := a2 _ h
    have : y = z := by omega
    subst this; exact y3
  have in2 : ∀ z : Nat, (z : Int) ∈ mks (low ++ high) → Cn (adj (cutE (AK.ek u v) E)) u z := fun z h => by
    obtain ⟨y, y1, _, y3⟩ := b2 _ h
    have : y = z := by omega
    subst this; exact y3
  have dis : ∀ z : Nat, (z : Int) ∈ mks mid → (z : Int) ∉ mks (low ++ high) := fun z h k => nuv' ((in2 z k).trans (in1 z h).symm)
  refine state_of hn hf'.ok (by rw [hs2.len, hs1.len]; exact hP.len) hP hW fun z hz => ?_
  by_cases cz1 : Cn (adj (cutE (AK.ek u v) E)) v z
  · left
    have hm := a3 z hz cz1
    refine ⟨s1, q1, mid, by rw [hs2.g z hz, if_neg (dis z hm), hs1.g z hz, if_pos hm], c1.symm.trans cz1, fun y hy c => ?_, ?_, hq1, w1'.re c1⟩
    · have := hmin1 _ (a3 y hy (cz1.trans c)); omega
    · have hne2 : (s1 : Int) ≠ s2 := fun e => dis s1 hr1 (by rw [e]; exact hr2)
      rw [hs2.m, if_neg hne2, if_neg (dis s1 hr1), hs1.m, if_pos rfl]
  · by_cases cz2 : Cn (adj (cutE (AK.ek u v) E)) u z
    · left
      have hm := b3 z hz cz2
      refine ⟨s2, q2, _, by rw [hs2.g z hz, if_pos hm], c2.symm.trans cz2, fun y hy c => ?_, by rw [hs2.m, if_pos rfl], hq2, w2'.re c2⟩
      have := hmin2 _ (b3 y hy (cz2.trans c)); omega
    · right
      have m1' : (z : Int) ∉ mks mid := fun h => cz1 (in1 z h)
      have m2' : (z : Int) ∉ mks (low ++ high) := fun h => cz2 (in2 z h)
      have n1 : (z : Int) ≠ s1 := fun e => m1' (by rw [e]; exact hr1)
      have n2 : (z : Int) ≠ s2 := fun e => m2' (by rw [e]; exact hr2)
      have nzu : ∀ x, Cn (adj E) z x → x ≠ u ∧ x ≠ v := by
        have key : ∀ x, Cn (adj E) z x → Cn (adj (cutE (AK.ek u v) E)) z x := fun x c => by
          have inv : (Cn (adj (cutE (AK.ek u v) E)) z z ↔ Cn (adj (cutE (AK.ek u v) E)) z x) := c.keeps (S := fun y => Cn (adj (cutE (AK.ek u v) E)) z y) fun p q e => by
            by_cases w : (p = u ∧ q = v) ∨ (p = v ∧ q = u)
            · rcases w with ⟨rfl, rfl⟩ | ⟨rfl, rfl⟩
              · exact ⟨fun c => absurd c.symm cz2, fun c => absurd c.symm cz1⟩
              · exact ⟨fun c => absurd c.symm cz1, fun c => absurd c.symm cz2⟩
            · have e' : adj (cutE (AK.ek u v) E) p q := (adj_cut hf.lt p q).2 ⟨e, fun h => w (.inl h), fun h => w (.inr h)⟩
              exact ⟨fun c => c.trans (.edge e'), fun c => c.trans (Cn.edge e').symm⟩
          exact inv.1 (.refl _)
        exact fun x c => ⟨fun e => cz2 (e ▸ (key x c).symm), fun e => cz1 (e ▸ (key x c).symm)⟩
      refine ⟨by rw [hs2.g z hz, if_neg m2', hs1.g z hz, if_neg m1'], by rw [hs2.m, if_neg n2, if_neg m2', hs1.m, if_neg n1, if_neg m1'], fun x y c => ?_, fun x => ⟨fun c => ?_, fun c => c.mono fun p q e => ((adj_cut hf.lt p q).1 e).1⟩⟩
      · have := nzu x c
        exact ⟨fun e => (adj_cut hf.lt x y).2 ⟨e, fun h => this.1 h.1, fun h => this.2 h.1⟩, fun e => ((adj_cut hf.lt x y).1 e).1⟩
      · have inv : (Cn (adj E) z z ∧ Cn (adj (cutE (AK.ek u v) E)) z z ↔ Cn (adj E) z x ∧ Cn (adj (cutE (AK.ek u v) E)) z x) := c.keeps (S := fun y => Cn (adj E) z y ∧ Cn (adj (cutE (AK.ek u v) E)) z y) fun p q e => by
          constructor
          · rintro ⟨d1, d2⟩
            have := nzu p d1
            have e' : adj (cutE (AK.ek u v) E) p q := (adj_cut hf.lt p q).2 ⟨e, fun h => this.1 h.1, fun h => this.2 h.1⟩
            exact ⟨d1.trans (.edge e), d2.trans (.edge e')⟩
          · rintro ⟨d1, d2⟩
            have := nzu q d1
            have e' : adj (cutE (AK.ek u v) E) p q := (adj_cut hf.lt p q).2 ⟨e, fun h => this.2 h.2, fun h => this.1 h.2⟩
            exact ⟨d1.trans (Cn.edge e).symm, d2.trans (Cn.edge e').symm⟩
        exact (inv.1 ⟨.refl _, .refl _⟩).2
end
end Go.Proofs.Ytckcbfnffmohgaa
