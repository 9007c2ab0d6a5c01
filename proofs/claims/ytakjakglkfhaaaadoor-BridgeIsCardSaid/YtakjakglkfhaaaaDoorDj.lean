/-
  A walk through a graph, deeper and deeper: the joints that it tells. No program in sight.
-/
import Derived.Test.YtakjakglkfhaaaaDoorDf4
namespace Go.Proofs.YtakjakglkfhaaaaDoor
open Go
set_option linter.unusedVariables false
namespace DF
open PD (g adj Ed adj_symm g_set_self g_set_ne cnt_le)

/-- The edges that do not touch a. -/
def No (l : List Ed) (a u v : Nat) : Prop := adj l u v ∧ u ≠ a ∧ v ≠ a
/-- Two nodes beside a are not joined without it. -/
def Jt (l : List Ed) (a : Nat) : Prop := ∃ u v, adj l a u ∧ adj l a v ∧ ¬ Cn (No l a) u v
theorem In.no {l : List Ed} {S : Nat → Prop} {a x y : Nat} (h : ¬ S a) (k : Cn (In l S) x y) : Cn (No l a) x y :=
  k.mono fun u v e => ⟨e.1, fun q => h (q ▸ e.2.1), fun q => h (q ▸ e.2.2)⟩
theorem reach {l : List Ed} {a v : Nat} (h : Cn (adj l) a v) : v = a ∨ ∃ b, adj l a b ∧ Cn (No l a) b v := by
  have key : ∀ u v, adj l u v → (u = a ∨ ∃ b, adj l a b ∧ Cn (No l a) b u) → (v = a ∨ ∃ b, adj l a b ∧ Cn (No l a) b v) := fun u v e q => by
    by_cases hv : v = a
    · exact .inl hv
    · right
      rcases q with q | ⟨b, hb, hc⟩
      · subst q; exact ⟨v, e, .refl _⟩
      · by_cases hu : u = a
        · subst hu; exact ⟨v, e, .refl _⟩
        · exact ⟨b, hb, .trans hc (.edge ⟨e, hu, hv⟩)⟩
  exact (h.keeps (S := fun x => x = a ∨ ∃ b, adj l a b ∧ Cn (No l a) b x) (fun u v e => ⟨key u v e, key v u (adj_symm e)⟩)).1 (.inl rfl)
/-- Come to since. -/
def Nw (s s' : Wk) (v : Nat) : Prop := V s' v ∧ ¬ V s v
theorem Mid.nw {n : Nat} {l : List Ed} {a fr p : Nat} {s s' : Wk} {T M : Nat → Prop} {E : List Ed} (h : Mid n l a fr p s s' T M E) (v : Nat) : T v ↔ Nw s s' v :=
  ⟨fun q => ⟨(h.vis v).2 (.inr q), (h.new v q).2.1⟩, fun q => ((h.vis v).1 q.1).resolve_left q.2⟩
/-- The joints that a visit tells. -/
def JPost (l : List Ed) (s s' : Wk) : Prop := ∃ J, s'.jo = s.jo ++ J ∧ J.Nodup ∧ (∀ c ∈ J, Nw s s' c) ∧ (∀ c, Nw s s' c → (c ∈ J ↔ Jt l c))
structure JMid (l : List Ed) (a fr : Nat) (s : Wk) (q : Wk × Nat × Bool) (T : Nat → Prop) (J : List Nat) : Prop where
  jo : q.1.jo = s.jo ++ J
  nd : J.Nodup
  jm : ∀ c ∈ J, T c ∧ c ≠ a
  jj : ∀ c, T c → c ≠ a → (c ∈ J ↔ Jt l c)
  r : fr ≠ a → (q.2.2 = true ↔ ∃ v, T v ∧ v ≠ a ∧ ¬ Cn (No l a) v fr)
  z : fr = a → (q.2.1 = 0 ↔ ∀ v, T v → v = a)
  o : fr = a → (q.2.1 ≤ 1 ↔ ∀ x y, T x → T y → x ≠ a → y ≠ a → Cn (No l a) x y)
theorem JMid.congr {l : List Ed} {a fr : Nat} {s : Wk} {q : Wk × Nat × Bool} {T T' : Nat → Prop} {J : List Nat} (h : JMid l a fr s q T J) (hT : ∀ v, T v ↔ T' v) : JMid l a fr s q T' J := by
  have : T = T' := funext fun v => propext (hT v)
  subst this
  exact h
theorem JMid.begun (l : List Ed) (a fr p : Nat) (s : Wk) : JMid l a fr s (start a p s, 0, false) (fun v => v = a) [] :=
  { jo := by simp [start], nd := List.nodup_nil, jm := fun c h => by simp at h, jj := fun c h1 h2 => absurd h1 h2, r := fun _ => ⟨fun h => by simp at h, fun ⟨v, h1, h2, _⟩ => absurd h1 h2⟩, z := fun _ => ⟨fun _ v h => h, fun _ => rfl⟩, o := fun _ => ⟨fun _ x y h1 _ h2 _ => absurd h1 h2, fun _ => Nat.zero_le _⟩ }
theorem JMid.come {n : Nat} {l : List Ed} {a fr p b : Nat} {s s2 : Wk} {q : Wk × Nat × Bool} {T M Tb : Nat → Prop} {E Eb : List Ed} {J : List Nat} (m : JMid l a fr s q T J) (h : Mid n l a fr p s q.1 T M E) (k : Pre n l a fr s) (hl : ∀ u, ¬ adj l u u) (hin : ∀ u v, adj l u v → v < n) (hb : adj l a b) (hv : ¬ V q.1 b) (r : Mid n l b a p q.1 s2 Tb (fun _ => True) Eb) (hj : JPost l q.1 s2) :
    ∃ J', JMid l a fr s (tell a b (low a (g s2.lo b) s2), q.2.1 + 1, q.2.2 || decide (g (low a (g s2.lo b) s2).wh a ≤ g (low a (g s2.lo b) s2).lo b)) (fun v => T v ∨ Tb v) J' := by
  have two := h.two k hl hin hb hv r
  have hlb : g (low a (g s2.lo b) s2).lo b = g s2.lo b := low_ne two.ne.symm
  have e1 : (low a (g s2.lo b) s2).wh = s2.wh := rfl
  have ejo : (tell a b (low a (g s2.lo b) s2)).jo = s2.jo := by unfold tell; split <;> rfl
  have va : V q.1 a := two.on a h.ta
  have nTa : ¬ Tb a := fun w => two.off a w va
  have vs : ∀ v, V s v → V q.1 v := fun v w => (h.vis v).2 (.inl w)
  have tb : ∀ v, Tb v → ¬ T v := fun v w z => two.off v w (two.on v z)
  have wa2 : g s2.wh a = g q.1.wh a := (r.old a va).1
  have tst : g s2.wh a ≤ g s2.lo b ↔ ∀ v u, Tb v → adj l v u → ¬ V s u := by
    constructor
    · intro w v u hTb hadj hu
      have h1 := r.low2 v u hTb hadj (hin _ _ hadj) (fun _ => trivial) (vs u hu) (fun z => k.av (z.2 ▸ hu))
      rw [(h.old u hu).1] at h1
      have h2 := k.le u (hin _ _ hadj)
      rw [wa2, h.wa] at w
      omega
    · intro w
      rcases r.low3 with h1 | ⟨v, u, h1, h2, _, h3, h4, h5⟩
      · rw [h1, r.wa, wa2]
        have := h.le a k.an
        omega
      · rcases (h.vis u).1 h3 with h6 | h6
        · exact absurd h6 (w v u h1 h2)
        · have : u = a := two.via u v h6 h1 (adj_symm h2)
          subst this
          rw [h5, wa2]
          exact Int.le_refl _
  have clos : (∀ v u, Tb v → adj l v u → ¬ V s u) → ∀ {x y : Nat}, Cn (No l a) x y → (Tb x ↔ Tb y) := fun w x y c =>
    c.keeps (S := Tb) fun u v e => by
      have go1 : ∀ u v, No l a u v → Tb u → Tb v := fun u v e hu => by
        rcases r.clo u v hu e.1 (hin _ _ e.1) (fun _ => trivial) with z | z
        · exact z
        · rcases (h.vis v).1 z with z | z
          · exact absurd z (w u v hu e.1)
          · exact absurd (two.via v u z hu (adj_symm e.1)) e.2.2
      exact ⟨go1 u v e, go1 v u ⟨adj_symm e.1, e.2.2, e.2.1⟩⟩
  obtain ⟨Jb, j1, j2, j3, j4⟩ := hj
  refine ⟨J ++ Jb, { jo := by rw [ejo, j1, m.jo, List.append_assoc], nd := ?_, jm := fun c hc => ?_, jj := fun c hc hca => ?_, r := fun hfr => ?_, z := fun hfr => ?_, o := fun hfr => ?_ }⟩
  · rw [List.nodup_append]
    refine ⟨m.nd, j2, fun c hc c' hc' e => ?_⟩
    subst e
    exact tb c ((r.nw c).2 (j3 c hc')) (m.jm c hc).1
  · rcases List.mem_append.1 hc with hc | hc
    · exact ⟨.inl (m.jm c hc).1, (m.jm c hc).2⟩
    · have hT := (r.nw c).2 (j3 c hc)
      exact ⟨.inr hT, fun e => nTa (e ▸ hT)⟩
  · rw [List.mem_append]
    rcases hc with hc | hc
    · have : c ∉ Jb := fun w => tb c ((r.nw c).2 (j3 c w)) hc
      simp only [this, or_false]
      exact m.jj c hc hca
    · have : c ∉ J := fun w => tb c hc (m.jm c w).1
      simp only [this, false_or]
      exact j4 c ((r.nw c).1 hc)
  · show (q.2.2 || decide (g (low a (g s2.lo b) s2).wh a ≤ g (low a (g s2.lo b) s2).lo b)) = true ↔ _
    rw [Bool.or_eq_true, m.r hfr, decide_eq_true_eq, e1, hlb, tst]
    obtain ⟨f1, f2⟩ := k.fr1 hfr
    constructor
    · rintro (⟨v, h1, h2, h3⟩ | w)
      · exact ⟨v, .inl h1, h2, h3⟩
      · refine ⟨b, .inr r.ta, two.ne.symm, fun c => ?_⟩
        exact two.off fr ((clos w c).1 r.ta) (vs fr f1)
    · rintro ⟨v, h1 | h1, h2, h3⟩
      · exact .inl ⟨v, h1, h2, h3⟩
      · right
        intro v0 u0 k1 k2 k3
        apply h3
        have c1 : Cn (No l a) v v0 := .trans (.symm (In.no nTa (r.con v h1))) (In.no nTa (r.con v0 k1))
        have c2 : Cn (No l a) v0 u0 := .edge ⟨k2, fun e => nTa (e ▸ k1), fun e => k.av (e ▸ k3)⟩
        have c3 := (k.bnd u0 v0 k3 (adj_symm k2) (r.new v0 k1).1 (fun w => two.off v0 k1 (vs v0 w))).2
        exact .trans (.trans c1 c2) (.symm (In.no k.av c3))
  · show q.2.1 + 1 = 0 ↔ _
    exact ⟨fun w => by omega, fun w => absurd (w b (.inr r.ta)) two.ne.symm⟩
  · show q.2.1 + 1 ≤ 1 ↔ _
    constructor
    · intro w x y hx hy hxa hya
      have h0 := (m.z hfr).1 (by omega)
      rcases hx with hx | hx
      · exact absurd (h0 x hx) hxa
      rcases hy with hy | hy
      · exact absurd (h0 y hy) hya
      exact .trans (.symm (In.no nTa (r.con x hx))) (In.no nTa (r.con y hy))
    · intro w
      suffices q.2.1 = 0 by omega
      refine (m.z hfr).2 fun x hx => ?_
      apply Classical.byContradiction
      intro hxa
      have c := w x b (.inl hx) (.inr r.ta) hxa two.ne.symm
      have cl := clos (fun v u h1 h2 h3 => (k.bnd u v h3 (adj_symm h2) (r.new v h1).1 (fun z => two.off v h1 (vs v z))).1 hfr) c
      exact tb x (cl.2 r.ta) hx
/-- A visit's end: whether the node itself is a joint. -/
theorem JMid.ends {n : Nat} {l : List Ed} {a fr p : Nat} {s : Wk} {q : Wk × Nat × Bool} {T : Nat → Prop} {E : List Ed} {J : List Nat} (m : JMid l a fr s q T J) (h : Mid n l a fr p s q.1 T (fun _ => True) E) (k : Pre n l a fr s) (hl : ∀ u, ¬ adj l u u) (hin : ∀ u v, adj l u v → v < n) : JPost l s (fin a fr q) := by
  have hne : ∀ u, adj l a u → u ≠ a := fun u w e => hl a (e ▸ w)
  have side : ∀ u, adj l a u → T u ∨ V s u := fun u w => h.clo a u h.ta w (hin _ _ w) (fun _ => trivial)
  have key : ((fr ≠ a ∧ q.2.2 = true) ∨ (fr = a ∧ 1 < q.2.1)) ↔ Jt l a := by
    by_cases hfr : fr = a
    · have e : ((fr ≠ a ∧ q.2.2 = true) ∨ (fr = a ∧ 1 < q.2.1)) ↔ ¬ (q.2.1 ≤ 1) := by
        constructor
        · rintro (w | w)
          · exact absurd hfr w.1
          · omega
        · intro w; exact .inr ⟨hfr, by omega⟩
      rw [e, m.o hfr]
      constructor
      · intro w
        apply Classical.byContradiction
        intro nj
        apply w
        intro x y hx hy hxa hya
        rcases reach ((h.con x hx).mono fun _ _ e => e.1) with z | ⟨b, b1, b2⟩
        · exact absurd z hxa
        rcases reach ((h.con y hy).mono fun _ _ e => e.1) with z | ⟨c, c1, c2⟩
        · exact absurd z hya
        have : Cn (No l a) b c := Classical.byContradiction fun z => nj ⟨b, c, b1, c1, z⟩
        exact .trans (.symm b2) (.trans this c2)
      · rintro ⟨u, v, h1, h2, h3⟩ w
        have inT : ∀ u, adj l a u → T u := fun u z => by
          rcases side u z with z' | z'
          · exact z'
          · exact absurd hfr (k.bnd u a z' (adj_symm z) k.an k.av).1
        exact h3 (w u v (inT u h1) (inT v h2) (hne u h1) (hne v h2))
    · have e : ((fr ≠ a ∧ q.2.2 = true) ∨ (fr = a ∧ 1 < q.2.1)) ↔ q.2.2 = true := by
        constructor
        · rintro (w | w)
          · exact w.2
          · exact absurd w.1 hfr
        · intro w; exact .inl ⟨hfr, w⟩
      rw [e, m.r hfr]
      obtain ⟨f1, f2⟩ := k.fr1 hfr
      constructor
      · rintro ⟨v, h1, h2, h3⟩
        rcases reach ((h.con v h1).mono fun _ _ e => e.1) with z | ⟨b, b1, b2⟩
        · exact absurd z h2
        exact ⟨b, fr, b1, adj_symm f2, fun c => h3 (.trans (.symm b2) c)⟩
      · rintro ⟨u, v, h1, h2, h3⟩
        apply Classical.byContradiction
        intro nx
        have all : ∀ x, adj l a x → Cn (No l a) x fr := fun x z => by
          rcases side x z with z' | z'
          · exact Classical.byContradiction fun w => nx ⟨x, z', hne x z, w⟩
          · exact .symm (In.no k.av (k.bnd x a z' (adj_symm z) k.an k.av).2)
        exact h3 (.trans (all u h1) (.symm (all v h2)))
  have hV : ∀ v, Nw s (fin a fr q) v ↔ T v := fun v => by
    rw [h.nw v]
    unfold fin
    split <;> exact Iff.rfl
  unfold JPost
  simp only [hV]
  by_cases hc : (fr ≠ a ∧ q.2.2 = true) ∨ (fr = a ∧ 1 < q.2.1)
  · refine ⟨J ++ [a], ?_, ?_, fun c hx => ?_, fun c hx => ?_⟩
    · unfold fin; rw [if_pos hc]; show q.1.jo ++ [a] = _; rw [m.jo, List.append_assoc]
    · rw [List.nodup_append]
      refine ⟨m.nd, by simp, fun c h1 c' h2 e => ?_⟩
      simp at h2; subst h2; subst e
      exact (m.jm c h1).2 rfl
    · rcases List.mem_append.1 hx with hx | hx
      · exact (m.jm c hx).1
      · simp at hx; subst hx; exact h.ta
    · rw [List.mem_append, List.mem_singleton]
      by_cases e : c = a
      · subst e; simp only [or_true, true_iff]; exact key.1 hc
      · simp only [e, or_false]; exact m.jj c hx e
  · refine ⟨J, ?_, m.nd, fun c hx => (m.jm c hx).1, fun c hx => ?_⟩
    · unfold fin; rw [if_neg hc]; exact m.jo
    · by_cases e : c = a
      · subst e
        exact ⟨fun w => absurd rfl (m.jm c w).2, fun w => absurd (key.2 w) hc⟩
      · exact m.jj c hx e
theorem JMid.one {n : Nat} {l : List Ed} {a fr p b : Nat} {s : Wk} {q : Wk × Nat × Bool} {T M : Nat → Prop} {E : List Ed} {J : List Nat} {rec : Nat → Wk → Wk} (m : JMid l a fr s q T J) (h : Mid n l a fr p s q.1 T M E) (k : Pre n l a fr s) (hl : ∀ u, ¬ adj l u u) (hin : ∀ u v, adj l u v → v < n) (hb : adj l a b) (hrec : ¬ V q.1 b → Post n l b a p q.1 (rec b q.1)) (hrj : ¬ V q.1 b → JPost l q.1 (rec b q.1)) :
    ∃ T' E' J', Mid n l a fr p s (kid rec a fr q b).1 T' (fun u => M u ∨ u = b) E' ∧ JMid l a fr s (kid rec a fr q b) T' J' := by
  obtain ⟨T', E', h'⟩ := h.one (rec := rec) k hl hin hb hrec
  refine ⟨T', E', ?_⟩
  have hT : ∀ v, T' v ↔ Nw s (kid rec a fr q b).1 v := h'.nw
  unfold kid at hT ⊢
  by_cases e : b = fr
  · rw [if_pos e] at hT ⊢
    unfold kid at h'
    rw [if_pos e] at h'
    exact ⟨J, h', m.congr fun v => (h.nw v).trans (hT v).symm⟩
  · rw [if_neg e] at hT ⊢
    unfold kid at h'
    rw [if_neg e] at h'
    by_cases hv : 0 < g q.1.wh b
    · rw [if_pos hv] at hT h' ⊢
      have m' : JMid l a fr s (low a (g q.1.wh b) q.1, q.2) T J := { m with }
      exact ⟨J, h', m'.congr fun v => (h.nw v).trans (hT v).symm⟩
    · rw [if_neg hv] at hT h' ⊢
      obtain ⟨Tb, Eb, r⟩ := hrec hv
      obtain ⟨J', hj⟩ := m.come h k hl hin hb hv r (hrj hv)
      refine ⟨J', h', hj.congr fun v => ?_⟩
      rw [hT v]
      have ew : (tell a b (low a (g (rec b q.1).lo b) (rec b q.1))).wh = (rec b q.1).wh := by unfold tell; split <;> rfl
      show T v ∨ Tb v ↔ (0 < g (tell a b (low a (g (rec b q.1).lo b) (rec b q.1))).wh v ∧ ¬ V s v)
      rw [ew]
      have r1 := r.vis v
      have r2 := h.vis v
      unfold V at r1 r2 ⊢
      constructor
      · rintro (w | w)
        · exact ⟨r1.2 (.inl (r2.2 (.inr w))), (h.new v w).2.1⟩
        · exact ⟨r1.2 (.inr w), fun z => (r.new v w).2.1 (r2.2 (.inl z))⟩
      · rintro ⟨w1, w2⟩
        rcases r1.1 w1 with w | w
        · rcases r2.1 w with z | z
          · exact absurd z w2
          · exact .inl z
        · exact .inr w
theorem JMid.runs {n : Nat} {l : List Ed} {a fr p f : Nat} {s : Wk} {rec : Nat → Wk → Wk} (k : Pre n l a fr s) (hl : ∀ u, ¬ adj l u u) (hin : ∀ u v, adj l u v → v < n) (hf : unv n s ≤ f + 1) (hrec : ∀ b q, Pre n l b a q → unv n q ≤ f → Post n l b a p q (rec b q)) (hrj : ∀ b q, Pre n l b a q → unv n q ≤ f → JPost l q (rec b q)) :
    ∀ (xs : List Nat) (M : Nat → Prop) (q : Wk × Nat × Bool), (∃ T E J, Mid n l a fr p s q.1 T M E ∧ JMid l a fr s q T J) → (∀ x, x ∈ xs → adj l a x) → ∃ T E J, Mid n l a fr p s (xs.foldl (kid rec a fr) q).1 T (fun u => M u ∨ u ∈ xs) E ∧ JMid l a fr s (xs.foldl (kid rec a fr) q) T J
  | [], M, q, ⟨T, E, J, h, m⟩, _ => ⟨T, E, J, h.more (fun u _ _ w => by simpa using w), m⟩
  | x :: xs, M, q, ⟨T, E, J, h, m⟩, hx => by
    have hb := hx x (List.mem_cons_self ..)
    have hp : ¬ V q.1 x → Pre n l x a q.1 ∧ unv n q.1 ≤ f := fun hv => ⟨h.pre k hl (hin _ _ hb) hb hv, by have := h.fewer k; omega⟩
    have h1 := m.one (rec := rec) h k hl hin hb (fun hv => hrec x q.1 (hp hv).1 (hp hv).2) (fun hv => hrj x q.1 (hp hv).1 (hp hv).2)
    obtain ⟨T', E', J', h2, m2⟩ := JMid.runs k hl hin hf hrec hrj xs (fun u => M u ∨ u = x) (kid rec a fr q x) h1 (fun y hy => hx y (List.mem_cons_of_mem _ hy))
    refine ⟨T', E', J', h2.more fun u _ _ w => ?_, m2⟩
    rcases w with w | w
    · exact .inl (.inl w)
    · rcases List.mem_cons.1 w with w | w
      · exact .inl (.inr w)
      · exact .inr w
theorem visit_jo {n : Nat} {l : List Ed} {N : Nat → List Nat} (hN : Bes n l N) (hl : ∀ u, ¬ adj l u u) (hin : ∀ u v, adj l u v → v < n) (p : Nat) : ∀ (f a fr : Nat) (s : Wk), Pre n l a fr s → unv n s ≤ f → JPost l s (visit N p f a fr s)
  | 0, a, fr, s, k, hf => by
    have := (begun (p := p) k hl).fewer k
    omega
  | f + 1, a, fr, s, k, hf => by
    obtain ⟨T, E, J, h, m⟩ := JMid.runs k hl hin hf (fun b q hq hf => visit_post hN hl hin p f b a q hq hf) (fun b q hq hf => visit_jo hN hl hin p f b a q hq hf) (N a) (fun _ => False) (start a p s, 0, false) ⟨_, _, _, begun k hl, JMid.begun l a fr p s⟩ (fun x hx => ((hN a k.an x).1 hx).2)
    exact m.ends (h.more fun u hu hadj _ => .inr ((hN a k.an u).2 ⟨hu, hadj⟩)) k hl hin
/-- The joints told so far. -/
structure AllJ (l : List Ed) (s : Wk) : Prop where
  nd : s.jo.Nodup
  jm : ∀ c ∈ s.jo, V s c
  jj : ∀ c, V s c → (c ∈ s.jo ↔ Jt l c)
theorem AllJ.step {n p : Nat} {l : List Ed} {k : Nat} {s s' : Wk} (h : AllJ l s) (hp : Post n l k k p s s') (hj : JPost l s s') : AllJ l s' := by
  obtain ⟨T, E, r⟩ := hp
  obtain ⟨J, j1, j2, j3, j4⟩ := hj
  have sV : ∀ v, V s v → V s' v := fun v q => (r.vis v).2 (.inl q)
  refine ⟨?_, fun c hc => ?_, fun c hc => ?_⟩
  · rw [j1, List.nodup_append]
    exact ⟨h.nd, j2, fun c h1 c' h2 e => (j3 c' h2).2 (e ▸ h.jm c h1)⟩
  · rw [j1] at hc
    rcases List.mem_append.1 hc with hc | hc
    · exact sV c (h.jm c hc)
    · exact (j3 c hc).1
  · rw [j1, List.mem_append]
    by_cases q : V s c
    · have : c ∉ J := fun w => (j3 c w).2 q
      simp only [this, or_false]
      exact h.jj c q
    · have : c ∉ s.jo := fun w => q (h.jm c w)
      simp only [this, false_or]
      exact j4 c ⟨hc, q⟩
theorem walked_jo {n : Nat} {l : List Ed} {N : Nat → List Nat} (hN : Bes n l N) (hl : ∀ u, ¬ adj l u u) (hin : ∀ u v, adj l u v → v < n) : ∀ k, k ≤ n → AllJ l (walked N n k)
  | 0, _ => by
    have hv : ∀ v, ¬ V (zero n) v := fun v h => by have := (g_zero n v).1; unfold V zero at h; simp only at h; omega
    exact ⟨by simp [walked, zero], fun c hc => by simp [walked, zero] at hc, fun c hc => absurd hc (hv c)⟩
  | k + 1, hk => by
    have h := walked_jo hN hl hin k (by omega)
    have ha := walked_all hN hl hin k (by omega)
    unfold walked
    by_cases h0 : g (walked N n k).wh k = 0
    · rw [if_pos h0]
      have hv : ¬ V (walked N n k) k := by unfold V; omega
      have hp := ha.pre (by omega) hv
      exact h.step (visit_post hN hl hin k n k k _ hp (cnt_le _ _)) (visit_jo hN hl hin k n k k _ hp (cnt_le _ _))
    · rw [if_neg h0]; exact h
end DF
end Go.Proofs.YtakjakglkfhaaaaDoor
