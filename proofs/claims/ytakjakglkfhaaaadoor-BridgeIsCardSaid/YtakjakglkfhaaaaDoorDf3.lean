/-
  A walk through a graph, deeper and deeper: one node beside it is come to. No program in sight.
-/
import Derived.Test.YtakjakglkfhaaaaDoorDf2
namespace Go.Proofs.YtakjakglkfhaaaaDoor
open Go
set_option linter.unusedVariables false
namespace DF
open PD (g adj Ed adj_symm g_set_self g_set_ne)

/-- What holds between a's nodes and those of b, which is come to from a. -/
structure Two (n : Nat) (l : List Ed) (a b : Nat) (s1 s2 : Wk) (T Tb : Nat → Prop) : Prop where
  ne : a ≠ b
  off : ∀ v, Tb v → ¬ V s1 v
  on : ∀ v, T v → V s1 v
  via : ∀ v u, T v → Tb u → adj l v u → v = a
  only : (∀ v u, Tb v → V s1 u → adj l v u → v = b ∧ u = a) ↔ ¬ Go2 l a b
  test : g s2.wh a < g s2.lo b ↔ ¬ Go2 l a b
theorem Mid.two {n : Nat} {l : List Ed} {a fr p b : Nat} {s s1 s2 : Wk} {T M Tb : Nat → Prop} {E Eb : List Ed} (h : Mid n l a fr p s s1 T M E) (k : Pre n l a fr s) (hl : ∀ u, ¬ adj l u u) (hin : ∀ u v, adj l u v → v < n) (hb : adj l a b) (hv : ¬ V s1 b) (r : Mid n l b a p s1 s2 Tb (fun _ => True) Eb) : Two n l a b s1 s2 T Tb := by
  have hab : a ≠ b := fun q => by subst q; exact hl _ hb
  have hbn := hin a b hb
  have off : ∀ v, Tb v → ¬ V s1 v := fun v q => (r.new v q).2.1
  have on : ∀ v, T v → V s1 v := fun v q => (h.vis v).2 (.inr q)
  have va : V s1 a := on a h.ta
  have via : ∀ v u, T v → Tb u → adj l v u → v = a := fun v u hT hTb hadj => by
    apply Classical.byContradiction
    intro q
    have := h.clo v u hT hadj (hin _ _ hadj) fun e => absurd e q
    exact off u hTb ((h.vis u).2 this.symm)
  have ends : ∀ v u, Tb v → V s1 u → adj l v u → V s u ∨ u = a := fun v u hTb hV hadj => by
    rcases (h.vis u).1 hV with q | q
    · exact .inl q
    · exact .inr (via u v q hTb (adj_symm hadj))
  have wle : ∀ u, V s u ∨ u = a → g s1.wh u ≤ g s1.wh a := fun u q => by
    rcases q with q | q
    · have h1 := (h.old u q).1
      have h2 := k.le u (V.lt k.wl q)
      rw [h1, h.wa]; omega
    · subst q; exact Int.le_refl _
  have wa2 : g s2.wh a = g s1.wh a := (r.old a va).1
  have only : (∀ v u, Tb v → V s1 u → adj l v u → v = b ∧ u = a) ↔ ¬ Go2 l a b := by
    constructor
    · intro q hgo
      have hk : Tb a ↔ Tb b := Cn.keeps (S := Tb) (fun u v e => by
        have go1 : ∀ u v, Mn (adj l) a b u v → Tb u → Tb v := fun u v e hu => by
          rcases r.clo u v hu e.1 (hin _ _ e.1) (fun _ => trivial) with w | w
          · exact w
          · exact absurd (q u v hu w e.1) (fun w => e.2.2 ⟨w.1, w.2⟩)
        exact ⟨go1 u v e, go1 v u ⟨adj_symm e.1, fun w => e.2.2 ⟨w.2, w.1⟩, fun w => e.2.1 ⟨w.2, w.1⟩⟩⟩) hgo
      exact off a (hk.2 r.ta) va
    · intro hno v u hTb hV hadj
      apply Classical.byContradiction
      intro q
      apply hno
      have hvn : v < n := (r.new v hTb).1
      have c1 : Cn (In l (V s1)) a u := ((h.pre k hl hbn hb hv).bnd u v hV (adj_symm hadj) hvn (off v hTb)).2
      have c2 : Cn (Mn (adj l) a b) a u := In.mn (fun w => hv w.2) c1
      have c3 : Cn (Mn (adj l) a b) u v := .edge ⟨adj_symm hadj, fun w => q ⟨w.2, w.1⟩, fun w => hv (w.1 ▸ hV)⟩
      have c4 : Cn (Mn (adj l) a b) b v := In.mn (fun w => off a w.1 va) (r.con v hTb)
      exact .trans (.trans c2 c3) (.symm c4)
  refine ⟨hab, off, on, via, only, ?_⟩
  rw [← only]
  constructor
  · intro q v u hTb hV hadj
    apply Classical.byContradiction
    intro w
    have h1 := r.low2 v u hTb hadj (V.lt h.wl hV) (fun _ => trivial) hV w
    have h2 := wle u (ends v u hTb hV hadj)
    omega
  · intro q
    rcases r.low3 with w | ⟨v, u, h1, h2, _, h3, h4, _⟩
    · rw [w, r.wa, wa2]
      have := h.le a k.an
      omega
    · exact absurd (q v u h1 h3 h2) h4
theorem Mid.come {n : Nat} {l : List Ed} {a fr p b : Nat} {s s1 s2 : Wk} {T M : Nat → Prop} {E : List Ed} (h : Mid n l a fr p s s1 T M E) (k : Pre n l a fr s) (hl : ∀ u, ¬ adj l u u) (hin : ∀ u v, adj l u v → v < n) (hb : adj l a b) (hv : ¬ V s1 b) (hp : Post n l b a p s1 s2) :
    ∃ T' E', Mid n l a fr p s (tell a b (low a (g s2.lo b) s2)) T' (fun u => M u ∨ u = b) E' := by
  obtain ⟨Tb, Eb, r⟩ := hp
  have two := h.two k hl hin hb hv r
  have hal : a < s2.lo.length := by rw [r.ll]; exact k.an
  have hlo : g (low a (g s2.lo b) s2).lo a = min (g s2.lo a) (g s2.lo b) := low_lo hal
  have hlb : g (low a (g s2.lo b) s2).lo b = g s2.lo b := low_ne two.ne.symm
  obtain ⟨X, hX, hXm, hXn⟩ : ∃ X : List Ed, (tell a b (low a (g s2.lo b) s2)).ed = s2.ed ++ X ∧ (∀ e, e ∈ X ↔ e = ek a b ∧ ¬ Go2 l a b) ∧ X.Nodup := by
    by_cases q : g s2.wh a < g s2.lo b
    · refine ⟨[ek a b], ?_, fun e => ?_, by simp⟩
      · unfold tell; rw [if_pos (by rw [hlb]; exact q)]; rfl
      · simp [two.test.1 q]
    · refine ⟨[], ?_, fun e => ?_, by simp⟩
      · unfold tell; rw [if_neg (by rw [hlb]; exact q)]; simp [low]
      · simp; intro _; exact Classical.byContradiction fun w => q (two.test.2 w)
  have e1 : (tell a b (low a (g s2.lo b) s2)).wh = s2.wh := by unfold tell; split <;> rfl
  have e2 : (tell a b (low a (g s2.lo b) s2)).lo = (low a (g s2.lo b) s2).lo := by unfold tell; split <;> rfl
  have e3 : (tell a b (low a (g s2.lo b) s2)).pa = s2.pa := by unfold tell; split <;> rfl
  have e4 : (tell a b (low a (g s2.lo b) s2)).tm = s2.tm := by unfold tell; split <;> rfl
  generalize tell a b (low a (g s2.lo b) s2) = s4 at *
  have hne : ∀ v, V s v → v ≠ a := fun v hv e => k.av (e ▸ hv)
  have va : V s1 a := two.on a h.ta
  have vs : ∀ v, V s v → V s1 v := fun v q => (h.vis v).2 (.inl q)
  have wa2 : g s2.wh a = g s1.wh a := (r.old a va).1
  have la2 : g s2.lo a = g s1.lo a := (r.old a va).2.1
  have lb1 : g s2.lo b ≤ g s2.wh b := r.low1
  have tb : ∀ v, Tb v → ¬ T v := fun v q w => two.off v q (two.on v w)
  have l4 : g s4.lo a = min (g s1.lo a) (g s2.lo b) := by rw [e2, hlo, la2]
  refine ⟨fun v => T v ∨ Tb v, E ++ (Eb ++ X), { wl := by rw [e1, r.wl], ll := by rw [e2]; simp [low, r.ll], pl := by rw [e3, r.pl], le := fun v hv => by rw [e1, e4]; exact r.le v hv, ge := fun v hv => by rw [e1]; exact r.ge v hv, tm := by rw [e4]; have := h.tm; have := r.tm; omega, vis := fun v => ?_, old := fun v q => ?_, new := fun v q => ?_, ta := .inl h.ta, wa := by rw [e1, wa2, h.wa], con := fun v q => ?_, clo := fun v u q hadj hu hm => ?_, low1 := ?_, low2 := fun v u q hadj hu hm hV hn => ?_, low3 := ?_, ed := by rw [hX, r.ed, h.ed]; simp, edm := fun e he => ?_, edn := ?_, edb := fun c d hc hd hadj => ?_ }⟩
  · show 0 < g s4.wh v ↔ _
    rw [e1]
    have q1 := r.vis v
    have q2 := h.vis v
    unfold V at *
    rw [q1, q2]
    exact ⟨fun w => by rcases w with (w | w) | w; exact .inl w; exact .inr (.inl w); exact .inr (.inr w), fun w => by rcases w with w | w | w; exact .inl (.inl w); exact .inl (.inr w); exact .inr w⟩
  · have q1 := h.old v q
    have q2 := r.old v (vs v q)
    exact ⟨by rw [e1, q2.1, q1.1], by rw [e2, low_ne (hne v q), q2.2.1, q1.2.1], by rw [e3, q2.2.2, q1.2.2]⟩
  · rcases q with q | q
    · have q1 := h.new v q
      have q2 := r.old v (two.on v q)
      exact ⟨q1.1, q1.2.1, by rw [e1, q2.1]; exact q1.2.2.1, by rw [e3, q2.2.2]; exact q1.2.2.2⟩
    · have q1 := r.new v q
      have := h.tm
      exact ⟨q1.1, fun w => q1.2.1 (vs v w), by rw [e1]; have := q1.2.2.1; omega, by rw [e3]; exact q1.2.2.2⟩
  · rcases q with q | q
    · exact In.mono (fun v q => .inl q) (h.con v q)
    · exact .trans (.edge ⟨hb, .inl h.ta, .inr r.ta⟩) (In.mono (fun v q => .inr q) (r.con v q))
  · rcases q with q | q
    · by_cases hva : v = a
      · rcases hm hva with hm | hm
        · rcases h.clo v u q hadj hu (fun _ => hm) with w | w
          · exact .inl (.inl w)
          · exact .inr w
        · rw [hm]; exact .inl (.inr r.ta)
      · rcases h.clo v u q hadj hu (fun w => absurd w hva) with w | w
        · exact .inl (.inl w)
        · exact .inr w
    · rcases r.clo v u q hadj hu (fun _ => trivial) with w | w
      · exact .inl (.inr w)
      · rcases (h.vis u).1 w with w | w
        · exact .inr w
        · exact .inl (.inl w)
  · rw [l4, e1, wa2]
    have := h.low1
    omega
  · rw [l4]
    rcases q with q | q
    · by_cases hva : v = a
      · rcases hm hva with hm | hm
        · have := h.low2 v u q hadj hu (fun _ => hm) hV hn; omega
        · subst hm; exact absurd (vs _ hV) hv
      · have := h.low2 v u q hadj hu (fun w => absurd w hva) hV hn; omega
    · have h1 := r.low2 v u q hadj hu (fun _ => trivial) (vs u hV) (fun w => hne u hV w.2)
      rw [(h.old u hV).1] at h1
      omega
  · rw [l4, e1, wa2]
    by_cases hlt : g s2.lo b < g s1.lo a
    · have hla := h.low1
      rcases r.low3 with w | ⟨v, u, h1, h2, h3, h4, h5, h6⟩
      · rw [r.wa] at w
        have := h.le a k.an
        omega
      · rcases (h.vis u).1 h4 with w | w
        · refine .inr ⟨v, u, .inr h1, h2, h3, w, fun z => two.off v h1 (z.1 ▸ va), ?_⟩
          rw [← (h.old u w).1, ← h6]; omega
        · have : u = a := two.via u v w h1 (adj_symm h2)
          subst this
          omega
    · rw [show min (g s1.lo a) (g s2.lo b) = g s1.lo a by omega]
      rcases h.low3 with w | ⟨v, u, h1, h2⟩
      · exact .inl w
      · exact .inr ⟨v, u, .inl h1, h2⟩
  · simp only [List.mem_append] at he
    rcases he with he | he | he
    · obtain ⟨c, d, h1, h2, h3, h4⟩ := h.edm e he
      exact ⟨c, d, h1, .inl h2, .inl h3, h4⟩
    · obtain ⟨c, d, h1, h2, h3, h4⟩ := r.edm e he
      exact ⟨c, d, h1, .inr h2, .inr h3, h4⟩
    · exact ⟨a, b, ((hXm e).1 he).1, .inl h.ta, .inr r.ta, hb⟩
  · have d1 : ∀ e ∈ E, e ∉ Eb := fun e he hb' => by
      obtain ⟨c, d, h1, h2, h3, _⟩ := h.edm e he
      obtain ⟨c', d', h1', h2', h3', _⟩ := r.edm e hb'
      rcases ek_inj (h1.symm.trans h1') with ⟨q, _⟩ | ⟨q, _⟩
      · exact tb c' h2' (q ▸ h2)
      · exact tb d' h3' (q ▸ h2)
    have d2 : ∀ e ∈ E, e ∉ X := fun e he hx => by
      obtain ⟨c, d, h1, h2, h3, _⟩ := h.edm e he
      rcases ek_inj (h1.symm.trans ((hXm e).1 hx).1) with ⟨_, q⟩ | ⟨q, _⟩
      · exact tb b r.ta (q ▸ h3)
      · exact tb b r.ta (q ▸ h2)
    have d3 : ∀ e ∈ Eb, e ∉ X := fun e he hx => by
      obtain ⟨c, d, h1, h2, h3, _⟩ := r.edm e he
      rcases ek_inj (h1.symm.trans ((hXm e).1 hx).1) with ⟨q, _⟩ | ⟨_, q⟩
      · exact tb a (q ▸ h2) h.ta
      · exact tb a (q ▸ h3) h.ta
    rw [List.nodup_append]
    refine ⟨h.edn, ?_, fun e he e' he' q => ?_⟩
    · rw [List.nodup_append]
      exact ⟨r.edn, hXn, fun e he e' he' q => d3 e he (q ▸ he')⟩
    · subst q
      rcases List.mem_append.1 he' with w | w
      · exact d1 e he w
      · exact d2 e he w
  · have nE : ∀ c d, Tb d → ek c d ∉ E := fun c d hd hm => by
      obtain ⟨c', d', h1, h2, h3, _⟩ := h.edm _ hm
      rcases ek_inj h1 with ⟨_, q⟩ | ⟨_, q⟩
      · exact tb d hd (q ▸ h3)
      · exact tb d hd (q ▸ h2)
    have nB : ∀ c d, T c → ek c d ∉ Eb := fun c d hc hm => by
      obtain ⟨c', d', h1, h2, h3, _⟩ := r.edm _ hm
      rcases ek_inj h1 with ⟨q, _⟩ | ⟨q, _⟩
      · exact tb c' h2 (q ▸ hc)
      · exact tb d' h3 (q ▸ hc)
    have cross : ∀ d, Tb d → adj l a d → (ek a d ∈ E ++ (Eb ++ X) ↔ ¬ Go2 l a d) := fun d hd hadj => by
      have q1 := nE a d hd
      have q2 := nB a d h.ta
      simp only [List.mem_append, q1, q2, false_or, hXm]
      by_cases hdb : d = b
      · subst hdb; simp
      · have hgo : Go2 l a d := by
          have c1 : Cn (Mn (adj l) a d) a b := .edge ⟨hb, fun w => hdb w.2.symm, fun w => two.ne w.2.symm⟩
          exact .trans c1 (In.mn (fun w => tb a w.1 h.ta) (r.con d hd))
        constructor
        · rintro ⟨q, _⟩
          rcases ek_inj q with ⟨_, w⟩ | ⟨_, w⟩
          · exact absurd w hdb
          · exact absurd (w ▸ hd) (fun w => tb a w h.ta)
        · intro q; exact absurd hgo q
    rcases hc with hc | hc <;> rcases hd with hd | hd
    · have q2 := nB c d hc
      have q3 : ek c d ∉ X := fun hm => by
        rcases ek_inj ((hXm _).1 hm).1 with ⟨_, w⟩ | ⟨w, _⟩
        · exact tb b r.ta (w ▸ hd)
        · exact tb b r.ta (w ▸ hc)
      simp only [List.mem_append, q2, q3, or_false]
      exact h.edb c d hc hd hadj
    · obtain rfl := two.via c d hc hd hadj
      exact cross d hd hadj
    · obtain rfl := two.via d c hd hc (adj_symm hadj)
      rw [ek_comm, cross c hc (adj_symm hadj)]
      exact ⟨fun q w => q w.flip, fun q w => q w.flip⟩
    · have q1 := nE c d hd
      have q3 : ek c d ∉ X := fun hm => by
        rcases ek_inj ((hXm _).1 hm).1 with ⟨w, _⟩ | ⟨_, w⟩
        · exact tb a (w ▸ hc) h.ta
        · exact tb a (w ▸ hd) h.ta
      simp only [List.mem_append, q1, q3, or_false, false_or]
      exact r.edb c d hc hd hadj
end DF
end Go.Proofs.YtakjakglkfhaaaaDoor
