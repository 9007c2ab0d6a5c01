/-
  A walk through a graph, deeper and deeper: whole visits, and through all nodes. No program in sight.
-/
import Derived.Test.YtakjakglkfhaaaaDoorDf3
namespace Go.Proofs.YtakjakglkfhaaaaDoor
open Go
set_option linter.unusedVariables false
namespace DF
open PD (g adj Ed adj_symm g_set_self g_set_ne cnt cnt_lt cnt_le)

/-- Of each node those beside it. -/
def Bes (n : Nat) (l : List Ed) (N : Nat → List Nat) : Prop := ∀ v, v < n → ∀ x, x ∈ N v ↔ x < n ∧ adj l v x
/-- How many have not been come to. -/
def unv (n : Nat) (s : Wk) : Nat := cnt (fun v => decide (¬ 0 < g s.wh v)) n
theorem Mid.fewer {n : Nat} {l : List Ed} {a fr p : Nat} {s s' : Wk} {T M : Nat → Prop} {E : List Ed} (h : Mid n l a fr p s s' T M E) (k : Pre n l a fr s) : unv n s' + 1 ≤ unv n s := by
  refine cnt_lt (u := a) (fun i _ hi => ?_) k.an ?_ ?_
  · simp only [decide_eq_true_eq] at hi ⊢
    exact fun w => hi ((h.vis i).2 (.inl w))
  · simpa [V] using k.av
  · have := (h.vis a).2 (.inr h.ta)
    simpa [V] using this
theorem Mid.ends {n : Nat} {l : List Ed} {a fr p : Nat} {s : Wk} {q : Wk × Nat × Bool} {T M : Nat → Prop} {E : List Ed} (h : Mid n l a fr p s q.1 T M E) : Mid n l a fr p s (fin a fr q) T M E := by
  unfold fin
  split
  · exact { h with }
  · exact h
theorem Mid.more {n : Nat} {l : List Ed} {a fr p : Nat} {s s' : Wk} {T M M' : Nat → Prop} {E : List Ed} (h : Mid n l a fr p s s' T M E) (hm : ∀ u, u < n → adj l a u → M' u → M u) : Mid n l a fr p s s' T M' E :=
  { h with
    clo := fun v u hv hadj hu q => h.clo v u hv hadj hu fun e => hm u hu (e ▸ hadj) (q e)
    low2 := fun v u hv hadj hu q => h.low2 v u hv hadj hu fun e => hm u hu (e ▸ hadj) (q e) }
/-- One node beside it, by whatever visits. -/
theorem Mid.one {n : Nat} {l : List Ed} {a fr p b : Nat} {s : Wk} {q : Wk × Nat × Bool} {T M : Nat → Prop} {E : List Ed} {rec : Nat → Wk → Wk} (h : Mid n l a fr p s q.1 T M E) (k : Pre n l a fr s) (hl : ∀ u, ¬ adj l u u) (hin : ∀ u v, adj l u v → v < n) (hb : adj l a b) (hrec : ¬ V q.1 b → Post n l b a p q.1 (rec b q.1)) :
    ∃ T' E', Mid n l a fr p s (kid rec a fr q b).1 T' (fun u => M u ∨ u = b) E' := by
  unfold kid
  by_cases e : b = fr
  · rw [if_pos e]
    exact ⟨T, E, h.skip k hl hb e⟩
  · rw [if_neg e]
    by_cases hv : 0 < g q.1.wh b
    · rw [if_pos hv]
      exact ⟨T, E, h.seen k (hin _ _ hb) hb e hv⟩
    · rw [if_neg hv]
      exact h.come k hl hin hb hv (hrec hv)
theorem Mid.runs {n : Nat} {l : List Ed} {a fr p f : Nat} {s : Wk} {rec : Nat → Wk → Wk} (k : Pre n l a fr s) (hl : ∀ u, ¬ adj l u u) (hin : ∀ u v, adj l u v → v < n) (hf : unv n s ≤ f + 1) (hrec : ∀ b q, Pre n l b a q → unv n q ≤ f → Post n l b a p q (rec b q)) :
    ∀ (xs : List Nat) (M : Nat → Prop) (q : Wk × Nat × Bool), (∃ T E, Mid n l a fr p s q.1 T M E) → (∀ x, x ∈ xs → adj l a x) → ∃ T E, Mid n l a fr p s (xs.foldl (kid rec a fr) q).1 T (fun u => M u ∨ u ∈ xs) E
  | [], M, q, ⟨T, E, h⟩, _ => ⟨T, E, h.more (fun u _ _ w => by simpa using w)⟩
  | x :: xs, M, q, ⟨T, E, h⟩, hx => by
    have hb := hx x (List.mem_cons_self ..)
    have h1 := h.one (rec := rec) k hl hin hb (fun hv => hrec x q.1 (h.pre k hl (hin _ _ hb) hb hv) (by have := h.fewer k; omega))
    obtain ⟨T', E', h2⟩ := Mid.runs k hl hin hf hrec xs (fun u => M u ∨ u = x) (kid rec a fr q x) h1 (fun y hy => hx y (List.mem_cons_of_mem _ hy))
    refine ⟨T', E', h2.more fun u _ _ w => ?_⟩
    rcases w with w | w
    · exact .inl (.inl w)
    · rcases List.mem_cons.1 w with w | w
      · exact .inl (.inr w)
      · exact .inr w
theorem visit_post {n : Nat} {l : List Ed} {N : Nat → List Nat} (hN : Bes n l N) (hl : ∀ u, ¬ adj l u u) (hin : ∀ u v, adj l u v → v < n) (p : Nat) : ∀ (f a fr : Nat) (s : Wk), Pre n l a fr s → unv n s ≤ f → Post n l a fr p s (visit N p f a fr s)
  | 0, a, fr, s, k, hf => by
    have := (begun (p := p) k hl).fewer k
    omega
  | f + 1, a, fr, s, k, hf => by
    obtain ⟨T, E, h⟩ := Mid.runs k hl hin hf (fun b q hq hf => visit_post hN hl hin p f b a q hq hf) (N a) (fun _ => False) (start a p s, 0, false) ⟨_, _, begun k hl⟩ (fun x hx => ((hN a k.an x).1 hx).2)
    exact ⟨T, E, (h.more fun u hu hadj _ => .inr ((hN a k.an u).2 ⟨hu, hadj⟩)).ends⟩

/-! ### All nodes -/
def zero (n : Nat) : Wk := ⟨List.replicate n 0, List.replicate n 0, List.replicate n 0, 0, [], []⟩
def walked (N : Nat → List Nat) (n : Nat) : Nat → Wk
  | 0 => zero n
  | k + 1 => if g (walked N n k).wh k = 0 then visit N k n k k (walked N n k) else walked N n k
structure All (n : Nat) (l : List Ed) (k : Nat) (s : Wk) : Prop extends Ok n s where
  all : ∀ v, v < k → v < n → V s v
  clo : ∀ u v, V s u → adj l u v → V s v
  pa : ∀ v, V s v → ∃ r : Nat, g s.pa v = (r : Int) ∧ r ≤ v ∧ Cn (adj l) r v
  pe : ∀ u v, V s u → adj l u v → g s.pa u = g s.pa v
  edm : ∀ e ∈ s.ed, ∃ c d, e = ek c d ∧ V s c ∧ V s d ∧ adj l c d
  edn : s.ed.Nodup
  edb : ∀ c d, V s c → V s d → adj l c d → (ek c d ∈ s.ed ↔ ¬ Go2 l c d)
theorem g_zero (n v : Nat) : g (List.replicate n 0) v ≤ 0 ∧ (v < n → g (List.replicate n 0) v = 0) := by
  unfold g
  rw [List.getD_eq_getElem?_getD, List.getElem?_replicate]
  split
  · simp
  · simp; omega
theorem All.start (n : Nat) (l : List Ed) : All n l 0 (zero n) := by
  have hv : ∀ v, ¬ V (zero n) v := fun v h => by have := (g_zero n v).1; unfold V zero at h; simp only at h; omega
  exact { wl := by simp [zero], ll := by simp [zero], pl := by simp [zero], le := fun v _ => (g_zero n v).1, ge := fun v h => by rw [show g (zero n).wh v = 0 from (g_zero n v).2 h]; exact Int.le_refl _, all := fun v h => absurd h (Nat.not_lt_zero _), clo := fun u v h => absurd h (hv u), pa := fun v h => absurd h (hv v), pe := fun u v h => absurd h (hv u), edm := fun e he => by simp [zero] at he, edn := by simp [zero], edb := fun c d h => absurd h (hv c) }
theorem All.pre {n : Nat} {l : List Ed} {k : Nat} {s : Wk} (h : All n l k s) (hk : k < n) (h0 : ¬ V s k) : Pre n l k k s :=
  { wl := h.wl, ll := h.ll, pl := h.pl, le := h.le, ge := h.ge, an := hk, av := h0, fr1 := fun q => absurd rfl q, bnd := fun u v hu hadj _ hv => absurd (h.clo u v hu hadj) hv }
theorem All.step {n : Nat} {l : List Ed} {k : Nat} {s s' : Wk} (h : All n l k s) (hk : k < n) (h0 : ¬ V s k) (hin : ∀ u v, adj l u v → v < n) (hp : Post n l k k k s s') : All n l (k + 1) s' := by
  obtain ⟨T, E, r⟩ := hp
  have nT : ∀ v, T v → ¬ V s v := fun v q => (r.new v q).2.1
  have cT : ∀ u v, T u → adj l u v → T v := fun u v q hadj => by
    rcases r.clo u v q hadj (hin _ _ hadj) (fun _ => trivial) with w | w
    · exact w
    · exact absurd (h.clo v u w (adj_symm hadj)) (nT u q)
  have tV : ∀ v, T v → V s' v := fun v q => (r.vis v).2 (.inr q)
  have sV : ∀ v, V s v → V s' v := fun v q => (r.vis v).2 (.inl q)
  refine { r.toOk with all := fun v hv hn => ?_, clo := fun u v hu hadj => ?_, pa := fun v hv => ?_, pe := fun u v hu hadj => ?_, edm := fun e he => ?_, edn := ?_, edb := fun c d hc hd hadj => ?_ }
  · by_cases e : v = k
    · subst e; exact tV _ r.ta
    · exact sV v (h.all v (by omega) hn)
  · rcases (r.vis u).1 hu with q | q
    · exact sV v (h.clo u v q hadj)
    · exact tV v (cT u v q hadj)
  · rcases (r.vis v).1 hv with q | q
    · rw [(r.old v q).2.2]; exact h.pa v q
    · refine ⟨k, (r.new v q).2.2.2, ?_, (r.con v q).mono fun _ _ e => e.1⟩
      apply Classical.byContradiction
      intro w
      exact nT v q (h.all v (by omega) (r.new v q).1)
  · rcases (r.vis u).1 hu with q | q
    · rw [(r.old u q).2.2, (r.old v (h.clo u v q hadj)).2.2]; exact h.pe u v q hadj
    · rw [(r.new u q).2.2.2, (r.new v (cT u v q hadj)).2.2.2]
  · rw [r.ed] at he
    rcases List.mem_append.1 he with he | he
    · obtain ⟨c, d, h1, h2, h3, h4⟩ := h.edm e he
      exact ⟨c, d, h1, sV c h2, sV d h3, h4⟩
    · obtain ⟨c, d, h1, h2, h3, h4⟩ := r.edm e he
      exact ⟨c, d, h1, tV c h2, tV d h3, h4⟩
  · rw [r.ed, List.nodup_append]
    refine ⟨h.edn, r.edn, fun e he e' he' q => ?_⟩
    subst q
    obtain ⟨c, d, h1, h2, h3, _⟩ := h.edm _ he
    obtain ⟨c', d', h1', h2', h3', _⟩ := r.edm _ he'
    rcases ek_inj (h1.symm.trans h1') with ⟨q, _⟩ | ⟨q, _⟩
    · exact nT c' h2' (q ▸ h2)
    · exact nT d' h3' (q ▸ h2)
  · have nE : ∀ c d, V s c → ek c d ∉ E := fun c d hc hm => by
      obtain ⟨c', d', h1, h2, h3, _⟩ := r.edm _ hm
      rcases ek_inj h1 with ⟨q, _⟩ | ⟨q, _⟩
      · exact nT c' h2 (q ▸ hc)
      · exact nT d' h3 (q ▸ hc)
    have nS : ∀ c d, T c → ek c d ∉ s.ed := fun c d hc hm => by
      obtain ⟨c', d', h1, h2, h3, _⟩ := h.edm _ hm
      rcases ek_inj h1 with ⟨q, _⟩ | ⟨q, _⟩
      · exact nT c hc (q ▸ h2)
      · exact nT c hc (q ▸ h3)
    rw [r.ed, List.mem_append]
    rcases (r.vis c).1 hc with q | q
    · have w := nE c d q
      simp only [w, or_false]
      exact h.edb c d q (h.clo c d q hadj) hadj
    · have w := nS c d q
      simp only [w, false_or]
      exact r.edb c d q (cT c d q hadj) hadj
theorem walked_all {n : Nat} {l : List Ed} {N : Nat → List Nat} (hN : Bes n l N) (hl : ∀ u, ¬ adj l u u) (hin : ∀ u v, adj l u v → v < n) : ∀ k, k ≤ n → All n l k (walked N n k)
  | 0, _ => All.start n l
  | k + 1, hk => by
    have h := walked_all hN hl hin k (by omega)
    unfold walked
    by_cases h0 : g (walked N n k).wh k = 0
    · rw [if_pos h0]
      have hv : ¬ V (walked N n k) k := by unfold V; omega
      exact h.step (by omega) hv hin (visit_post hN hl hin k n k k _ (h.pre (by omega) hv) (cnt_le _ _))
    · rw [if_neg h0]
      have hv : V (walked N n k) k := by have := h.ge k (by omega); unfold V; omega
      exact { h with all := fun v q hn => by by_cases e : v = k; (· subst e; exact hv); (· exact h.all v (by omega) hn) }
end DF
end Go.Proofs.YtakjakglkfhaaaaDoor
