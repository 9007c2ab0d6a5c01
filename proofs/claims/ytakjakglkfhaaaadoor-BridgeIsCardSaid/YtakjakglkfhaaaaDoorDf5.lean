/-
  A walk through a graph, deeper and deeper: how far it has come at each node beside; how much it has told. No program in sight.
-/
import Derived.Test.YtakjakglkfhaaaaDoorDf4
namespace Go.Proofs.YtakjakglkfhaaaaDoor
open Go
set_option linter.unusedVariables false
namespace DF
open PD (g adj Ed adj_symm g_set_self g_set_ne cnt cnt_lt cnt_le)

/-- How much it has told, at most. -/
structure Bd (n ke kj : Nat) (s : Wk) : Prop where
  un : s.tm + unv n s ≤ n
  ed : s.ed.length + ke ≤ s.tm
  jo : s.jo.length + kj ≤ s.tm
theorem Bd.begun {n ke kj a fr p : Nat} {l : List Ed} {s : Wk} (h : Bd n ke kj s) (k : Pre n l a fr s) (hl : ∀ u, ¬ adj l u u) : Bd n (ke + 1) (kj + 1) (start a p s) := by
  have h1 := (DF.begun (p := p) k hl).fewer k
  have := h.un
  have := h.ed
  have := h.jo
  refine ⟨?_, ?_, ?_⟩
  · show s.tm + 1 + unv n (start a p s) ≤ n
    omega
  · show s.ed.length + (ke + 1) ≤ s.tm + 1
    omega
  · show s.jo.length + (kj + 1) ≤ s.tm + 1
    omega
theorem unv_tell (n a b : Nat) (s : Wk) : unv n (tell a b s) = unv n s := by
  unfold tell
  split <;> rfl
theorem Bd.one {n ke kj a fr b : Nat} {q : Wk × Nat × Bool} {rec : Nat → Wk → Wk} (h : Bd n ke kj q.1) (hr : b ≠ fr → ¬ V q.1 b → Bd n (ke + 1) kj (rec b q.1)) : Bd n ke kj (kid rec a fr q b).1 ∧ (kid rec a fr q b).2.1 ≤ q.2.1 + 1 := by
  unfold kid
  by_cases e : b = fr
  · rw [if_pos e]; exact ⟨h, by omega⟩
  · rw [if_neg e]
    by_cases hv : 0 < g q.1.wh b
    · rw [if_pos hv]
      exact ⟨⟨h.un, h.ed, h.jo⟩, by simp⟩
    · rw [if_neg hv]
      have r := hr e hv
      refine ⟨⟨?_, ?_, ?_⟩, Nat.le_refl _⟩
      · simp only [unv_tell]
        have := r.un
        unfold tell
        split <;> exact this
      · have := r.ed
        simp only [tell]
        split
        · simp only [low, List.length_append, List.length_singleton]; omega
        · simp only [low]; omega
      · have := r.jo
        simp only [tell]
        split <;> exact this
theorem Bd.runs {n : Nat} {l : List Ed} {a fr p f ke kj : Nat} {s : Wk} {rec : Nat → Wk → Wk} (k : Pre n l a fr s) (hl : ∀ u, ¬ adj l u u) (hin : ∀ u v, adj l u v → v < n) (hf : unv n s ≤ f + 1) (hrec : ∀ b q, Pre n l b a q → unv n q ≤ f → Post n l b a p q (rec b q))
    (hbd : ∀ b q, Pre n l b a q → unv n q ≤ f → Bd n ke kj q → Bd n (ke + 1) kj (rec b q)) :
    ∀ (xs : List Nat) (M : Nat → Prop) (q : Wk × Nat × Bool), (∃ T E, Mid n l a fr p s q.1 T M E) → Bd n ke kj q.1 → (∀ x, x ∈ xs → adj l a x) → Bd n ke kj (xs.foldl (kid rec a fr) q).1 ∧ (xs.foldl (kid rec a fr) q).2.1 ≤ q.2.1 + xs.length
  | [], M, q, _, hb, _ => ⟨hb, Nat.le_refl _⟩
  | x :: xs, M, q, ⟨T, E, h⟩, hb, hx => by
    have hadj := hx x (List.mem_cons_self ..)
    have h1 := h.one (rec := rec) k hl hin hadj (fun hv => hrec x q.1 (h.pre k hl (hin _ _ hadj) hadj hv) (by have := h.fewer k; omega))
    have h2 := hb.one (a := a) (fr := fr) (b := x) (rec := rec) fun _ hv => hbd x q.1 (h.pre k hl (hin _ _ hadj) hadj hv) (by have := h.fewer k; omega) hb
    have h3 := Bd.runs k hl hin hf hrec hbd xs (fun u => M u ∨ u = x) (kid rec a fr q x) h1 h2.1 (fun y hy => hx y (List.mem_cons_of_mem _ hy))
    refine ⟨h3.1, ?_⟩
    have := h3.2
    have := h2.2
    rw [List.foldl_cons, List.length_cons]
    omega
/-- As far as the walk has come at a node: i of those beside it are done. -/
def qa (N : Nat → List Nat) (p f a fr : Nat) (s : Wk) (i : Nat) : Wk × Nat × Bool := ((N a).take i).foldl (kid (fun b s => visit N p f b a s) a fr) (start a p s, 0, false)
theorem qa_zero (N : Nat → List Nat) (p f a fr : Nat) (s : Wk) : qa N p f a fr s 0 = (start a p s, 0, false) := by simp [qa]
theorem qa_succ {N : Nat → List Nat} {p f a fr i b : Nat} {s : Wk} (h : (N a)[i]? = some b) : qa N p f a fr s (i + 1) = kid (fun b s => visit N p f b a s) a fr (qa N p f a fr s i) b := by
  unfold qa
  rw [List.take_add_one, h, List.foldl_append]
  rfl
theorem qa_all (N : Nat → List Nat) (p f a fr : Nat) (s : Wk) : visit N p (f + 1) a fr s = fin a fr (qa N p f a fr s (N a).length) := by
  unfold qa
  rw [List.take_length]
  rfl
theorem fin_bd {n ke kj a fr : Nat} {q : Wk × Nat × Bool} (h : Bd n ke (kj + 1) q.1) : Bd n ke kj (fin a fr q) := by
  unfold fin
  split
  · exact ⟨h.un, h.ed, by have := h.jo; simp only [List.length_append, List.length_singleton]; omega⟩
  · exact ⟨h.un, h.ed, by have := h.jo; omega⟩
theorem visit_bd {n : Nat} {l : List Ed} {N : Nat → List Nat} (hN : Bes n l N) (hl : ∀ u, ¬ adj l u u) (hin : ∀ u v, adj l u v → v < n) (p : Nat) : ∀ (f a fr ke kj : Nat) (s : Wk), Pre n l a fr s → unv n s ≤ f → Bd n ke kj s → Bd n (ke + 1) kj (visit N p f a fr s)
  | 0, a, fr, ke, kj, s, k, hf, hb => by
    have := (begun (p := p) k hl).fewer k
    omega
  | f + 1, a, fr, ke, kj, s, k, hf, hb => by
    have h := Bd.runs (ke := ke + 1) (kj := kj + 1) k hl hin hf (fun b q hq hf => visit_post hN hl hin p f b a q hq hf) (fun b q hq hf hb => visit_bd hN hl hin p f b a _ _ q hq hf hb) (N a) (fun _ => False) (start a p s, 0, false) ⟨_, _, begun k hl⟩ (hb.begun k hl) (fun x hx => ((hN a k.an x).1 hx).2)
    exact fin_bd h.1
/-- What is known at each node beside. -/
structure At (n : Nat) (l : List Ed) (a fr f ke kj : Nat) (s : Wk) (i : Nat) (q : Wk × Nat × Bool) : Prop where
  ok : Ok n q.1
  bd : Bd n (ke + 1) (kj + 1) q.1
  kids : q.2.1 ≤ i
  pre : ∀ b, adj l a b → ¬ V q.1 b → Pre n l b a q.1 ∧ unv n q.1 ≤ f
theorem qa_at {n : Nat} {l : List Ed} {N : Nat → List Nat} {p f a fr ke kj : Nat} {s : Wk} (hN : Bes n l N) (hl : ∀ u, ¬ adj l u u) (hin : ∀ u v, adj l u v → v < n) (k : Pre n l a fr s) (hf : unv n s ≤ f + 1) (hb : Bd n ke kj s) (i : Nat) : At n l a fr f ke kj s i (qa N p f a fr s i) := by
  have hx : ∀ x, x ∈ (N a).take i → adj l a x := fun x hx => ((hN a k.an x).1 (List.mem_of_mem_take hx)).2
  have hr : ∀ b q, Pre n l b a q → unv n q ≤ f → Post n l b a p q (visit N p f b a q) := fun b q hq hf => visit_post hN hl hin p f b a q hq hf
  obtain ⟨T, E, h⟩ := Mid.runs (rec := fun b s => visit N p f b a s) k hl hin hf hr ((N a).take i) (fun _ => False) (start a p s, 0, false) ⟨_, _, begun k hl⟩ hx
  have h2 := Bd.runs (rec := fun b s => visit N p f b a s) (ke := ke + 1) (kj := kj + 1) k hl hin hf hr (fun b q hq hf hb => visit_bd hN hl hin p f b a _ _ q hq hf hb) ((N a).take i) (fun _ => False) (start a p s, 0, false) ⟨_, _, begun k hl⟩ (hb.begun k hl) hx
  refine ⟨h.toOk, h2.1, ?_, fun b hadj hv => ⟨h.pre k hl (hin _ _ hadj) hadj hv, ?_⟩⟩
  · have := h2.2
    simp only [Nat.zero_add] at this
    exact Nat.le_trans this (by rw [List.length_take]; omega)
  · have := h.fewer k
    show unv n (qa N p f a fr s i).1 ≤ f
    unfold qa
    omega
theorem zero_bd (n : Nat) : Bd n 0 0 (zero n) := ⟨by have : unv n (zero n) ≤ n := cnt_le _ _; simp [zero] at this ⊢; exact this, Nat.le_refl _, Nat.le_refl _⟩
theorem walked_bd {n : Nat} {l : List Ed} {N : Nat → List Nat} (hN : Bes n l N) (hl : ∀ u, ¬ adj l u u) (hin : ∀ u v, adj l u v → v < n) : ∀ k, k ≤ n → Bd n 0 0 (walked N n k)
  | 0, _ => zero_bd n
  | k + 1, hk => by
    have h := walked_bd hN hl hin k (by omega)
    unfold walked
    by_cases h0 : g (walked N n k).wh k = 0
    · rw [if_pos h0]
      have hv : ¬ V (walked N n k) k := by unfold V; omega
      have := visit_bd hN hl hin k n k k 0 0 _ ((walked_all hN hl hin k (by omega)).pre (by omega) hv) (cnt_le _ _) h
      exact ⟨this.un, by have := this.ed; omega, this.jo⟩
    · rw [if_neg h0]; exact h
end DF
end Go.Proofs.YtakjakglkfhaaaaDoor
