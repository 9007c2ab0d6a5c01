/-
  A walk through a graph, deeper and deeper (bridge.walker), in plain Lean: the model. No program in sight.
-/
import Derived.Test.YtakjakglkfhaaaaDoorPd
namespace Go.Proofs.YtakjakglkfhaaaaDoor
open Go
set_option linter.unusedVariables false
namespace DF
open PD (g adj Ed adj_symm g_set_self g_set_ne)

/-- Joined by E. -/
inductive Cn (E : Nat → Nat → Prop) : Nat → Nat → Prop
  | refl (x : Nat) : Cn E x x
  | edge {x y : Nat} : E x y → Cn E x y
  | symm {x y : Nat} : Cn E x y → Cn E y x
  | trans {x y z : Nat} : Cn E x y → Cn E y z → Cn E x z
theorem Cn.mono {E F : Nat → Nat → Prop} (h : ∀ u v, E u v → F u v) {x y : Nat} (c : Cn E x y) : Cn F x y := by
  induction c with
  | refl x => exact .refl x
  | edge e => exact .edge (h _ _ e)
  | symm _ ih => exact .symm ih
  | trans _ _ i1 i2 => exact .trans i1 i2
theorem Cn.keeps {E : Nat → Nat → Prop} {S : Nat → Prop} (h : ∀ u v, E u v → (S u ↔ S v)) {x y : Nat} (c : Cn E x y) : S x ↔ S y := by
  induction c with
  | refl x => exact Iff.rfl
  | edge e => exact h _ _ e
  | symm _ ih => exact ih.symm
  | trans _ _ i1 i2 => exact i1.trans i2
/-- E without the edge between c and d. -/
def Mn (E : Nat → Nat → Prop) (c d u v : Nat) : Prop := E u v ∧ ¬ (u = c ∧ v = d) ∧ ¬ (u = d ∧ v = c)
theorem Mn.flip {E : Nat → Nat → Prop} {c d u v : Nat} (h : Mn E c d u v) : Mn E d c u v := ⟨h.1, h.2.2, h.2.1⟩
/-- The edges of l within S. -/
def In (l : List Ed) (S : Nat → Prop) (u v : Nat) : Prop := adj l u v ∧ S u ∧ S v
theorem In.mn {l : List Ed} {S : Nat → Prop} {c d : Nat} (h : ¬ (S c ∧ S d)) {x y : Nat} (k : Cn (In l S) x y) : Cn (Mn (adj l) c d) x y :=
  k.mono fun u v e => ⟨e.1, fun q => by obtain ⟨rfl, rfl⟩ := q; exact h e.2, fun q => by obtain ⟨rfl, rfl⟩ := q; exact h e.2.symm⟩
theorem In.mono {l : List Ed} {S S' : Nat → Prop} (h : ∀ v, S v → S' v) {x y : Nat} (k : Cn (In l S) x y) : Cn (In l S') x y :=
  k.mono fun u v e => ⟨e.1, h _ e.2.1, h _ e.2.2⟩
/-- Without the edge between c and d there is a way between them. -/
def Go2 (l : List Ed) (c d : Nat) : Prop := Cn (Mn (adj l) c d) c d
theorem Go2.flip {l : List Ed} {c d : Nat} (h : Go2 l c d) : Go2 l d c := (Cn.symm h).mono fun _ _ e => e.flip
def ek (c d : Nat) : Ed := (((min c d : Nat) : Int), ((max c d : Nat) : Int))
theorem ek_comm (c d : Nat) : ek c d = ek d c := by unfold ek; rw [Nat.min_comm, Nat.max_comm]
theorem ek_inj {c d x y : Nat} (h : ek c d = ek x y) : (c = x ∧ d = y) ∨ (c = y ∧ d = x) := by
  unfold ek at h; injection h with h1 h2; omega

structure Wk where
  wh : List Int
  lo : List Int
  pa : List Int
  tm : Nat
  ed : List Ed
  jo : List Nat
def start (a p : Nat) (s : Wk) : Wk := { s with tm := s.tm + 1, wh := s.wh.set a ((s.tm + 1 : Nat) : Int), lo := s.lo.set a ((s.tm + 1 : Nat) : Int), pa := s.pa.set a (p : Int) }
def low (a : Nat) (x : Int) (s : Wk) : Wk := { s with lo := s.lo.set a (min (g s.lo a) x) }
def tell (a b : Nat) (s : Wk) : Wk := if g s.wh a < g s.lo b then { s with ed := s.ed ++ [ek a b] } else s
def kid (rec : Nat → Wk → Wk) (a fr : Nat) (q : Wk × Nat × Bool) (b : Nat) : Wk × Nat × Bool :=
  if b = fr then q
  else if 0 < g q.1.wh b then (low a (g q.1.wh b) q.1, q.2)
  else
    let s := rec b q.1
    let s := low a (g s.lo b) s
    (tell a b s, q.2.1 + 1, q.2.2 || decide (g s.wh a ≤ g s.lo b))
def fin (a fr : Nat) (q : Wk × Nat × Bool) : Wk := if (fr ≠ a ∧ q.2.2 = true) ∨ (fr = a ∧ 1 < q.2.1) then { q.1 with jo := q.1.jo ++ [a] } else q.1
def visit (N : Nat → List Nat) (p : Nat) : Nat → Nat → Nat → Wk → Wk
  | 0, _, _, s => s
  | f + 1, a, fr, s => fin a fr ((N a).foldl (kid (fun b s => visit N p f b a s) a fr) (start a p s, 0, false))

/-! ### What a visit does -/
structure Ok (n : Nat) (s : Wk) : Prop where
  wl : s.wh.length = n
  ll : s.lo.length = n
  pl : s.pa.length = n
  le : ∀ v, v < n → g s.wh v ≤ (s.tm : Int)
  ge : ∀ v, v < n → 0 ≤ g s.wh v
def V (s : Wk) (v : Nat) : Prop := 0 < g s.wh v
/-- It may be begun. -/
structure Pre (n : Nat) (l : List Ed) (a fr : Nat) (s : Wk) : Prop extends Ok n s where
  an : a < n
  av : ¬ V s a
  fr1 : fr ≠ a → V s fr ∧ adj l fr a
  bnd : ∀ u v, V s u → adj l u v → v < n → ¬ V s v → fr ≠ a ∧ Cn (In l (V s)) fr u
/-- As far as it has come: through the nodes of T; of those beside a itself M are done. -/
structure Mid (n : Nat) (l : List Ed) (a fr p : Nat) (s s' : Wk) (T M : Nat → Prop) (E : List Ed) : Prop extends Ok n s' where
  tm : s.tm + 1 ≤ s'.tm
  vis : ∀ v, V s' v ↔ V s v ∨ T v
  old : ∀ v, V s v → g s'.wh v = g s.wh v ∧ g s'.lo v = g s.lo v ∧ g s'.pa v = g s.pa v
  new : ∀ v, T v → v < n ∧ ¬ V s v ∧ ((s.tm + 1 : Nat) : Int) ≤ g s'.wh v ∧ g s'.pa v = (p : Int)
  ta : T a
  wa : g s'.wh a = ((s.tm + 1 : Nat) : Int)
  con : ∀ v, T v → Cn (In l T) a v
  clo : ∀ v u, T v → adj l v u → u < n → (v = a → M u) → T u ∨ V s u
  low1 : g s'.lo a ≤ g s'.wh a
  low2 : ∀ v u, T v → adj l v u → u < n → (v = a → M u) → V s u → ¬ (v = a ∧ u = fr) → g s'.lo a ≤ g s.wh u
  low3 : g s'.lo a = g s'.wh a ∨ ∃ v u, T v ∧ adj l v u ∧ u < n ∧ V s u ∧ ¬ (v = a ∧ u = fr) ∧ g s'.lo a = g s.wh u
  ed : s'.ed = s.ed ++ E
  edm : ∀ e ∈ E, ∃ c d, e = ek c d ∧ T c ∧ T d ∧ adj l c d
  edn : E.Nodup
  edb : ∀ c d, T c → T d → adj l c d → (ek c d ∈ E ↔ ¬ Go2 l c d)
def Post (n : Nat) (l : List Ed) (a fr p : Nat) (s s' : Wk) : Prop := ∃ T E, Mid n l a fr p s s' T (fun _ => True) E

theorem V.lt {n : Nat} {s : Wk} (h : s.wh.length = n) {v : Nat} (k : V s v) : v < n := by
  by_cases hv : v < n
  · exact hv
  · have : g s.wh v = -1 := by unfold g; rw [List.getD_eq_getElem?_getD, List.getElem?_eq_none (by omega)]; rfl
    unfold V at k; omega
theorem begun {n : Nat} {l : List Ed} {a fr p : Nat} {s : Wk} (h : Pre n l a fr s) (hl : ∀ u, ¬ adj l u u) : Mid n l a fr p s (start a p s) (fun v => v = a) (fun _ => False) [] := by
  have wa : g (start a p s).wh a = ((s.tm + 1 : Nat) : Int) := g_set_self (by rw [h.wl]; exact h.an)
  have wn : ∀ v, v ≠ a → g (start a p s).wh v = g s.wh v := fun v hv => g_set_ne (Ne.symm hv)
  have la : g (start a p s).lo a = ((s.tm + 1 : Nat) : Int) := g_set_self (by rw [h.ll]; exact h.an)
  have ln : ∀ v, v ≠ a → g (start a p s).lo v = g s.lo v := fun v hv => g_set_ne (Ne.symm hv)
  have pa' : g (start a p s).pa a = (p : Int) := g_set_self (by rw [h.pl]; exact h.an)
  have pn : ∀ v, v ≠ a → g (start a p s).pa v = g s.pa v := fun v hv => g_set_ne (Ne.symm hv)
  have hne : ∀ v, V s v → v ≠ a := fun v hv e => h.av (e ▸ hv)
  refine { wl := by simp [start, h.wl], ll := by simp [start, h.ll], pl := by simp [start, h.pl], le := fun v hv => ?_, ge := fun v hv => ?_, tm := Nat.le_refl _, vis := fun v => ?_, old := fun v hv => ⟨wn v (hne v hv), ln v (hne v hv), pn v (hne v hv)⟩, new := fun v hv => ?_, ta := rfl, wa := wa, con := fun v hv => by subst hv; exact .refl _, clo := fun v u hv hadj hu hm => absurd (hm hv) id, low1 := by rw [la, wa]; exact Int.le_refl _, low2 := fun v u hv _ _ hm => absurd (hm hv) id, low3 := .inl (by rw [la, wa]), ed := by simp [start], edm := fun e he => by simp at he, edn := List.nodup_nil, edb := fun c d hc hd hadj => ?_ }
  · by_cases e : v = a
    · subst e; rw [wa]; simp [start]
    · rw [wn v e]; have := h.le v hv; simp [start]; omega
  · by_cases e : v = a
    · subst e; rw [wa]; omega
    · rw [wn v e]; exact h.ge v hv
  · by_cases e : v = a
    · subst e; simp [V, wa]
    · simp [V, wn v e, e]
  · subst hv; exact ⟨h.an, h.av, by rw [wa]; exact Int.le_refl _, pa'⟩
  · subst hc; subst hd; exact absurd hadj (hl _)
end DF
end Go.Proofs.YtakjakglkfhaaaaDoor
