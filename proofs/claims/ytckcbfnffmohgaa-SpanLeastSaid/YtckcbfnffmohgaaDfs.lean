/-
  A walk through a graph, deeper and deeper (bridge.walker), in plain Lean: the model. No program in sight.
  A walk through a graph, deeper and deeper: one node beside it is done. No program in sight.
  A walk through a graph, deeper and deeper: one node beside it is come to. No program in sight.
  A walk through a graph, deeper and deeper: whole visits, and through all nodes. No program in sight.
  A walk through a graph, deeper and deeper: how far it has come at each node beside; how much it has told. No program in sight.
  One edge more, no other bridge, in plain Lean. No program in sight.
  A walk through a graph, deeper and deeper: the joints that it tells. No program in sight.
-/
import Derived.Test.YtckcbfnffmohgaaPd
namespace Go.Proofs.Ytckcbfnffmohgaa
open Go
set_option linter.unusedVariables false
namespace DF
open PD (g adj Ed adj_symm g_set_self g_set_ne)

/-- Joined by E. -/
inductive Cn (E : Nat → Nat → Prop) : Nat → Nat → Prop
  | refl (x : Nat) : Cn E x x
  | edge {x y : Nat} : E x y → Cn E x y
  | symm {x y : Nat} : Cn E x y → Cn E y x
  | trans {x y z : Nat} : Cn E x y → Cn E y z → Cn E x z
theorem Cn.mono {E F : Nat → Nat → Prop} (h : ∀ u v, E u v → F u v) {x y : Nat} (c : Cn E x y) : Cn F x y := by
  induction c with
  | refl x => exact .refl x
  | edge e => exact .edge (h _ _ e)
  | symm _ ih => exact .symm ih
  | trans _ _ i1 i2 => exact .trans i1 i2
theorem Cn.keeps {E : Nat → Nat → Prop} {S : Nat → Prop} (h : ∀ u v, E u v → (S u ↔ S v)) {x y : Nat} (c : Cn E x y) : S x ↔ S y := by
  induction c with
  | refl x => exact Iff.rfl
  | edge e => exact h _ _ e
  | symm _ ih => exact ih.symm
  | trans _ _ i1 i2 => exact i1.trans i2
/-- E without the edge between c and d. -/
def Mn (E : Nat → Nat → Prop) (c d u v : Nat) : Prop := E u v ∧ ¬ (u = c ∧ v = d) ∧ ¬ (u = d ∧ v = c)
theorem Mn.flip {E : Nat → Nat → Prop} {c d u v : Nat} (h : Mn E c d u v) : Mn E d c u v := ⟨h.1, h.2.2, h.2.1⟩
/-- The edges of l within S. -/
def In (l : List Ed) (S : Nat → Prop) (u v : Nat) : Prop := adj l u v ∧ S u ∧ S v
theorem In.mn {l : List Ed} {S : Nat → Prop} {c d : Nat} (h : ¬ (S c ∧ S d)) {x y : Nat} (k : Cn (In l S) x y) : Cn (Mn (adj l) c d) x y :=
  k.mono fun u v e => ⟨e.1, fun q => by obtain ⟨rfl, rfl⟩ := q; exact h e.2, fun q => by obtain ⟨rfl, rfl⟩ := q; exact h e.2.symm⟩
theorem In.mono {l : List Ed} {S S' : Nat → Prop} (h : ∀ v, S v → S' v) {x y : Nat} (k : Cn (In l S) x y) : Cn (In l S') x y :=
  k.mono fun u v e => ⟨e.1, h _ e.2.1, h _ e.2.2⟩
/-- Without the edge between c and d there is a way between them. -/
def Go2 (l : List Ed) (c d : Nat) : Prop := Cn (Mn (adj l) c d) c d
theorem Go2.flip {l : List Ed} {c d : Nat} (h : Go2 l c d) : Go2 l d c := (Cn.symm h).mono fun _ _ e => e.flip
def ek (c d : Nat) : Ed := (((min c d : Nat) : Int), ((max c d : Nat) : Int))
theorem ek_comm (c d : Nat) : ek c d = ek d c := by unfold ek; rw [Nat.min_comm, Nat.max_comm]
theorem ek_inj {c d x y : Nat} (h : ek c d = ek x y) : (c = x ∧ d = y) ∨ (c = y ∧ d = x) := by
  unfold ek at h; injection h with h1 h2; omega

structure Wk where
  wh : List Int
  lo : List Int
  pa : List Int
  tm : Nat
  ed : List Ed
  jo : List Nat
def start (a p : Nat) (s : Wk) : Wk := { s with tm := s.tm + 1, wh := s.wh.set a ((s.tm + 1 : Nat) : Int), lo := s.lo.set a ((s.tm + 1 : Nat) : Int), pa := s.pa.set a (p : Int) }
def low (a : Nat) (x : Int) (s : Wk) : Wk := { s with lo := s.lo.set a (min (g s.lo a) x) }
def tell (a b : Nat) (s : Wk) : Wk := if g s.wh a < g s.lo b then { s with ed := s.ed ++ [ek a b] } else s
def kid (rec : Nat → Wk → Wk) (a fr : Nat) (q : Wk × Nat × Bool) (b : Nat) : Wk × Nat × Bool :=
  if b = fr then q
  else if 0 < g q.1.wh b then (low a (g q.1.wh b) q.1, q.2)
  else
    let s := rec b q.1
    let s := low a (g s.lo b) s
    (tell a b s, q.2.1 + 1, q.2.2 || decide (g s.wh a ≤ g s.lo b))
def fin (a fr : Nat) (q : Wk × Nat × Bool) : Wk := if (fr ≠ a ∧ q.2.2 = true) ∨ (fr = a ∧ 1 < q.2.1) then { q.1 with jo := q.1.jo ++ [a] } else q.1
def visit (N : Nat → List Nat) (p : Nat) : Nat → Nat → Nat → Wk → Wk
  | 0, _, _, s => s
  | f + 1, a, fr, s => fin a fr ((N a).foldl (kid (fun b s => visit N p f b a s) a fr) (start a p s, 0, false))

/-! ### What a visit does -/
structure Ok (n : Nat) (s : Wk) : Prop where
  wl : s.wh.length = n
  ll : s.lo.length = n
  pl : s.pa.length = n
  le : ∀ v, v < n → g s.wh v ≤ (s.tm : Int)
  ge : ∀ v, v < n → 0 ≤ g s.wh v
def V (s : Wk) (v : Nat) : Prop := 0 < g s.wh v
/-- It may be begun. -/
structure Pre (n : Nat) (l : List Ed) (a fr : Nat) (s : Wk) : Prop extends Ok n s where
  an : a < n
  av : ¬ V s a
  fr1 : fr ≠ a → V s fr ∧ adj l fr a
  bnd : ∀ u v, V s u → adj l u v → v < n → ¬ V s v → fr ≠ a ∧ Cn (In l (V s)) fr u
/-- As far as it has come: through the nodes of T; of those beside a itself M are done. -/
structure Mid (n : Nat) (l : List Ed) (a fr p : Nat) (s s' : Wk) (T M : Nat → Prop) (E : List Ed) : Prop extends Ok n s' where
  tm : s.tm + 1 ≤ s'.tm
  vis : ∀ v, V s' v ↔ V s v ∨ T v
  old : ∀ v, V s v → g s'.wh v = g s.wh v ∧ g s'.lo v = g s.lo v ∧ g s'.pa v = g s.pa v
  new : ∀ v, T v → v < n ∧ ¬ V s v ∧ ((s.tm + 1 : Nat) : Int) ≤ g s'.wh v ∧ g s'.pa v = (p : Int)
  ta : T a
  wa : g s'.wh a = ((s.tm + 1 : Nat) : Int)
  con : ∀ v, T v → Cn (In l T) a v
  clo : ∀ v u, T v → adj l v u → u < n → (v = a → M u) → T u ∨ V s u
  low1 : g s'.lo a ≤ g s'.wh a
  low2 : ∀ v u, T v → adj l v u → u < n → (v = a → M u) → V s u → ¬ (v = a ∧ u = fr) → g s'.lo a ≤ g s.wh u
  low3 : g s'.lo a = g s'.wh a ∨ ∃ v u, T v ∧ adj l v u ∧ u < n ∧ V s u ∧ ¬ (v = a ∧ u = fr) ∧ g s'.lo a = g s.wh u
  ed : s'.ed = s.ed ++ E
  edm : ∀ e ∈ E, ∃ c d, e = ek c d ∧ T c ∧ T d ∧ adj l c d
  edn : E.Nodup
  edb : ∀ c d, T c → T d → adj l c d → (ek c d ∈ E ↔ ¬ Go2 l c d)
def Post (n : Nat) (l : List Ed) (a fr p : Nat) (s s' : Wk) : Prop := ∃ T E, Mid n l a fr p s s' T (fun _ => True) E

theorem V.lt {n : Nat} {s : Wk} (h : s.wh.length = n) {v : Nat} (k : V s v) : v < n := by
  by_cases hv : v < n
  · exact hv
  · have : g s.wh v = -1 := by unfold g; rw [List.getD_eq_getElem?_getD, List.getElem?_eq_none (by omega)]; rfl
    unfold V at k; omega
theorem begun {n : Nat} {l : List Ed} {a fr p : Nat} {s : Wk} (h : Pre n l a fr s) (hl : ∀ u, ¬ adj l u u) : Mid n l a fr p s (start a p s) (fun v => v = a) (fun _ => False) [] := by
  have wa : g (start a p s).wh a = ((s.tm + 1 : Nat) : Int) := g_set_self (by rw [h.wl]; exact h.an)
  have wn : ∀ v, v ≠ a → g (start a p s).wh v = g s.wh v := fun v hv => g_set_ne (Ne.symm hv)
  have la : g (start a p s).lo a = ((s.tm + 1 : Nat) : Int) := g_set_self (by rw [h.ll]; exact h.an)
  have ln : ∀ v, v ≠ a → g (start a p s).lo v = g s.lo v := fun v hv => g_set_ne (Ne.symm hv)
  have pa' : g (start a p s).pa a = (p : Int) := g_set_self (by rw [h.pl]; exact h.an)
  have pn : ∀ v, v ≠ a → g (start a p s).pa v = g s.pa v := fun v hv => g_set_ne (Ne.symm hv)
  have hne : ∀ v, V s v → v ≠ a := fun v hv e => h.av (e ▸ hv)
  refine { wl := by simp [start, h.wl], ll := by simp [start, h.ll], pl := by simp [start, h.pl], le := fun v hv => ?_, ge := fun v hv => ?_, tm := Nat.le_refl _, vis := fun v => ?_, old := fun v hv => ⟨wn v (hne v hv), ln v (hne v hv), pn v (hne v hv)⟩, new := fun v hv => ?_, ta := rfl, wa := wa, con := fun v hv => by subst hv; exact .refl _, clo := fun v u hv hadj hu hm => absurd (hm hv) id, low1 := by rw [la, wa]; exact Int.le_refl _, low2 := fun v u hv _ _ hm => absurd (hm hv) id, low3 := .inl (by rw [la, wa]), ed := by simp [start], edm := fun e he => by simp at he, edn := List.nodup_nil, edb := fun c d hc hd hadj => ?_ }
  · by_cases e : v = a
    · subst e; rw [wa]; simp [start]
    · rw [wn v e]; have := h.le v hv; simp [start]; omega
  · by_cases e : v = a
    · subst e; rw [wa]; omega
    · rw [wn v e]; exact h.ge v hv
  · by_cases e : v = a
    · subst e; simp [V, wa]
    · simp [V, wn v e, e]
  · subst hv; exact ⟨h.an, h.av, by rw [wa]; exact Int.le_refl _, pa'⟩
  · subst hc; subst hd; exact absurd hadj (hl _)
end DF
end Go.Proofs.Ytckcbfnffmohgaa
namespace Go.Proofs.Ytckcbfnffmohgaa
open Go
set_option linter.unusedVariables false
namespace DF
open PD (g adj Ed adj_symm g_set_self g_set_ne)

theorem Mid.skip {n : Nat} {l : List Ed} {a fr p b : Nat} {s s' : Wk} {T M : Nat → Prop} {E : List Ed} (h : Mid n l a fr p s s' T M E) (k : Pre n l a fr s) (hl : ∀ u, ¬ adj l u u) (hb : adj l a b) (e : b = fr) : Mid n l a fr p s s' T (fun u => M u ∨ u = b) E := by
  have hne : fr ≠ a := fun q => by subst e; subst q; exact hl _ hb
  refine { h with clo := fun v u hv hadj hu hm => ?_, low2 := fun v u hv hadj hu hm hV hn => ?_ }
  · by_cases hva : v = a
    · rcases hm hva with hm | hm
      · exact h.clo v u hv hadj hu fun _ => hm
      · rw [hm, e]; exact .inr (k.fr1 hne).1
    · exact h.clo v u hv hadj hu fun q => absurd q hva
  · by_cases hva : v = a
    · rcases hm hva with hm | hm
      · exact h.low2 v u hv hadj hu (fun _ => hm) hV hn
      · exact absurd ⟨hva, hm.trans e⟩ hn
    · exact h.low2 v u hv hadj hu (fun q => absurd q hva) hV hn
theorem low_lo {a : Nat} {x : Int} {s : Wk} (h : a < s.lo.length) : g (low a x s).lo a = min (g s.lo a) x := g_set_self h
theorem low_ne {a v : Nat} {x : Int} {s : Wk} (h : v ≠ a) : g (low a x s).lo v = g s.lo v := g_set_ne (Ne.symm h)
theorem Mid.seen {n : Nat} {l : List Ed} {a fr p b : Nat} {s s' : Wk} {T M : Nat → Prop} {E : List Ed} (h : Mid n l a fr p s s' T M E) (k : Pre n l a fr s) (hbn : b < n) (hb : adj l a b) (e : b ≠ fr) (hv : V s' b) : Mid n l a fr p s (low a (g s'.wh b) s') T (fun u => M u ∨ u = b) E := by
  have hal : a < s'.lo.length := by rw [h.ll]; exact k.an
  have hne : ∀ v, V s v → v ≠ a := fun v hv e => k.av (e ▸ hv)
  have hlo : g (low a (g s'.wh b) s').lo a = min (g s'.lo a) (g s'.wh b) := low_lo hal
  have hsb : V s b → g s'.wh b = g s.wh b := fun q => (h.old b q).1
  have htb : T b → g s'.lo a ≤ g s'.wh b := fun q => by
    have h1 := (h.new b q).2.2.1
    have h2 := h.low1
    rw [h.wa] at h2; omega
  have hcl : T b ∨ V s b := ((h.vis b).1 hv).symm
  refine { h with ll := by simp [low, h.ll], old := fun v q => ?_, clo := fun v u hv hadj hu hm => ?_, low1 := ?_, low2 := fun v u hv hadj hu hm hV hn => ?_, low3 := ?_ }
  · exact ⟨(h.old v q).1, by rw [low_ne (hne v q)]; exact (h.old v q).2.1, (h.old v q).2.2⟩
  · by_cases hva : v = a
    · rcases hm hva with hm | hm
      · exact h.clo v u hv hadj hu fun _ => hm
      · rw [hm]; exact hcl
    · exact h.clo v u hv hadj hu fun q => absurd q hva
  · show g (low a (g s'.wh b) s').lo a ≤ g s'.wh a
    have := h.low1
    rw [hlo]; omega
  · rw [hlo]
    by_cases hva : v = a
    · rcases hm hva with hm | hm
      · have := h.low2 v u hv hadj hu (fun _ => hm) hV hn; omega
      · subst hm; have := hsb hV; omega
    · have := h.low2 v u hv hadj hu (fun q => absurd q hva) hV hn; omega
  · show g (low a (g s'.wh b) s').lo a = g s'.wh a ∨ _
    rw [hlo]
    by_cases hlt : g s'.wh b < g s'.lo a
    · rcases hcl with q | q
      · have := htb q; omega
      · exact .inr ⟨a, b, h.ta, hb, hbn, q, fun r => e r.2, by rw [← hsb q]; omega⟩
    · rw [show min (g s'.lo a) (g s'.wh b) = g s'.lo a by omega]
      exact h.low3
/-- A node that has not been come to may be begun. -/
theorem Mid.pre {n : Nat} {l : List Ed} {a fr p b : Nat} {s s' : Wk} {T M : Nat → Prop} {E : List Ed} (h : Mid n l a fr p s s' T M E) (k : Pre n l a fr s) (hl : ∀ u, ¬ adj l u u) (hbn : b < n) (hb : adj l a b) (hv : ¬ V s' b) : Pre n l b a s' := by
  have hab : a ≠ b := fun q => by subst q; exact hl _ hb
  refine { wl := h.wl, ll := h.ll, pl := h.pl, le := h.le, ge := h.ge, an := hbn, av := hv, fr1 := fun _ => ⟨(h.vis a).2 (.inr h.ta), hb⟩, bnd := fun u v hu hadj hvn hnv => ⟨hab, ?_⟩ }
  have hns : ¬ V s v := fun q => hnv ((h.vis v).2 (.inl q))
  rcases (h.vis u).1 hu with q | q
  · obtain ⟨h1, h2⟩ := k.bnd u v q hadj hvn hns
    have h3 : Cn (In l (V s')) fr u := In.mono (fun v q => (h.vis v).2 (.inl q)) h2
    obtain ⟨f1, f2⟩ := k.fr1 h1
    exact .trans (.symm (.edge ⟨f2, (h.vis fr).2 (.inl f1), (h.vis a).2 (.inr h.ta)⟩)) h3
  · exact In.mono (fun v q => (h.vis v).2 (.inr q)) (h.con u q)
end DF
end Go.Proofs.Ytckcbfnffmohgaa
namespace Go.Proofs.Ytckcbfnffmohgaa
open Go
set_option linter.unusedVariables false
namespace DF
open PD (g adj Ed adj_symm g_set_self g_set_ne)

/-- What holds between a's nodes and those of b, which is come to from a. -/
structure Two (n : Nat) (l : List Ed) (a b : Nat) (s1 s2 : Wk) (T Tb : Nat → Prop) : Prop where
  ne : a ≠ b
  off : ∀ v, Tb v → ¬ V s1 v
  on : ∀ v, T v → V s1 v
  via : ∀ v u, T v → Tb u → adj l v u → v = a
  only : (∀ v u, Tb v → V s1 u → adj l v u → v = b ∧ u = a) ↔ ¬ Go2 l a b
  test : g s2.wh a < g s2.lo b ↔ ¬ Go2 l a b
theorem Mid.two {n : Nat} {l : List Ed} {a fr p b : Nat} {s s1 s2 : Wk} {T M Tb : Nat → Prop} {E Eb : List Ed} (h : Mid n l a fr p s s1 T M E) (k : Pre n l a fr s) (hl : ∀ u, ¬ adj l u u) (hin : ∀ u v, adj l u v → v < n) (hb : adj l a b) (hv : ¬ V s1 b) (r : Mid n l b a p s1 s2 Tb (fun _ => True) Eb) : Two n l a b s1 s2 T Tb := by
  have hab : a ≠ b := fun q => by subst q; exact hl _ hb
  have hbn := hin a b hb
  have off : ∀ v, Tb v → ¬ V s1 v := fun v q => (r.new v q).2.1
  have on : ∀ v, T v → V s1 v := fun v q => (h.vis v).2 (.inr q)
  have va : V s1 a := on a h.ta
  have via : ∀ v u, T v → Tb u → adj l v u → v = a := fun v u hT hTb hadj => by
    apply Classical.byContradiction
    intro q
    have := h.clo v u hT hadj (hin _ _ hadj) fun e => absurd e q
    exact off u hTb ((h.vis u).2 this.symm)
  have ends : ∀ v u, Tb v → V s1 u → adj l v u → V s u ∨ u = a := fun v u hTb hV hadj => by
    rcases (h.vis u).1 hV with q | q
    · exact .inl q
    · exact .inr (via u v q hTb (adj_symm hadj))
  have wle : ∀ u, V s u ∨ u = a → g s1.wh u ≤ g s1.wh a := fun u q => by
    rcases q with q | q
    · have h1 := (h.old u q).1
      have h2 := k.le u (V.lt k.wl q)
      rw [h1, h.wa]; omega
    · subst q; exact Int.le_refl _
  have wa2 : g s2.wh a = g s1.wh a := (r.old a va).1
  have only : (∀ v u, Tb v → V s1 u → adj l v u → v = b ∧ u = a) ↔ ¬ Go2 l a b := by
    constructor
    · intro q hgo
      have hk : Tb a ↔ Tb b := Cn.keeps (S := Tb) (fun u v e => by
        have go1 : ∀ u v, Mn (adj l) a b u v → Tb u → Tb v := fun u v e hu => by
          rcases r.clo u v hu e.1 (hin _ _ e.1) (fun _ => trivial) with w | w
          · exact w
          · exact absurd (q u v hu w e.1) (fun w => e.2.2 ⟨w.1, w.2⟩)
        exact ⟨go1 u v e, go1 v u ⟨adj_symm e.1, fun w => e.2.2 ⟨w.2, w.1⟩, fun w => e.2.1 ⟨w.2, w.1⟩⟩⟩) hgo
      exact off a (hk.2 r.ta) va
    · intro hno v u hTb hV hadj
      apply Classical.byContradiction
      intro q
      apply hno
      have hvn : v < n := (r.new v hTb).1
      have c1 : Cn (In l (V s1)) a u := ((h.pre k hl hbn hb hv).bnd u v hV (adj_symm hadj) hvn (off v hTb)).2
      have c2 : Cn (Mn (adj l) a b) a u := In.mn (fun w => hv w.2) c1
      have c3 : Cn (Mn (adj l) a b) u v := .edge ⟨adj_symm hadj, fun w => q ⟨w.2, w.1⟩, fun w => hv (w.1 ▸ hV)⟩
      have c4 : Cn (Mn (adj l) a b) b v := In.mn (fun w => off a w.1 va) (r.con v hTb)
      exact .trans (.trans c2 c3) (.symm c4)
  refine ⟨hab, off, on, via, only, ?_⟩
  rw [← only]
  constructor
  · intro q v u hTb hV hadj
    apply Classical.byContradiction
    intro w
    have h1 := r.low2 v u hTb hadj (V.lt h.wl hV) (fun _ => trivial) hV w
    have h2 := wle u (ends v u hTb hV hadj)
    omega
  · intro q
    rcases r.low3 with w | ⟨v, u, h1, h2, _, h3, h4, _⟩
    · rw [w, r.wa, wa2]
      have := h.le a k.an
      omega
    · exact absurd (q v u h1 h3 h2) h4
theorem Mid.come {n : Nat} {l : List Ed} {a fr p b : Nat} {s s1 s2 : Wk} {T M : Nat → Prop} {E : List Ed} (h : Mid n l a fr p s s1 T M E) (k : Pre n l a fr s) (hl : ∀ u, ¬ adj l u u) (hin : ∀ u v, adj l u v → v < n) (hb : adj l a b) (hv : ¬ V s1 b) (hp : Post n l b a p s1 s2) :
    ∃ T' E', Mid n l a fr p s (tell a b (low a (g s2.lo b) s2)) T' (fun u => M u ∨ u = b) E' := by
  obtain ⟨Tb, Eb, r⟩ := hp
  have two := h.two k hl hin hb hv r
  have hal : a < s2.lo.length := by rw [r.ll]; exact k.an
  have hlo : g (low a (g s2.lo b) s2).lo a = min (g s2.lo a) (g s2.lo b) := low_lo hal
  have hlb : g (low a (g s2.lo b) s2).lo b = g s2.lo b := low_ne two.ne.symm
  obtain ⟨X, hX, hXm, hXn⟩ : ∃ X : List Ed, (tell a b (low a (g s2.lo b) s2)).ed = s2.ed ++ X ∧ (∀ e, e ∈ X ↔ e = ek a b ∧ ¬ Go2 l a b) ∧ X.Nodup := by
    by_cases q : g s2.wh a < g s2.lo b
    · refine ⟨[ek a b], ?_, fun e => ?_, by simp⟩
      · unfold tell; rw [if_pos (by rw [hlb]; exact q)]; rfl
      · simp [two.test.1 q]
    · refine ⟨[], ?_, fun e => ?_, by simp⟩
      · unfold tell; rw [if_neg (by rw [hlb]; exact q)]; simp [low]
      · simp; intro _; exact Classical.byContradiction fun w => q (two.test.2 w)
  have e1 : (tell a b (low a (g s2.lo b) s2)).wh = s2.wh := by unfold tell; split <;> rfl
  have e2 : (tell a b (low a (g s2.lo b) s2)).lo = (low a (g s2.lo b) s2).lo := by unfold tell; split <;> rfl
  have e3 : (tell a b (low a (g s2.lo b) s2)).pa = s2.pa := by unfold tell; split <;> rfl
  have e4 : (tell a b (low a (g s2.lo b) s2)).tm = s2.tm := by unfold tell; split <;> rfl
  generalize tell a b (low a (g s2.lo b) s2) = s4 at *
  have hne : ∀ v, V s v → v ≠ a := fun v hv e => k.av (e ▸ hv)
  have va : V s1 a := two.on a h.ta
  have vs : ∀ v, V s v → V s1 v := fun v q => (h.vis v).2 (.inl q)
  have wa2 : g s2.wh a = g s1.wh a := (r.old a va).1
  have la2 : g s2.lo a = g s1.lo a := (r.old a va).2.1
  have lb1 : g s2.lo b ≤ g s2.wh b := r.low1
  have tb : ∀ v, Tb v → ¬ T v := fun v q w => two.off v q (two.on v w)
  have l4 : g s4.lo a = min (g s1.lo a) (g s2.lo b) := by rw [e2, hlo, la2]
  refine ⟨fun v => T v ∨ Tb v, E ++ (Eb ++ X), { wl := by rw [e1, r.wl], ll := by rw [e2]; simp [low, r.ll], pl := by rw [e3, r.pl], le := fun v hv => by rw [e1, e4]; exact r.le v hv, ge := fun v hv => by rw [e1]; exact r.ge v hv, tm := by rw [e4]; have := h.tm; have := r.tm; omega, vis := fun v => ?_, old := fun v q => ?_, new := fun v q => ?_, ta := .inl h.ta, wa := by rw [e1, wa2, h.wa], con := fun v q => ?_, clo := fun v u q hadj hu hm => ?_, low1 := ?_, low2 := fun v u q hadj hu hm hV hn => ?_, low3 := ?_, ed := by rw [hX, r.ed, h.ed]; simp, edm := fun e he => ?_, edn := ?_, edb := fun c d hc hd hadj => ?_ }⟩
  · show 0 < g s4.wh v ↔ _
    rw [e1]
    have q1 := r.vis v
    have q2 := h.vis v
    unfold V at *
    rw [q1, q2]
    exact ⟨fun w => by rcases w with (w | w) | w; exact .inl w; exact .inr (.inl w); exact .inr (.inr w), fun w => by rcases w with w | w | w; exact .inl (.inl w); exact .inl (.inr w); exact .inr w⟩
  · have q1 := h.old v q
    have q2 := r.old v (vs v q)
    exact ⟨by rw [e1, q2.1, q1.1], by rw [e2, low_ne (hne v q), q2.2.1, q1.2.1], by rw [e3, q2.2.2, q1.2.2]⟩
  · rcases q with q | q
    · have q1 := h.new v q
      have q2 := r.old v (two.on v q)
      exact ⟨q1.1, q1.2.1, by rw [e1, q2.1]; exact q1.2.2.1, by rw [e3, q2.2.2]; exact q1.2.2.2⟩
    · have q1 := r.new v q
      have := h.tm
      exact ⟨q1.1, fun w => q1.2.1 (vs v w), by rw [e1]; have := q1.2.2.1; omega, by rw [e3]; exact q1.2.2.2⟩
  · rcases q with q | q
    · exact In.mono (fun v q => .inl q) (h.con v q)
    · exact .trans (.edge ⟨hb, .inl h.ta, .inr r.ta⟩) (In.mono (fun v q => .inr q) (r.con v q))
  · rcases q with q | q
    · by_cases hva : v = a
      · rcases hm hva with hm | hm
        · rcases h.clo v u q hadj hu (fun _ => hm) with w | w
          · exact .inl (.inl w)
          · exact .inr w
        · rw [hm]; exact .inl (.inr r.ta)
      · rcases h.clo v u q hadj hu (fun w => absurd w hva) with w | w
        · exact .inl (.inl w)
        · exact .inr w
    · rcases r.clo v u q hadj hu (fun _ => trivial) with w | w
      · exact .inl (.inr w)
      · rcases (h.vis u).1 w with w | w
        · exact .inr w
        · exact .inl (.inl w)
  · rw [l4, e1, wa2]
    have := h.low1
    omega
  · rw [l4]
    rcases q with q | q
    · by_cases hva : v = a
      · rcases hm hva with hm | hm
        · have := h.low2 v u q hadj hu (fun _ => hm) hV hn; omega
        · subst hm; exact absurd (vs _ hV) hv
      · have := h.low2 v u q hadj hu (fun w => absurd w hva) hV hn; omega
    · have h1 := r.low2 v u q hadj hu (fun _ => trivial) (vs u hV) (fun w => hne u hV w.2)
      rw [(h.old u hV).1] at h1
      omega
  · rw [l4, e1, wa2]
    by_cases hlt : g s2.lo b < g s1.lo a
    · have hla := h.low1
      rcases r.low3 with w | ⟨v, u, h1, h2, h3, h4, h5, h6⟩
      · rw [r.wa] at w
        have := h.le a k.an
        omega
      · rcases (h.vis u).1 h4 with w | w
        · refine .inr ⟨v, u, .inr h1, h2, h3, w, fun z => two.off v h1 (z.1 ▸ va), ?_⟩
          rw [← (h.old u w).1, ← h6]; omega
        · have : u = a := two.via u v w h1 (adj_symm h2)
          subst this
          omega
    · rw [show min (g s1.lo a) (g s2.lo b) = g s1.lo a by omega]
      rcases h.low3 with w | ⟨v, u, h1, h2⟩
      · exact .inl w
      · exact .inr ⟨v, u, .inl h1, h2⟩
  · simp only [List.mem_append] at he
    rcases he with he | he | he
    · obtain ⟨c, d, h1, h2, h3, h4⟩ := h.edm e he
      exact ⟨c, d, h1, .inl h2, .inl h3, h4⟩
    · obtain ⟨c, d, h1, h2, h3, h4⟩ := r.edm e he
      exact ⟨c, d, h1, .inr h2, .inr h3, h4⟩
    · exact ⟨a, b, ((hXm e).1 he).1, .inl h.ta, .inr r.ta, hb⟩
  · have d1 : ∀ e ∈ E, e ∉ Eb := fun e he hb' => by
      obtain ⟨c, d, h1, h2, h3, _⟩ := h.edm e he
      obtain ⟨c', d', h1', h2', h3', _⟩ := r.edm e hb'
      rcases ek_inj (h1.symm.trans h1') with ⟨q, _⟩ | ⟨q, _⟩
      · exact tb c' h2' (q ▸ h2)
      · exact tb d' h3' (q ▸ h2)
    have d2 : ∀ e ∈ E, e ∉ X := fun e he hx => by
      obtain ⟨c, d, h1, h2, h3, _⟩ := h.edm e he
      rcases ek_inj (h1.symm.trans ((hXm e).1 hx).1) with ⟨_, q⟩ | ⟨q, _⟩
      · exact tb b r.ta (q ▸ h3)
      · exact tb b r.ta (q ▸ h2)
    have d3 : ∀ e ∈ Eb, e ∉ X := fun e he hx => by
      obtain ⟨c, d, h1, h2, h3, _⟩ := r.edm e he
      rcases ek_inj (h1.symm.trans ((hXm e).1 hx).1) with ⟨q, _⟩ | ⟨_, q⟩
      · exact tb a (q ▸ h2) h.ta
      · exact tb a (q ▸ h3) h.ta
    rw [List.nodup_append]
    refine ⟨h.edn, ?_, fun e he e' he' q => ?_⟩
    · rw [List.nodup_append]
      exact ⟨r.edn, hXn, fun e he e' he' q => d3 e he (q ▸ he')⟩
    · subst q
      rcases List.mem_append.1 he' with w | w
      · exact d1 e he w
      · exact d2 e he w
  · have nE : ∀ c d, Tb d → ek c d ∉ E := fun c d hd hm => by
      obtain ⟨c', d', h1, h2, h3, _⟩ := h.edm _ hm
      rcases ek_inj h1 with ⟨_, q⟩ | ⟨_, q⟩
      · exact tb d hd (q ▸ h3)
      · exact tb d hd (q ▸ h2)
    have nB : ∀ c d, T c → ek c d ∉ Eb := fun c d hc hm => by
      obtain ⟨c', d', h1, h2, h3, _⟩ := r.edm _ hm
      rcases ek_inj h1 with ⟨q, _⟩ | ⟨q, _⟩
      · exact tb c' h2 (q ▸ hc)
      · exact tb d' h3 (q ▸ hc)
    have cross : ∀ d, Tb d → adj l a d → (ek a d ∈ E ++ (Eb ++ X) ↔ ¬ Go2 l a d) := fun d hd hadj => by
      have q1 := nE a d hd
      have q2 := nB a d h.ta
      simp only [List.mem_append, q1, q2, false_or, hXm]
      by_cases hdb : d = b
      · subst hdb; simp
      · have hgo : Go2 l a d := by
          have c1 : Cn (Mn (adj l) a d) a b := .edge ⟨hb, fun w => hdb w.2.symm, fun w => two.ne w.2.symm⟩
          exact .trans c1 (In.mn (fun w => tb a w.1 h.ta) (r.con d hd))
        constructor
        · rintro ⟨q, _⟩
          rcases ek_inj q with ⟨_, w⟩ | ⟨_, w⟩
          · exact absurd w hdb
          · exact absurd (w ▸ hd) (fun w => tb a w h.ta)
        · intro q; exact absurd hgo q
    rcases hc with hc | hc <;> rcases hd with hd | hd
    · have q2 := nB c d hc
      have q3 : ek c d ∉ X := fun hm => by
        rcases ek_inj ((hXm _).1 hm).1 with ⟨_, w⟩ | ⟨w, _⟩
        · exact tb b r.ta (w ▸ hd)
        · exact tb b r.ta (w ▸ hc)
      simp only [List.mem_append, q2, q3, or_false]
      exact h.edb c d hc hd hadj
    · obtain rfl := two.via c d hc hd hadj
      exact cross d hd hadj
    · obtain rfl := two.via d c hd hc (adj_symm hadj)
      rw [ek_comm, cross c hc (adj_symm hadj)]
      exact ⟨fun q w => q w.flip, fun q w => q w.flip⟩
    · have q1 := nE c d hd
      have q3 : ek c d ∉ X := fun hm => by
        rcases ek_inj ((hXm _).1 hm).1 with ⟨w, _⟩ | ⟨_, w⟩
        · exact tb a (w ▸ hc) h.ta
        · exact tb a (w ▸ hd) h.ta
      simp only [List.mem_append, q1, q3, or_false, false_or]
      exact r.edb c d hc hd hadj
end DF
end Go.Proofs.Ytckcbfnffmohgaa
namespace Go.Proofs.Ytckcbfnffmohgaa
open Go
set_option linter.unusedVariables false
namespace DF
open PD (g adj Ed adj_symm g_set_self g_set_ne cnt cnt_lt cnt_le)

/-- Of each node those beside it. -/
def Bes (n : Nat) (l : List Ed) (N : Nat → List Nat) : Prop := ∀ v, v < n → ∀ x, x ∈ N v ↔ x < n ∧ adj l v x
/-- How many have not been come to. -/
def unv (n : Nat) (s : Wk) : Nat := cnt (fun v => decide (¬ 0 < g s.wh v)) n
theorem Mid.fewer {n : Nat} {l : List Ed} {a fr p : Nat} {s s' : Wk} {T M : Nat → Prop} {E : List Ed} (h : Mid n l a fr p s s' T M E) (k : Pre n l a fr s) : unv n s' + 1 ≤ unv n s := by
  refine cnt_lt (u := a) (fun i _ hi => ?_) k.an ?_ ?_
  · simp only [decide_eq_true_eq] at hi ⊢
    exact fun w => hi ((h.vis i).2 (.inl w))
  · simpa [V] using k.av
  · have := (h.vis a).2 (.inr h.ta)
    simpa [V] using this
theorem Mid.ends {n : Nat} {l : List Ed} {a fr p : Nat} {s : Wk} {q : Wk × Nat × Bool} {T M : Nat → Prop} {E : List Ed} (h : Mid n l a fr p s q.1 T M E) : Mid n l a fr p s (fin a fr q) T M E := by
  unfold fin
  split
  · exact { h with }
  · exact h
theorem Mid.more {n : Nat} {l : List Ed} {a fr p : Nat} {s s' : Wk} {T M M' : Nat → Prop} {E : List Ed} (h : Mid n l a fr p s s' T M E) (hm : ∀ u, u < n → adj l a u → M' u → M u) : Mid n l a fr p s s' T M' E :=
  { h with
    clo := fun v u hv hadj hu q => h.clo v u hv hadj hu fun e => hm u hu (e ▸ hadj) (q e)
    low2 := fun v u hv hadj hu q => h.low2 v u hv hadj hu fun e => hm u hu (e ▸ hadj) (q e) }
/-- One node beside it, by whatever visits. -/
theorem Mid.one {n : Nat} {l : List Ed} {a fr p b : Nat} {s : Wk} {q : Wk × Nat × Bool} {T M : Nat → Prop} {E : List Ed} {rec : Nat → Wk → Wk} (h : Mid n l a fr p s q.1 T M E) (k : Pre n l a fr s) (hl : ∀ u, ¬ adj l u u) (hin : ∀ u v, adj l u v → v < n) (hb : adj l a b) (hrec : ¬ V q.1 b → Post n l b a p q.1 (rec b q.1)) :
    ∃ T' E', Mid n l a fr p s (kid rec a fr q b).1 T' (fun u => M u ∨ u = b) E' := by
  unfold kid
  by_cases e : b = fr
  · rw [if_pos e]
    exact ⟨T, E, h.skip k hl hb e⟩
  · rw [if_neg e]
    by_cases hv : 0 < g q.1.wh b
    · rw [if_pos hv]
      exact ⟨T, E, h.seen k (hin _ _ hb) hb e hv⟩
    · rw [if_neg hv]
      exact h.come k hl hin hb hv (hrec hv)
theorem Mid.runs {n : Nat} {l : List Ed} {a fr p f : Nat} {s : Wk} {rec : Nat → Wk → Wk} (k : Pre n l a fr s) (hl : ∀ u, ¬ adj l u u) (hin : ∀ u v, adj l u v → v < n) (hf : unv n s ≤ f + 1) (hrec : ∀ b q, Pre n l b a q → unv n q ≤ f → Post n l b a p q (rec b q)) :
    ∀ (xs : List Nat) (M : Nat → Prop) (q : Wk × Nat × Bool), (∃ T E, Mid n l a fr p s q.1 T M E) → (∀ x, x ∈ xs → adj l a x) → ∃ T E, Mid n l a fr p s (xs.foldl (kid rec a fr) q).1 T (fun u => M u ∨ u ∈ xs) E
  | [], M, q, ⟨T, E, h⟩, _ => ⟨T, E, h.more (fun u _ _ w => by simpa using w)⟩
  | x :: xs, M, q, ⟨T, E, h⟩, hx => by
    have hb := hx x (List.mem_cons_self ..)
    have h1 := h.one (rec := rec) k hl hin hb (fun hv => hrec x q.1 (h.pre k hl (hin _ _ hb) hb hv) (by have := h.fewer k; omega))
    obtain ⟨T', E', h2⟩ := Mid.runs k hl hin hf hrec xs (fun u => M u ∨ u = x) (kid rec a fr q x) h1 (fun y hy => hx y (List.mem_cons_of_mem _ hy))
    refine ⟨T', E', h2.more fun u _ _ w => ?_⟩
    rcases w with w | w
    · exact .inl (.inl w)
    · rcases List.mem_cons.1 w with w | w
      · exact .inl (.inr w)
      · exact .inr w
theorem visit_post {n : Nat} {l : List Ed} {N : Nat → List Nat} (hN : Bes n l N) (hl : ∀ u, ¬ adj l u u) (hin : ∀ u v, adj l u v → v < n) (p : Nat) : ∀ (f a fr : Nat) (s : Wk), Pre n l a fr s → unv n s ≤ f → Post n l a fr p s (visit N p f a fr s)
  | 0, a, fr, s, k, hf => by
    have := (begun (p := p) k hl).fewer k
    omega
  | f + 1, a, fr, s, k, hf => by
    obtain ⟨T, E, h⟩ := Mid.runs k hl hin hf (fun b q hq hf => visit_post hN hl hin p f b a q hq hf) (N a) (fun _ => False) (start a p s, 0, false) ⟨_, _, begun k hl⟩ (fun x hx => ((hN a k.an x).1 hx).2)
    exact ⟨T, E, (h.more fun u hu hadj _ => .inr ((hN a k.an u).2 ⟨hu, hadj⟩)).ends⟩

/-! ### All nodes -/
def zero (n : Nat) : Wk := ⟨List.replicate n 0, List.replicate n 0, List.replicate n 0, 0, [], []⟩
def walked (N : Nat → List Nat) (n : Nat) : Nat → Wk
  | 0 => zero n
  | k + 1 => if g (walked N n k).wh k = 0 then visit N k n k k (walked N n k) else walked N n k
structure All (n : Nat) (l : List Ed) (k : Nat) (s : Wk) : Prop extends Ok n s where
  all : ∀ v, v < k → v < n → V s v
  clo : ∀ u v, V s u → adj l u v → V s v
  pa : ∀ v, V s v → ∃ r : Nat, g s.pa v = (r : Int) ∧ r ≤ v ∧ Cn (adj l) r v
  pe : ∀ u v, V s u → adj l u v → g s.pa u = g s.pa v
  edm : ∀ e ∈ s.ed, ∃ c d, e = ek c d ∧ V s c ∧ V s d ∧ adj l c d
  edn : s.ed.Nodup
  edb : ∀ c d, V s c → V s d → adj l c d → (ek c d ∈ s.ed ↔ ¬ Go2 l c d)
theorem g_zero (n v : Nat) : g (List.replicate n 0) v ≤ 0 ∧ (v < n → g (List.replicate n 0) v = 0) := by
  unfold g
  rw [List.getD_eq_getElem?_getD, List.getElem?_replicate]
  split
  · simp
  · simp; omega
theorem All.start (n : Nat) (l : List Ed) : All n l 0 (zero n) := by
  have hv : ∀ v, ¬ V (zero n) v := fun v h => by have := (g_zero n v).1; unfold V zero at h; simp only at h; omega
  exact { wl := by simp [zero], ll := by simp [zero], pl := by simp [zero], le := fun v _ => (g_zero n v).1, ge := fun v h => by rw [show g (zero n).wh v = 0 from (g_zero n v).2 h]; exact Int.le_refl _, all := fun v h => absurd h (Nat.not_lt_zero _), clo := fun u v h => absurd h (hv u), pa := fun v h => absurd h (hv v), pe := fun u v h => absurd h (hv u), edm := fun e he => by simp [zero] at he, edn := by simp [zero], edb := fun c d h => absurd h (hv c) }
theorem All.pre {n : Nat} {l : List Ed} {k : Nat} {s : Wk} (h : All n l k s) (hk : k < n) (h0 : ¬ V s k) : Pre n l k k s :=
  { wl := h.wl, ll := h.ll, pl := h.pl, le := h.le, ge := h.ge, an := hk, av := h0, fr1 := fun q => absurd rfl q, bnd := fun u v hu hadj _ hv => absurd (h.clo u v hu hadj) hv }
theorem All.step {n : Nat} {l : List Ed} {k : Nat} {s s' : Wk} (h : All n l k s) (hk : k < n) (h0 : ¬ V s k) (hin : ∀ u v, adj l u v → v < n) (hp : Post n l k k k s s') : All n l (k + 1) s' := by
  obtain ⟨T, E, r⟩ := hp
  have nT : ∀ v, T v → ¬ V s v := fun v q => (r.new v q).2.1
  have cT : ∀ u v, T u → adj l u v → T v := fun u v q hadj => by
    rcases r.clo u v q hadj (hin _ _ hadj) (fun _ => trivial) with w | w
    · exact w
    · exact absurd (h.clo v u w (adj_symm hadj)) (nT u q)
  have tV : ∀ v, T v → V s' v := fun v q => (r.vis v).2 (.inr q)
  have sV : ∀ v, V s v → V s' v := fun v q => (r.vis v).2 (.inl q)
  refine { r.toOk with all := fun v hv hn => ?_, clo := fun u v hu hadj => ?_, pa := fun v hv => ?_, pe := fun u v hu hadj => ?_, edm := fun e he => ?_, edn := ?_, edb := fun c d hc hd hadj => ?_ }
  · by_cases e : v = k
    · subst e; exact tV _ r.ta
    · exact sV v (h.all v (by omega) hn)
  · rcases (r.vis u).1 hu with q | q
    · exact sV v (h.clo u v q hadj)
    · exact tV v (cT u v q hadj)
  · rcases (r.vis v).1 hv with q | q
    · rw [(r.old v q).2.2]; exact h.pa v q
    · refine ⟨k, (r.new v q).2.2.2, ?_, (r.con v q).mono fun _ _ e => e.1⟩
      apply Classical.byContradiction
      intro w
      exact nT v q (h.all v (by omega) (r.new v q).1)
  · rcases (r.vis u).1 hu with q | q
    · rw [(r.old u q).2.2, (r.old v (h.clo u v q hadj)).2.2]; exact h.pe u v q hadj
    · rw [(r.new u q).2.2.2, (r.new v (cT u v q hadj)).2.2.2]
  · rw [r.ed] at he
    rcases List.mem_append.1 he with he | he
    · obtain ⟨c, d, h1, h2, h3, h4⟩ := h.edm e he
      exact ⟨c, d, h1, sV c h2, sV d h3, h4⟩
    · obtain ⟨c, d, h1, h2, h3, h4⟩ := r.edm e he
      exact ⟨c, d, h1, tV c h2, tV d h3, h4⟩
  · rw [r.ed, List.nodup_append]
    refine ⟨h.edn, r.edn, fun e he e' he' q => ?_⟩
    subst q
    obtain ⟨c, d, h1, h2, h3, _⟩ := h.edm _ he
    obtain ⟨c', d', h1', h2', h3', _⟩ := r.edm _ he'
    rcases ek_inj (h1.symm.trans h1') with ⟨q, _⟩ | ⟨q, _⟩
    · exact nT c' h2' (q ▸ h2)
    · exact nT d' h3' (q ▸ h2)
  · have nE : ∀ c d, V s c → ek c d ∉ E := fun c d hc hm => by
      obtain ⟨c', d', h1, h2, h3, _⟩ := r.edm _ hm
      rcases ek_inj h1 with ⟨q, _⟩ | ⟨q, _⟩
      · exact nT c' h2 (q ▸ hc)
      · exact nT d' h3 (q ▸ hc)
    have nS : ∀ c d, T c → ek c d ∉ s.ed := fun c d hc hm => by
      obtain ⟨c', d', h1, h2, h3, _⟩ := h.edm _ hm
      rcases ek_inj h1 with ⟨q, _⟩ | ⟨q, _⟩
      · exact nT c hc (q ▸ h2)
      · exact nT c hc (q ▸ h3)
    rw [r.ed, List.mem_append]
    rcases (r.vis c).1 hc with q | q
    · have w := nE c d q
      simp only [w, or_false]
      exact h.edb c d q (h.clo c d q hadj) hadj
    · have w := nS c d q
      simp only [w, false_or]
      exact r.edb c d q (cT c d q hadj) hadj
theorem walked_all {n : Nat} {l : List Ed} {N : Nat → List Nat} (hN : Bes n l N) (hl : ∀ u, ¬ adj l u u) (hin : ∀ u v, adj l u v → v < n) : ∀ k, k ≤ n → All n l k (walked N n k)
  | 0, _ => All.start n l
  | k + 1, hk => by
    have h := walked_all hN hl hin k (by omega)
    unfold walked
    by_cases h0 : g (walked N n k).wh k = 0
    · rw [if_pos h0]
      have hv : ¬ V (walked N n k) k := by unfold V; omega
      exact h.step (by omega) hv hin (visit_post hN hl hin k n k k _ (h.pre (by omega) hv) (cnt_le _ _))
    · rw [if_neg h0]
      have hv : V (walked N n k) k := by have := h.ge k (by omega); unfold V; omega
      exact { h with all := fun v q hn => by by_cases e : v = k; (· subst e; exact hv); (· exact h.all v (by omega) hn) }
end DF
end Go.Proofs.Ytckcbfnffmohgaa
namespace Go.Proofs.Ytckcbfnffmohgaa
open Go
set_option linter.unusedVariables false
namespace DF
open PD (g adj Ed adj_symm g_set_self g_set_ne cnt cnt_lt cnt_le)

/-- How much it has told, at most. -/
structure Bd (n ke kj : Nat) (s : Wk) : Prop where
  un : s.tm + unv n s ≤ n
  ed : s.ed.length + ke ≤ s.tm
  jo : s.jo.length + kj ≤ s.tm
theorem Bd.begun {n ke kj a fr p : Nat} {l : List Ed} {s : Wk} (h : Bd n ke kj s) (k : Pre n l a fr s) (hl : ∀ u, ¬ adj l u u) : Bd n (ke + 1) (kj + 1) (start a p s) := by
  have h1 := (DF.begun (p := p) k hl).fewer k
  have := h.un
  have := h.ed
  have := h.jo
  refine ⟨?_, ?_, ?_⟩
  · show s.tm + 1 + unv n (start a p s) ≤ n
    omega
  · show s.ed.length + (ke + 1) ≤ s.tm + 1
    omega
  · show s.jo.length + (kj + 1) ≤ s.tm + 1
    omega
theorem unv_tell (n a b : Nat) (s : Wk) : unv n (tell a b s) = unv n s := by
  unfold tell
  split <;> rfl
theorem Bd.one {n ke kj a fr b : Nat} {q : Wk × Nat × Bool} {rec : Nat → Wk → Wk} (h : Bd n ke kj q.1) (hr : b ≠ fr → ¬ V q.1 b → Bd n (ke + 1) kj (rec b q.1)) : Bd n ke kj (kid rec a fr q b).1 ∧ (kid rec a fr q b).2.1 ≤ q.2.1 + 1 := by
  unfold kid
  by_cases e : b = fr
  · rw [if_pos e]; exact ⟨h, by omega⟩
  · rw [if_neg e]
    by_cases hv : 0 < g q.1.wh b
    · rw [if_pos hv]
      exact ⟨⟨h.un, h.ed, h.jo⟩, by simp⟩
    · rw [if_neg hv]
      have r := hr e hv
      refine ⟨⟨?_, ?_, ?_⟩, Nat.le_refl _⟩
      · simp only [unv_tell]
        have := r.un
        unfold tell
        split <;> exact this
      · have := r.ed
        simp only [tell]
        split
        · simp only [low, List.length_append, List.length_singleton]; omega
        · simp only [low]; omega
      · have := r.jo
        simp only [tell]
        split <;> exact this
theorem Bd.runs {n : Nat} {l : List Ed} {a fr p f ke kj : Nat} {s : Wk} {rec : Nat → Wk → Wk} (k : Pre n l a fr s) (hl : ∀ u, ¬ adj l u u) (hin : ∀ u v, adj l u v → v < n) (hf : unv n s ≤ f + 1) (hrec : ∀ b q, Pre n l b a q → unv n q ≤ f → Post n l b a p q (rec b q))
    (hbd : ∀ b q, Pre n l b a q → unv n q ≤ f → Bd n ke kj q → Bd n (ke + 1) kj (rec b q)) :
    ∀ (xs : List Nat) (M : Nat → Prop) (q : Wk × Nat × Bool), (∃ T E, Mid n l a fr p s q.1 T M E) → Bd n ke kj q.1 → (∀ x, x ∈ xs → adj l a x) → Bd n ke kj (xs.foldl (kid rec a fr) q).1 ∧ (xs.foldl (kid rec a fr) q).2.1 ≤ q.2.1 + xs.length
  | [], M, q, _, hb, _ => ⟨hb, Nat.le_refl _⟩
  | x :: xs, M, q, ⟨T, E, h⟩, hb, hx => by
    have hadj := hx x (List.mem_cons_self ..)
    have h1 := h.one (rec := rec) k hl hin hadj (fun hv => hrec x q.1 (h.pre k hl (hin _ _ hadj) hadj hv) (by have := h.fewer k; omega))
    have h2 := hb.one (a := a) (fr := fr) (b := x) (rec := rec) fun _ hv => hbd x q.1 (h.pre k hl (hin _ _ hadj) hadj hv) (by have := h.fewer k; omega) hb
    have h3 := Bd.runs k hl hin hf hrec hbd xs (fun u => M u ∨ u = x) (kid rec a fr q x) h1 h2.1 (fun y hy => hx y (List.mem_cons_of_mem _ hy))
    refine ⟨h3.1, ?_⟩
    have := h3.2
    have := h2.2
    rw [List.foldl_cons, List.length_cons]
    omega
/-- As far as the walk has come at a node: i of those beside it are done. -/
def qa (N : Nat → List Nat) (p f a fr : Nat) (s : Wk) (i : Nat) : Wk × Nat × Bool := ((N a).take i).foldl (kid (fun b s => visit N p f b a s) a fr) (start a p s, 0, false)
theorem qa_zero (N : Nat → List Nat) (p f a fr : Nat) (s : Wk) : qa N p f a fr s 0 = (start a p s, 0, false) := by simp [qa]
theorem qa_succ {N : Nat → List Nat} {p f a fr i b : Nat} {s : Wk} (h : (N a)[i]? = some b) : qa N p f a fr s (i + 1) = kid (fun b s => visit N p f b a s) a fr (qa N p f a fr s i) b := by
  unfold qa
  rw [List.take_add_one, h, List.foldl_append]
  rfl
theorem qa_all (N : Nat → List Nat) (p f a fr : Nat) (s : Wk) : visit N p (f + 1) a fr s = fin a fr (qa N p f a fr s (N a).length) := by
  unfold qa
  rw [List.take_length]
  rfl
theorem fin_bd {n ke kj a fr : Nat} {q : Wk × Nat × Bool} (h : Bd n ke (kj + 1) q.1) : Bd n ke kj (fin a fr q) := by
  unfold fin
  split
  · exact ⟨h.un, h.ed, by have := h.jo; simp only [List.length_append, List.length_singleton]; omega⟩
  · exact ⟨h.un, h.ed, by have := h.jo; omega⟩
theorem visit_bd {n : Nat} {l : List Ed} {N : Nat → List Nat} (hN : Bes n l N) (hl : ∀ u, ¬ adj l u u) (hin : ∀ u v, adj l u v → v < n) (p : Nat) : ∀ (f a fr ke kj : Nat) (s : Wk), Pre n l a fr s → unv n s ≤ f → Bd n ke kj s → Bd n (ke + 1) kj (visit N p f a fr s)
  | 0, a, fr, ke, kj, s, k, hf, hb => by
    have := (begun (p := p) k hl).fewer k
    omega
  | f + 1, a, fr, ke, kj, s, k, hf, hb => by
    have h := Bd.runs (ke := ke + 1) (kj := kj + 1) k hl hin hf (fun b q hq hf => visit_post hN hl hin p f b a q hq hf) (fun b q hq hf hb => visit_bd hN hl hin p f b a _ _ q hq hf hb) (N a) (fun _ => False) (start a p s, 0, false) ⟨_, _, begun k hl⟩ (hb.begun k hl) (fun x hx => ((hN a k.an x).1 hx).2)
    exact fin_bd h.1
/-- What is known at each node beside. -/
structure At (n : Nat) (l : List Ed) (a fr f ke kj : Nat) (s : Wk) (i : Nat) (q : Wk × Nat × Bool) : Prop where
  ok : Ok n q.1
  bd : Bd n (ke + 1) (kj + 1) q.1
  kids : q.2.1 ≤ i
  pre : ∀ b, adj l a b → ¬ V q.1 b → Pre n l b a q.1 ∧ unv n q.1 ≤ f
theorem qa_at {n : Nat} {l : List Ed} {N : Nat → List Nat} {p f a fr ke kj : Nat} {s : Wk} (hN : Bes n l N) (hl : ∀ u, ¬ adj l u u) (hin : ∀ u v, adj l u v → v < n) (k : Pre n l a fr s) (hf : unv n s ≤ f + 1) (hb : Bd n ke kj s) (i : Nat) : At n l a fr f ke kj s i (qa N p f a fr s i) := by
  have hx : ∀ x, x ∈ (N a).take i → adj l a x := fun x hx => ((hN a k.an x).1 (List.mem_of_mem_take hx)).2
  have hr : ∀ b q, Pre n l b a q → unv n q ≤ f → Post n l b a p q (visit N p f b a q) := fun b q hq hf => visit_post hN hl hin p f b a q hq hf
  obtain ⟨T, E, h⟩ := Mid.runs (rec := fun b s => visit N p f b a s) k hl hin hf hr ((N a).take i) (fun _ => False) (start a p s, 0, false) ⟨_, _, begun k hl⟩ hx
  have h2 := Bd.runs (rec := fun b s => visit N p f b a s) (ke := ke + 1) (kj := kj + 1) k hl hin hf hr (fun b q hq hf hb => visit_bd hN hl hin p f b a _ _ q hq hf hb) ((N a).take i) (fun _ => False) (start a p s, 0, false) ⟨_, _, begun k hl⟩ (hb.begun k hl) hx
  refine ⟨h.toOk, h2.1, ?_, fun b hadj hv => ⟨h.pre k hl (hin _ _ hadj) hadj hv, ?_⟩⟩
  · have := h2.2
    simp only [Nat.zero_add] at this
    exact Nat.le_trans this (by rw [List.length_take]; omega)
  · have := h.fewer k
    show unv n (qa N p f a fr s i).1 ≤ f
    unfold qa
    omega
theorem zero_bd (n : Nat) : Bd n 0 0 (zero n) := ⟨by have : unv n (zero n) ≤ n := cnt_le _ _; simp [zero] at this ⊢; exact this, Nat.le_refl _, Nat.le_refl _⟩
theorem walked_bd {n : Nat} {l : List Ed} {N : Nat → List Nat} (hN : Bes n l N) (hl : ∀ u, ¬ adj l u u) (hin : ∀ u v, adj l u v → v < n) : ∀ k, k ≤ n → Bd n 0 0 (walked N n k)
  | 0, _ => zero_bd n
  | k + 1, hk => by
    have h := walked_bd hN hl hin k (by omega)
    unfold walked
    by_cases h0 : g (walked N n k).wh k = 0
    · rw [if_pos h0]
      have hv : ¬ V (walked N n k) k := by unfold V; omega
      have := visit_bd hN hl hin k n k k 0 0 _ ((walked_all hN hl hin k (by omega)).pre (by omega) hv) (cnt_le _ _) h
      exact ⟨this.un, by have := this.ed; omega, this.jo⟩
    · rw [if_neg h0]; exact h
end DF
end Go.Proofs.Ytckcbfnffmohgaa
namespace Go.Proofs.Ytckcbfnffmohgaa
open Go
set_option linter.unusedVariables false
namespace DF
open PD (g adj Ed adj_symm g_set_self g_set_ne)

/-- These are the parts. -/
structure Pts (n : Nat) (l : List Ed) (p : List Int) : Prop where
  len : p.length = n
  pa : ∀ v, v < n → ∃ r : Nat, g p v = (r : Int) ∧ r ≤ v ∧ Cn (adj l) r v
  pe : ∀ u v, adj l u v → g p u = g p v
/-- These are the bridges. -/
structure Brs (l : List Ed) (x : List Ed) : Prop where
  edm : ∀ e ∈ x, ∃ c d, e = ek c d ∧ adj l c d
  edb : ∀ c d, adj l c d → (ek c d ∈ x ↔ ¬ Go2 l c d)
theorem All.pts {n : Nat} {l : List Ed} {s : Wk} (h : All n l n s) (hin : ∀ u v, adj l u v → v < n) : Pts n l s.pa :=
  ⟨h.pl, fun v hv => h.pa v (h.all v hv hv), fun u v hadj => h.pe u v (h.all u (hin _ _ (adj_symm hadj)) (hin _ _ (adj_symm hadj))) hadj⟩
theorem All.brs {n : Nat} {l : List Ed} {s : Wk} (h : All n l n s) (hin : ∀ u v, adj l u v → v < n) : Brs l s.ed :=
  ⟨fun e he => by obtain ⟨c, d, h1, _, _, h4⟩ := h.edm e he; exact ⟨c, d, h1, h4⟩, fun c d hadj => h.edb c d (h.all c (hin _ _ (adj_symm hadj)) (hin _ _ (adj_symm hadj))) (h.all d (hin _ _ hadj) (hin _ _ hadj)) hadj⟩
theorem Brs.perm {l x y : List Ed} (h : Brs l x) (hp : ∀ e, e ∈ y ↔ e ∈ x) : Brs l y :=
  ⟨fun e he => h.edm e ((hp e).1 he), fun c d hadj => (hp _).trans (h.edb c d hadj)⟩
theorem Pts.same {n : Nat} {l : List Ed} {p : List Int} (h : Pts n l p) {u v : Nat} (c : Cn (adj l) u v) : g p u = g p v := by
  have := c.keeps (S := fun z => g p z = g p u) (fun x y e => by rw [h.pe x y e])
  exact (this.1 rfl).symm
theorem Pts.joined {n : Nat} {l : List Ed} {p : List Int} (h : Pts n l p) {u v : Nat} (hu : u < n) (hv : v < n) : g p u = g p v ↔ Cn (adj l) u v := by
  refine ⟨fun e => ?_, h.same⟩
  obtain ⟨r, h1, _, h3⟩ := h.pa u hu
  obtain ⟨r', h1', _, h3'⟩ := h.pa v hv
  have : r = r' := by omega
  subst this
  exact .trans (.symm h3) h3'
/-- An edge more. -/
structure More (l m : List Ed) (a b : Nat) : Prop where
  has : ∀ u v, adj m u v ↔ adj l u v ∨ (u = a ∧ v = b) ∨ (u = b ∧ v = a)
  new : ¬ adj l a b
theorem More.brs {l m x y : List Ed} {a b : Nat} (h : More l m a b) (hx : Brs l x) (hy : Brs m y) {e : Ed} (he : e ∈ y) : e ∈ x ∨ e = ek a b := by
  obtain ⟨c, d, rfl, hadj⟩ := hy.edm e he
  have hn := (hy.edb c d hadj).1 he
  rcases (h.has c d).1 hadj with q | ⟨rfl, rfl⟩ | ⟨rfl, rfl⟩
  · left
    refine (hx.edb c d q).2 fun w => hn (w.mono fun u v e => ⟨(h.has u v).2 (.inl e.1), e.2⟩)
  · exact .inr rfl
  · exact .inr (ek_comm _ _)
theorem More.joins {n : Nat} {l m y : List Ed} {p : List Int} {a b : Nat} (h : More l m a b) (hy : Brs m y) (hp : Pts n l p) (ha : a < n) (hb : b < n) : ek a b ∈ y ↔ g p a ≠ g p b := by
  rw [hy.edb a b ((h.has a b).2 (.inr (.inl ⟨rfl, rfl⟩))), Ne, hp.joined ha hb]
  refine not_congr ⟨fun q => q.mono fun u v e => ?_, fun q => q.mono fun u v e => ⟨(h.has u v).2 (.inl e), fun w => h.new (w.1 ▸ w.2 ▸ e), fun w => h.new (adj_symm (w.1 ▸ w.2 ▸ e))⟩⟩
  rcases (h.has u v).1 e.1 with w | w | w
  · exact w
  · exact absurd w e.2.1
  · exact absurd w e.2.2
theorem More.ends {n : Nat} {l m : List Ed} {q : List Int} {a b : Nat} (h : More l m a b) (hq : Pts n m q) : g q a = g q b := hq.pe a b ((h.has a b).2 (.inr (.inl ⟨rfl, rfl⟩)))
theorem More.parts {n : Nat} {l m : List Ed} {p q : List Int} {a b : Nat} (h : More l m a b) (hp : Pts n l p) (hq : Pts n m q) {i : Nat} (hi : i < n) : ∃ r : Nat, g p i = (r : Int) ∧ r < n ∧ g q i ≤ r ∧ g q i = g q r := by
  obtain ⟨r, h1, h2, h3⟩ := hp.pa i hi
  have e : g q r = g q i := hq.same (h3.mono fun u v e => (h.has u v).2 (.inl e))
  obtain ⟨z, z1, z2, _⟩ := hq.pa r (by omega)
  exact ⟨r, h1, by omega, by omega, e.symm⟩
end DF
end Go.Proofs.Ytckcbfnffmohgaa
namespace Go.Proofs.Ytckcbfnffmohgaa
open Go
set_option linter.unusedVariables false
namespace DF
open PD (g adj Ed adj_symm g_set_self g_set_ne cnt_le)

/-- The edges that do not touch a. -/
def No (l : List Ed) (a u v : Nat) : Prop := adj l u v ∧ u ≠ a ∧ v ≠ a
/-- Two nodes beside a are not joined without it. -/
def Jt (l : List Ed) (a : Nat) : Prop := ∃ u v, adj l a u ∧ adj l a v ∧ ¬ Cn (No l a) u v
theorem In.no {l : List Ed} {S : Nat → Prop} {a x y : Nat} (h : ¬ S a) (k : Cn (In l S) x y) : Cn (No l a) x y :=
  k.mono fun u v e => ⟨e.1, fun q => h (q ▸ e.2.1), fun q => h (q ▸ e.2.2)⟩
theorem reach {l : List Ed} {a v : Nat} (h : Cn (adj l) a v) : v = a ∨ ∃ b, adj l a b ∧ Cn (No l a) b v := by
  have key : ∀ u v, adj l u v → (u = a ∨ ∃ b, adj l a b ∧ Cn (No l a) b u) → (v = a ∨ ∃ b, adj l a b ∧ Cn (No l a) b v) := fun u v e q => by
    by_cases hv : v = a
    · exact .inl hv
    · right
      rcases q with q | ⟨b, hb, hc⟩
      · subst q; exact ⟨v, e, .refl _⟩
      · by_cases hu : u = a
        · subst hu; exact ⟨v, e, .refl _⟩
        · exact ⟨b, hb, .trans hc (.edge ⟨e, hu, hv⟩)⟩
  exact (h.keeps (S := fun x => x = a ∨ ∃ b, adj l a b ∧ Cn (No l a) b x) (fun u v e => ⟨key u v e, key v u (adj_symm e)⟩)).1 (.inl rfl)
/-- Come to since. -/
def Nw (s s' : Wk) (v : Nat) : Prop := V s' v ∧ ¬ V s v
theorem Mid.nw {n : Nat} {l : List Ed} {a fr p : Nat} {s s' : Wk} {T M : Nat → Prop} {E : List Ed} (h : Mid n l a fr p s s' T M E) (v : Nat) : T v ↔ Nw s s' v :=
  ⟨fun q => ⟨(h.vis v).2 (.inr q), (h.new v q).2.1⟩, fun q => ((h.vis v).1 q.1).resolve_left q.2⟩
/-- The joints that a visit tells. -/
def JPost (l : List Ed) (s s' : Wk) : Prop := ∃ J, s'.jo = s.jo ++ J ∧ J.Nodup ∧ (∀ c ∈ J, Nw s s' c) ∧ (∀ c, Nw s s' c → (c ∈ J ↔ Jt l c))
structure JMid (l : List Ed) (a fr : Nat) (s : Wk) (q : Wk × Nat × Bool) (T : Nat → Prop) (J : List Nat) : Prop where
  jo : q.1.jo = s.jo ++ J
  nd : J.Nodup
  jm : ∀ c ∈ J, T c ∧ c ≠ a
  jj : ∀ c, T c → c ≠ a → (c ∈ J ↔ Jt l c)
  r : fr ≠ a → (q.2.2 = true ↔ ∃ v, T v ∧ v ≠ a ∧ ¬ Cn (No l a) v fr)
  z : fr = a → (q.2.1 = 0 ↔ ∀ v, T v → v = a)
  o : fr = a → (q.2.1 ≤ 1 ↔ ∀ x y, T x → T y → x ≠ a → y ≠ a → Cn (No l a) x y)
theorem JMid.congr {l : List Ed} {a fr : Nat} {s : Wk} {q : Wk × Nat × Bool} {T T' : Nat → Prop} {J : List Nat} (h : JMid l a fr s q T J) (hT : ∀ v, T v ↔ T' v) : JMid l a fr s q T' J := by
  have : T = T' := funext fun v => propext (hT v)
  subst this
  exact h
theorem JMid.begun (l : List Ed) (a fr p : Nat) (s : Wk) : JMid l a fr s (start a p s, 0, false) (fun v => v = a) [] :=
  { jo := by simp [start], nd := List.nodup_nil, jm := fun c h => by simp at h, jj := fun c h1 h2 => absurd h1 h2, r := fun _ => ⟨fun h => by simp at h, fun ⟨v, h1, h2, _⟩ => absurd h1 h2⟩, z := fun _ => ⟨fun _ v h => h, fun _ => rfl⟩, o := fun _ => ⟨fun _ x y h1 _ h2 _ => absurd h1 h2, fun _ => Nat.zero_le _⟩ }
theorem JMid.come {n : Nat} {l : List Ed} {a fr p b : Nat} {s s2 : Wk} {q : Wk × Nat × Bool} {T M Tb : Nat → Prop} {E Eb : List Ed} {J : List Nat} (m : JMid l a fr s q T J) (h : Mid n l a fr p s q.1 T M E) (k : Pre n l a fr s) (hl : ∀ u, ¬ adj l u u) (hin : ∀ u v, adj l u v → v < n) (hb : adj l a b) (hv : ¬ V q.1 b) (r : Mid n l b a p q.1 s2 Tb (fun _ => True) Eb) (hj : JPost l q.1 s2) :
    ∃ J', JMid l a fr s (tell a b (low a (g s2.lo b) s2), q.2.1 + 1, q.2.2 || decide (g (low a (g s2.lo b) s2).wh a ≤ g (low a (g s2.lo b) s2).lo b)) (fun v => T v ∨ Tb v) J' := by
  have two := h.two k hl hin hb hv r
  have hlb : g (low a (g s2.lo b) s2).lo b = g s2.lo b := low_ne two.ne.symm
  have e1 : (low a (g s2.lo b) s2).wh = s2.wh := rfl
  have ejo : (tell a b (low a (g s2.lo b) s2)).jo = s2.jo := by unfold tell; split <;> rfl
  have va : V q.1 a := two.on a h.ta
  have nTa : ¬ Tb a := fun w => two.off a w va
  have vs : ∀ v, V s v → V q.1 v := fun v w => (h.vis v).2 (.inl w)
  have tb : ∀ v, Tb v → ¬ T v := fun v w z => two.off v w (two.on v z)
  have wa2 : g s2.wh a = g q.1.wh a := (r.old a va).1
  have tst : g s2.wh a ≤ g s2.lo b ↔ ∀ v u, Tb v → adj l v u → ¬ V s u := by
    constructor
    · intro w v u hTb hadj hu
      have h1 := r.low2 v u hTb hadj (hin _ _ hadj) (fun _ => trivial) (vs u hu) (fun z => k.av (z.2 ▸ hu))
      rw [(h.old u hu).1] at h1
      have h2 := k.le u (hin _ _ hadj)
      rw [wa2, h.wa] at w
      omega
    · intro w
      rcases r.low3 with h1 | ⟨v, u, h1, h2, _, h3, h4, h5⟩
      · rw [h1, r.wa, wa2]
        have := h.le a k.an
        omega
      · rcases (h.vis u).1 h3 with h6 | h6
        · exact absurd h6 (w v u h1 h2)
        · have : u = a := two.via u v h6 h1 (adj_symm h2)
          subst this
          rw [h5, wa2]
          exact Int.le_refl _
  have clos : (∀ v u, Tb v → adj l v u → ¬ V s u) → ∀ {x y : Nat}, Cn (No l a) x y → (Tb x ↔ Tb y) := fun w x y c =>
    c.keeps (S := Tb) fun u v e => by
      have go1 : ∀ u v, No l a u v → Tb u → Tb v := fun u v e hu => by
        rcases r.clo u v hu e.1 (hin _ _ e.1) (fun _ => trivial) with z | z
        · exact z
        · rcases (h.vis v).1 z with z | z
          · exact absurd z (w u v hu e.1)
          · exact absurd (two.via v u z hu (adj_symm e.1)) e.2.2
      exact ⟨go1 u v e, go1 v u ⟨adj_symm e.1, e.2.2, e.2.1⟩⟩
  obtain ⟨Jb, j1, j2, j3, j4⟩ := hj
  refine ⟨J ++ Jb, { jo := by rw [ejo, j1, m.jo, List.append_assoc], nd := ?_, jm := fun c hc => ?_, jj := fun c hc hca => ?_, r := fun hfr => ?_, z := fun hfr => ?_, o := fun hfr => ?_ }⟩
  · rw [List.nodup_append]
    refine ⟨m.nd, j2, fun c hc c' hc' e => ?_⟩
    subst e
    exact tb c ((r.nw c).2 (j3 c hc')) (m.jm c hc).1
  · rcases List.mem_append.1 hc with hc | hc
    · exact ⟨.inl (m.jm c hc).1, (m.jm c hc).2⟩
    · have hT := (r.nw c).2 (j3 c hc)
      exact ⟨.inr hT, fun e => nTa (e ▸ hT)⟩
  · rw [List.mem_append]
    rcases hc with hc | hc
    · have : c ∉ Jb := fun w => tb c ((r.nw c).2 (j3 c w)) hc
      simp only [this, or_false]
      exact m.jj c hc hca
    · have : c ∉ J := fun w => tb c hc (m.jm c w).1
      simp only [this, false_or]
      exact j4 c ((r.nw c).1 hc)
  · show (q.2.2 || decide (g (low a (g s2.lo b) s2).wh a ≤ g (low a (g s2.lo b) s2).lo b)) = true ↔ _
    rw [Bool.or_eq_true, m.r hfr, decide_eq_true_eq, e1, hlb, tst]
    obtain ⟨f1, f2⟩ := k.fr1 hfr
    constructor
    · rintro (⟨v, h1, h2, h3⟩ | w)
      · exact ⟨v, .inl h1, h2, h3⟩
      · refine ⟨b, .inr r.ta, two.ne.symm, fun c => ?_⟩
        exact two.off fr ((clos w c).1 r.ta) (vs fr f1)
    · rintro ⟨v, h1 | h1, h2, h3⟩
      · exact .inl ⟨v, h1, h2, h3⟩
      · right
        intro v0 u0 k1 k2 k3
        apply h3
        have c1 : Cn (No l a) v v0 := .trans (.symm (In.no nTa (r.con v h1))) (In.no nTa (r.con v0 k1))
        have c2 : Cn (No l a) v0 u0 := .edge ⟨k2, fun e => nTa (e ▸ k1), fun e => k.av (e ▸ k3)⟩
        have c3 := (k.bnd u0 v0 k3 (adj_symm k2) (r.new v0 k1).1 (fun w => two.off v0 k1 (vs v0 w))).2
        exact .trans (.trans c1 c2) (.symm (In.no k.av c3))
  · show q.2.1 + 1 = 0 ↔ _
    exact ⟨fun w => by omega, fun w => absurd (w b (.inr r.ta)) two.ne.symm⟩
  · show q.2.1 + 1 ≤ 1 ↔ _
    constructor
    · intro w x y hx hy hxa hya
      have h0 := (m.z hfr).1 (by omega)
      rcases hx with hx | hx
      · exact absurd (h0 x hx) hxa
      rcases hy with hy | hy
      · exact absurd (h0 y hy) hya
      exact .trans (.symm (In.no nTa (r.con x hx))) (In.no nTa (r.con y hy))
    · intro w
      suffices q.2.1 = 0 by omega
      refine (m.z hfr).2 fun x hx => ?_
      apply Classical.byContradiction
      intro hxa
      have c := w x b (.inl hx) (.inr r.ta) hxa two.ne.symm
      have cl := clos (fun v u h1 h2 h3 => (k.bnd u v h3 (adj_symm h2) (r.new v h1).1 (fun z => two.off v h1 (vs v z))).1 hfr) c
      exact tb x (cl.2 r.ta) hx
/-- A visit's end: whether the node itself is a joint. -/
theorem JMid.ends {n : Nat} {l : List Ed} {a fr p : Nat} {s : Wk} {q : Wk × Nat × Bool} {T : Nat → Prop} {E : List Ed} {J : List Nat} (m : JMid l a fr s q T J) (h : Mid n l a fr p s q.1 T (fun _ => True) E) (k : Pre n l a fr s) (hl : ∀ u, ¬ adj l u u) (hin : ∀ u v, adj l u v → v < n) : JPost l s (fin a fr q) := by
  have hne : ∀ u, adj l a u → u ≠ a := fun u w e => hl a (e ▸ w)
  have side : ∀ u, adj l a u → T u ∨ V s u := fun u w => h.clo a u h.ta w (hin _ _ w) (fun _ => trivial)
  have key : ((fr ≠ a ∧ q.2.2 = true) ∨ (fr = a ∧ 1 < q.2.1)) ↔ Jt l a := by
    by_cases hfr : fr = a
    · have e : ((fr ≠ a ∧ q.2.2 = true) ∨ (fr = a ∧ 1 < q.2.1)) ↔ ¬ (q.2.1 ≤ 1) := by
        constructor
        · rintro (w | w)
          · exact absurd hfr w.1
          · omega
        · intro w; exact .inr ⟨hfr, by omega⟩
      rw [e, m.o hfr]
      constructor
      · intro w
        apply Classical.byContradiction
        intro nj
        apply w
        intro x y hx hy hxa hya
        rcases reach ((h.con x hx).mono fun _ _ e => e.1) with z | ⟨b, b1, b2⟩
        · exact absurd z hxa
        rcases reach ((h.con y hy).mono fun _ _ e => e.1) with z | ⟨c, c1, c2⟩
        · exact absurd z hya
        have : Cn (No l a) b c := Classical.byContradiction fun z => nj ⟨b, c, b1, c1, z⟩
        exact .trans (.symm b2) (.trans this c2)
      · rintro ⟨u, v, h1, h2, h3⟩ w
        have inT : ∀ u, adj l a u → T u := fun u z => by
          rcases side u z with z' | z'
          · exact z'
          · exact absurd hfr (k.bnd u a z' (adj_symm z) k.an k.av).1
        exact h3 (w u v (inT u h1) (inT v h2) (hne u h1) (hne v h2))
    · have e : ((fr ≠ a ∧ q.2.2 = true) ∨ (fr = a ∧ 1 < q.2.1)) ↔ q.2.2 = true := by
        constructor
        · rintro (w | w)
          · exact w.2
          · exact absurd w.1 hfr
        · intro w; exact .inl ⟨hfr, w⟩
      rw [e, m.r hfr]
      obtain ⟨f1, f2⟩ := k.fr1 hfr
      constructor
      · rintro ⟨v, h1, h2, h3⟩
        rcases reach ((h.con v h1).mono fun _ _ e => e.1) with z | ⟨b, b1, b2⟩
        · exact absurd z h2
        exact ⟨b, fr, b1, adj_symm f2, fun c => h3 (.trans (.symm b2) c)⟩
      · rintro ⟨u, v, h1, h2, h3⟩
        apply Classical.byContradiction
        intro nx
        have all : ∀ x, adj l a x → Cn (No l a) x fr := fun x z => by
          rcases side x z with z' | z'
          · exact Classical.byContradiction fun w => nx ⟨x, z', hne x z, w⟩
          · exact .symm (In.no k.av (k.bnd x a z' (adj_symm z) k.an k.av).2)
        exact h3 (.trans (all u h1) (.symm (all v h2)))
  have hV : ∀ v, Nw s (fin a fr q) v ↔ T v := fun v => by
    rw [h.nw v]
    unfold fin
    split <;> exact Iff.rfl
  unfold JPost
  simp only [hV]
  by_cases hc : (fr ≠ a ∧ q.2.2 = true) ∨ (fr = a ∧ 1 < q.2.1)
  · refine ⟨J ++ [a], ?_, ?_, fun c hx => ?_, fun c hx => ?_⟩
    · unfold fin; rw [if_pos hc]; show q.1.jo ++ [a] = _; rw [m.jo, List.append_assoc]
    · rw [List.nodup_append]
      refine ⟨m.nd, by simp, fun c h1 c' h2 e => ?_⟩
      simp at h2; subst h2; subst e
      exact (m.jm c h1).2 rfl
    · rcases List.mem_append.1 hx with hx | hx
      · exact (m.jm c hx).1
      · simp at hx; subst hx; exact h.ta
    · rw [List.mem_append, List.mem_singleton]
      by_cases e : c = a
      · subst e; simp only [or_true, true_iff]; exact key.1 hc
      · simp only [e, or_false]; exact m.jj c hx e
  · refine ⟨J, ?_, m.nd, fun c hx => (m.jm c hx).1, fun c hx => ?_⟩
    · unfold fin; rw [if_neg hc]; exact m.jo
    · by_cases e : c = a
      · subst e
        exact ⟨fun w => absurd rfl (m.jm c w).2, fun w => absurd (key.2 w) hc⟩
      · exact m.jj c hx e
theorem JMid.one {n : Nat} {l : List Ed} {a fr p b : Nat} {s : Wk} {q : Wk × Nat × Bool} {T M : Nat → Prop} {E : List Ed} {J : List Nat} {rec : Nat → Wk → Wk} (m : JMid l a fr s q T J) (h : Mid n l a fr p s q.1 T M E) (k : Pre n l a fr s) (hl : ∀ u, ¬ adj l u u) (hin : ∀ u v, adj l u v → v < n) (hb : adj l a b) (hrec : ¬ V q.1 b → Post n l b a p q.1 (rec b q.1)) (hrj : ¬ V q.1 b → JPost l q.1 (rec b q.1)) :
    ∃ T' E' J', Mid n l a fr p s (kid rec a fr q b).1 T' (fun u => M u ∨ u = b) E' ∧ JMid l a fr s (kid rec a fr q b) T' J' := by
  obtain ⟨T', E', h'⟩ := h.one (rec := rec) k hl hin hb hrec
  refine ⟨T', E', ?_⟩
  have hT : ∀ v, T' v ↔ Nw s (kid rec a fr q b).1 v := h'.nw
  unfold kid at hT ⊢
  by_cases e : b = fr
  · rw [if_pos e] at hT ⊢
    unfold kid at h'
    rw [if_pos e] at h'
    exact ⟨J, h', m.congr fun v => (h.nw v).trans (hT v).symm⟩
  · rw [if_neg e] at hT ⊢
    unfold kid at h'
    rw [if_neg e] at h'
    by_cases hv : 0 < g q.1.wh b
    · rw [if_pos hv] at hT h' ⊢
      have m' : JMid l a fr s (low a (g q.1.wh b) q.1, q.2) T J := { m with }
      exact ⟨J, h', m'.congr fun v => (h.nw v).trans (hT v).symm⟩
    · rw [if_neg hv] at hT h' ⊢
      obtain ⟨Tb, Eb, r⟩ := hrec hv
      obtain ⟨J', hj⟩ := m.come h k hl hin hb hv r (hrj hv)
      refine ⟨J', h', hj.congr fun v => ?_⟩
      rw [hT v]
      have ew : (tell a b (low a (g (rec b q.1).lo b) (rec b q.1))).wh = (rec b q.1).wh := by unfold tell; split <;> rfl
      show T v ∨ Tb v ↔ (0 < g (tell a b (low a (g (rec b q.1).lo b) (rec b q.1))).wh v ∧ ¬ V s v)
      rw [ew]
      have r1 := r.vis v
      have r2 := h.vis v
      unfold V at r1 r2 ⊢
      constructor
      · rintro (w | w)
        · exact ⟨r1.2 (.inl (r2.2 (.inr w))), (h.new v w).2.1⟩
        · exact ⟨r1.2 (.inr w), fun z => (r.new v w).2.1 (r2.2 (.inl z))⟩
      · rintro ⟨w1, w2⟩
        rcases r1.1 w1 with w | w
        · rcases r2.1 w with z | z
          · exact absurd z w2
          · exact .inl z
        · exact .inr w
theorem JMid.runs {n : Nat} {l : List Ed} {a fr p f : Nat} {s : Wk} {rec : Nat → Wk → Wk} (k : Pre n l a fr s) (hl : ∀ u, ¬ adj l u u) (hin : ∀ u v, adj l u v → v < n) (hf : unv n s ≤ f + 1) (hrec : ∀ b q, Pre n l b a q → unv n q ≤ f → Post n l b a p q (rec b q)) (hrj : ∀ b q, Pre n l b a q → unv n q ≤ f → JPost l q (rec b q)) :
    ∀ (xs : List Nat) (M : Nat → Prop) (q : Wk × Nat × Bool), (∃ T E J, Mid n l a fr p s q.1 T M E ∧ JMid l a fr s q T J) → (∀ x, x ∈ xs → adj l a x) → ∃ T E J, Mid n l a fr p s (xs.foldl (kid rec a fr) q).1 T (fun u => M u ∨ u ∈ xs) E ∧ JMid l a fr s (xs.foldl (kid rec a fr) q) T J
  | [], M, q, ⟨T, E, J, h, m⟩, _ => ⟨T, E, J, h.more (fun u _ _ w => by simpa using w), m⟩
  | x :: xs, M, q, ⟨T, E, J, h, m⟩, hx => by
    have hb := hx x (List.mem_cons_self ..)
    have hp : ¬ V q.1 x → Pre n l x a q.1 ∧ unv n q.1 ≤ f := fun hv => ⟨h.pre k hl (hin _ _ hb) hb hv, by have := h.fewer k; omega⟩
    have h1 := m.one (rec := rec) h k hl hin hb (fun hv => hrec x q.1 (hp hv).1 (hp hv).2) (fun hv => hrj x q.1 (hp hv).1 (hp hv).2)
    obtain ⟨T', E', J', h2, m2⟩ := JMid.runs k hl hin hf hrec hrj xs (fun u => M u ∨ u = x) (kid rec a fr q x) h1 (fun y hy => hx y (List.mem_cons_of_mem _ hy))
    refine ⟨T', E', J', h2.more fun u _ _ w => ?_, m2⟩
    rcases w with w | w
    · exact .inl (.inl w)
    · rcases List.mem_cons.1 w with w | w
      · exact .inl (.inr w)
      · exact .inr w
theorem visit_jo {n : Nat} {l : List Ed} {N : Nat → List Nat} (hN : Bes n l N) (hl : ∀ u, ¬ adj l u u) (hin : ∀ u v, adj l u v → v < n) (p : Nat) : ∀ (f a fr : Nat) (s : Wk), Pre n l a fr s → unv n s ≤ f → JPost l s (visit N p f a fr s)
  | 0, a, fr, s, k, hf => by
    have := (begun (p := p) k hl).fewer k
    omega
  | f + 1, a, fr, s, k, hf => by
    obtain ⟨T, E, J, h, m⟩ := JMid.runs k hl hin hf (fun b q hq hf => visit_post hN hl hin p f b a q hq hf) (fun b q hq hf => visit_jo hN hl hin p f b a q hq hf) (N a) (fun _ => False) (start a p s, 0, false) ⟨_, _, _, begun k hl, JMid.begun l a fr p s⟩ (fun x hx => ((hN a k.an x).1 hx).2)
    exact m.ends (h.more fun u hu hadj _ => .inr ((hN a k.an u).2 ⟨hu, hadj⟩)) k hl hin
/-- The joints told so far. -/
structure AllJ (l : List Ed) (s : Wk) : Prop where
  nd : s.jo.Nodup
  jm : ∀ c ∈ s.jo, V s c
  jj : ∀ c, V s c → (c ∈ s.jo ↔ Jt l c)
theorem AllJ.step {n p : Nat} {l : List Ed} {k : Nat} {s s' : Wk} (h : AllJ l s) (hp : Post n l k k p s s') (hj : JPost l s s') : AllJ l s' := by
  obtain ⟨T, E, r⟩ := hp
  obtain ⟨J, j1, j2, j3, j4⟩ := hj
  have sV : ∀ v, V s v → V s' v := fun v q => (r.vis v).2 (.inl q)
  refine ⟨?_, fun c hc => ?_, fun c hc => ?_⟩
  · rw [j1, List.nodup_append]
    exact ⟨h.nd, j2, fun c h1 c' h2 e => (j3 c' h2).2 (e ▸ h.jm c h1)⟩
  · rw [j1] at hc
    rcases List.mem_append.1 hc with hc | hc
    · exact sV c (h.jm c hc)
    · exact (j3 c hc).1
  · rw [j1, List.mem_append]
    by_cases q : V s c
    · have : c ∉ J := fun w => (j3 c w).2 q
      simp only [this, or_false]
      exact h.jj c q
    · have : c ∉ s.jo := fun w => q (h.jm c w)
      simp only [this, false_or]
      exact j4 c ⟨hc, q⟩
theorem walked_jo {n : Nat} {l : List Ed} {N : Nat → List Nat} (hN : Bes n l N) (hl : ∀ u, ¬ adj l u u) (hin : ∀ u v, adj l u v → v < n) : ∀ k, k ≤ n → AllJ l (walked N n k)
  | 0, _ => by
    have hv : ∀ v, ¬ V (zero n) v := fun v h => by have := (g_zero n v).1; unfold V zero at h; simp only at h; omega
    exact ⟨by simp [walked, zero], fun c hc => by simp [walked, zero] at hc, fun c hc => absurd hc (hv c)⟩
  | k + 1, hk => by
    have h := walked_jo hN hl hin k (by omega)
    have ha := walked_all hN hl hin k (by omega)
    unfold walked
    by_cases h0 : g (walked N n k).wh k = 0
    · rw [if_pos h0]
      have hv : ¬ V (walked N n k) k := by unfold V; omega
      have hp := ha.pre (by omega) hv
      exact h.step (visit_post hN hl hin k n k k _ hp (cnt_le _ _)) (visit_jo hN hl hin k n k k _ hp (cnt_le _ _))
    · rw [if_neg h0]; exact h
end DF
end Go.Proofs.Ytckcbfnffmohgaa
