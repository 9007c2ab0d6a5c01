/-
  One edge more, no other bridge, in plain Lean. No program in sight.
-/
import Derived.Test.YtakjakglkfhaaaaDoorDf4
namespace Go.Proofs.YtakjakglkfhaaaaDoor
open Go
set_option linter.unusedVariables false
namespace DF
open PD (g adj Ed adj_symm g_set_self g_set_ne)

/-- These are the parts. -/
structure Pts (n : Nat) (l : List Ed) (p : List Int) : Prop where
  len : p.length = n
  pa : ∀ v, v < n → ∃ r : Nat, g p v = (r : Int) ∧ r ≤ v ∧ Cn (adj l) r v
  pe : ∀ u v, adj l u v → g p u = g p v
/-- These are the bridges. -/
structure Brs (l : List Ed) (x : List Ed) : Prop where
  edm : ∀ e ∈ x, ∃ c d, e = ek c d ∧ adj l c d
  edb : ∀ c d, adj l c d → (ek c d ∈ x ↔ ¬ Go2 l c d)
theorem All.pts {n : Nat} {l : List Ed} {s : Wk} (h : All n l n s) (hin : ∀ u v, adj l u v → v < n) : Pts n l s.pa :=
  ⟨h.pl, fun v hv => h.pa v (h.all v hv hv), fun u v hadj => h.pe u v (h.all u (hin _ _ (adj_symm hadj)) (hin _ _ (adj_symm hadj))) hadj⟩
theorem All.brs {n : Nat} {l : List Ed} {s : Wk} (h : All n l n s) (hin : ∀ u v, adj l u v → v < n) : Brs l s.ed :=
  ⟨fun e he => by obtain ⟨c, d, h1, _, _, h4⟩ := h.edm e he; exact ⟨c, d, h1, h4⟩, fun c d hadj => h.edb c d (h.all c (hin _ _ (adj_symm hadj)) (hin _ _ (adj_symm hadj))) (h.all d (hin _ _ hadj) (hin _ _ hadj)) hadj⟩
theorem Brs.perm {l x y : List Ed} (h : Brs l x) (hp : ∀ e, e ∈ y ↔ e ∈ x) : Brs l y :=
  ⟨fun e he => h.edm e ((hp e).1 he), fun c d hadj => (hp _).trans (h.edb c d hadj)⟩
theorem Pts.same {n : Nat} {l : List Ed} {p : List Int} (h : Pts n l p) {u v : Nat} (c : Cn (adj l) u v) : g p u = g p v := by
  have := c.keeps (S := fun z => g p z = g p u) (fun x y e => by rw [h.pe x y e])
  exact (this.1 rfl).symm
theorem Pts.joined {n : Nat} {l : List Ed} {p : List Int} (h : Pts n l p) {u v : Nat} (hu : u < n) (hv : v < n) : g p u = g p v ↔ Cn (adj l) u v := by
  refine ⟨fun e => ?_, h.same⟩
  obtain ⟨r, h1, _, h3⟩ := h.pa u hu
  obtain ⟨r', h1', _, h3'⟩ := h.pa v hv
  have : r = r' := by omega
  subst this
  exact .trans (.symm h3) h3'
/-- An edge more. -/
structure More (l m : List Ed) (a b : Nat) : Prop where
  has : ∀ u v, adj m u v ↔ adj l u v ∨ (u = a ∧ v = b) ∨ (u = b ∧ v = a)
  new : ¬ adj l a b
theorem More.brs {l m x y : List Ed} {a b : Nat} (h : More l m a b) (hx : Brs l x) (hy : Brs m y) {e : Ed} (he : e ∈ y) : e ∈ x ∨ e = ek a b := by
  obtain ⟨c, d, rfl, hadj⟩ := hy.edm e he
  have hn := (hy.edb c d hadj).1 he
  rcases (h.has c d).1 hadj with q | ⟨rfl, rfl⟩ | ⟨rfl, rfl⟩
  · left
    refine (hx.edb c d q).2 fun w => hn (w.mono fun u v e => ⟨(h.has u v).2 (.inl e.1), e.2⟩)
  · exact .inr rfl
  · exact .inr (ek_comm _ _)
theorem More.joins {n : Nat} {l m y : List Ed} {p : List Int} {a b : Nat} (h : More l m a b) (hy : Brs m y) (hp : Pts n l p) (ha : a < n) (hb : b < n) : ek a b ∈ y ↔ g p a ≠ g p b := by
  rw [hy.edb a b ((h.has a b).2 (.inr (.inl ⟨rfl, rfl⟩))), Ne, hp.joined ha hb]
  refine not_congr ⟨fun q => q.mono fun u v e => ?_, fun q => q.mono fun u v e => ⟨(h.has u v).2 (.inl e), fun w => h.new (w.1 ▸ w.2 ▸ e), fun w => h.new (adj_symm (w.1 ▸ w.2 ▸ e))⟩⟩
  rcases (h.has u v).1 e.1 with w | w | w
  · exact w
  · exact absurd w e.2.1
  · exact absurd w e.2.2
theorem More.ends {n : Nat} {l m : List Ed} {q : List Int} {a b : Nat} (h : More l m a b) (hq : Pts n m q) : g q a = g q b := hq.pe a b ((h.has a b).2 (.inr (.inl ⟨rfl, rfl⟩)))
theorem More.parts {n : Nat} {l m : List Ed} {p q : List Int} {a b : Nat} (h : More l m a b) (hp : Pts n l p) (hq : Pts n m q) {i : Nat} (hi : i < n) : ∃ r : Nat, g p i = (r : Int) ∧ r < n ∧ g q i ≤ r ∧ g q i = g q r := by
  obtain ⟨r, h1, h2, h3⟩ := hp.pa i hi
  have e : g q r = g q i := hq.same (h3.mono fun u v e => (h.has u v).2 (.inl e))
  obtain ⟨z, z1, z2, _⟩ := hq.pa r (by omega)
  exact ⟨r, h1, by omega, by omega, e.symm⟩
end DF
end Go.Proofs.YtakjakglkfhaaaaDoor
