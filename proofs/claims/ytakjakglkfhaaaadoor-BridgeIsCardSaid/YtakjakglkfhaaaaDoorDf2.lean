/-
  A walk through a graph, deeper and deeper: one node beside it is done. No program in sight.
-/
import Derived.Test.YtakjakglkfhaaaaDoorDf1
namespace Go.Proofs.YtakjakglkfhaaaaDoor
open Go
set_option linter.unusedVariables false
namespace DF
open PD (g adj Ed adj_symm g_set_self g_set_ne)

theorem Mid.skip {n : Nat} {l : List Ed} {a fr p b : Nat} {s s' : Wk} {T M : Nat → Prop} {E : List Ed} (h : Mid n l a fr p s s' T M E) (k : Pre n l a fr s) (hl : ∀ u, ¬ adj l u u) (hb : adj l a b) (e : b = fr) : Mid n l a fr p s s' T (fun u => M u ∨ u = b) E := by
  have hne : fr ≠ a := fun q => by subst e; subst q; exact hl _ hb
  refine { h with clo := fun v u hv hadj hu hm => ?_, low2 := fun v u hv hadj hu hm hV hn => ?_ }
  · by_cases hva : v = a
    · rcases hm hva with hm | hm
      · exact h.clo v u hv hadj hu fun _ => hm
      · rw [hm, e]; exact .inr (k.fr1 hne).1
    · exact h.clo v u hv hadj hu fun q => absurd q hva
  · by_cases hva : v = a
    · rcases hm hva with hm | hm
      · exact h.low2 v u hv hadj hu (fun _ => hm) hV hn
      · exact absurd ⟨hva, hm.trans e⟩ hn
    · exact h.low2 v u hv hadj hu (fun q => absurd q hva) hV hn
theorem low_lo {a : Nat} {x : Int} {s : Wk} (h : a < s.lo.length) : g (low a x s).lo a = min (g s.lo a) x := g_set_self h
theorem low_ne {a v : Nat} {x : Int} {s : Wk} (h : v ≠ a) : g (low a x s).lo v = g s.lo v := g_set_ne (Ne.symm h)
theorem Mid.seen {n : Nat} {l : List Ed} {a fr p b : Nat} {s s' : Wk} {T M : Nat → Prop} {E : List Ed} (h : Mid n l a fr p s s' T M E) (k : Pre n l a fr s) (hbn : b < n) (hb : adj l a b) (e : b ≠ fr) (hv : V s' b) : Mid n l a fr p s (low a (g s'.wh b) s') T (fun u => M u ∨ u = b) E := by
  have hal : a < s'.lo.length := by rw [h.ll]; exact k.an
  have hne : ∀ v, V s v → v ≠ a := fun v hv e => k.av (e ▸ hv)
  have hlo : g (low a (g s'.wh b) s').lo a = min (g s'.lo a) (g s'.wh b) := low_lo hal
  have hsb : V s b → g s'.wh b = g s.wh b := fun q => (h.old b q).1
  have htb : T b → g s'.lo a ≤ g s'.wh b := fun q => by
    have h1 := (h.new b q).2.2.1
    have h2 := h.low1
    rw [h.wa] at h2; omega
  have hcl : T b ∨ V s b := ((h.vis b).1 hv).symm
  refine { h with ll := by simp [low, h.ll], old := fun v q => ?_, clo := fun v u hv hadj hu hm => ?_, low1 := ?_, low2 := fun v u hv hadj hu hm hV hn => ?_, low3 := ?_ }
  · exact ⟨(h.old v q).1, by rw [low_ne (hne v q)]; exact (h.old v q).2.1, (h.old v q).2.2⟩
  · by_cases hva : v = a
    · rcases hm hva with hm | hm
      · exact h.clo v u hv hadj hu fun _ => hm
      · rw [hm]; exact hcl
    · exact h.clo v u hv hadj hu fun q => absurd q hva
  · show g (low a (g s'.wh b) s').lo a ≤ g s'.wh a
    have := h.low1
    rw [hlo]; omega
  · rw [hlo]
    by_cases hva : v = a
    · rcases hm hva with hm | hm
      · have := h.low2 v u hv hadj hu (fun _ => hm) hV hn; omega
      · subst hm; have := hsb hV; omega
    · have := h.low2 v u hv hadj hu (fun q => absurd q hva) hV hn; omega
  · show g (low a (g s'.wh b) s').lo a = g s'.wh a ∨ _
    rw [hlo]
    by_cases hlt : g s'.wh b < g s'.lo a
    · rcases hcl with q | q
      · have := htb q; omega
      · exact .inr ⟨a, b, h.ta, hb, hbn, q, fun r => e r.2, by rw [← hsb q]; omega⟩
    · rw [show min (g s'.lo a) (g s'.wh b) = g s'.lo a by omega]
      exact h.low3
/-- A node that has not been come to may be begun. -/
theorem Mid.pre {n : Nat} {l : List Ed} {a fr p b : Nat} {s s' : Wk} {T M : Nat → Prop} {E : List Ed} (h : Mid n l a fr p s s' T M E) (k : Pre n l a fr s) (hl : ∀ u, ¬ adj l u u) (hbn : b < n) (hb : adj l a b) (hv : ¬ V s' b) : Pre n l b a s' := by
  have hab : a ≠ b := fun q => by subst q; exact hl _ hb
  refine { wl := h.wl, ll := h.ll, pl := h.pl, le := h.le, ge := h.ge, an := hbn, av := hv, fr1 := fun _ => ⟨(h.vis a).2 (.inr h.ta), hb⟩, bnd := fun u v hu hadj hvn hnv => ⟨hab, ?_⟩ }
  have hns : ¬ V s v := fun q => hnv ((h.vis v).2 (.inl q))
  rcases (h.vis u).1 hu with q | q
  · obtain ⟨h1, h2⟩ := k.bnd u v q hadj hvn hns
    have h3 : Cn (In l (V s')) fr u := In.mono (fun v q => (h.vis v).2 (.inl q)) h2
    obtain ⟨f1, f2⟩ := k.fr1 h1
    exact .trans (.symm (.edge ⟨f2, (h.vis fr).2 (.inl f1), (h.vis a).2 (.inr h.ta)⟩)) h3
  · exact In.mono (fun v q => (h.vis v).2 (.inr q)) (h.con u q)
end DF
end Go.Proofs.YtakjakglkfhaaaaDoor
