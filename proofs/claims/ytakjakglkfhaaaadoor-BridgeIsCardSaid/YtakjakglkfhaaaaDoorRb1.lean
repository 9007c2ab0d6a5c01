/-
  Walk of the references' BridgesOf. Conditions: the edges lie in memory as 'EdsAt' says, and are edges that may be.
-/
import Derived.Test.YtakjakglkfhaaaaDoorRct
import Derived.Test.YtakjakglkfhaaaaDoorBq
import Derived.Test.YtakjakglkfhaaaaDoorRf1
namespace Go.Proofs.YtakjakglkfhaaaaDoor
open Go Go.RowKit PT
set_option linter.unusedVariables false

theorem inn_fine {n : Nat} {l : List AK.Ed} (h : ∀ x ∈ l, 0 ≤ x.1 ∧ x.1 < x.2 ∧ x.2 < (n : Int)) : Inn n l := fun x hx => by have := h x hx; omega
theorem prs_iff {n : Nat} {l : List AK.Ed} (h : Inn n l) (x y : Nat) : PD.adj l x y ↔ (x, y) ∈ prs l ∨ (y, x) ∈ prs l := by
  have key : ∀ x y : Nat, ((x : Int), (y : Int)) ∈ l ↔ (x, y) ∈ prs l := fun x y => by
    unfold prs
    rw [List.mem_map]
    constructor
    · intro hm; exact ⟨_, hm, by simp⟩
    · rintro ⟨⟨a, b⟩, hm, he⟩
      have := h _ hm
      simp only [Prod.mk.injEq] at he this
      have e1 : a = (x : Int) := by omega
      have e2 : b = (y : Int) := by omega
      rw [← e1, ← e2]; exact hm
  unfold PD.adj
  rw [key, key]
/-- Without the edge at a place. -/
theorem erase_mn {n : Nat} {l : List AK.Ed} (h : ∀ x ∈ l, 0 ≤ x.1 ∧ x.1 < x.2 ∧ x.2 < (n : Int)) (hp : l.Pairwise ltE) {i u v : Nat} (hi : l[i]? = some ((u : Int), (v : Int))) (x y : Nat) : PD.adj (l.eraseIdx i) x y ↔ DF.Mn (PD.adj l) u v x y := by
  have hil : i < l.length := (List.getElem?_eq_some_iff.1 hi).1
  have hnd : l.Nodup := hp.imp fun {a b} q e => by subst e; unfold ltE at q; omega
  have key : ∀ z : AK.Ed, z ∈ l.eraseIdx i ↔ z ∈ l ∧ z ≠ ((u : Int), (v : Int)) := fun z => by
    rw [List.mem_eraseIdx_iff_getElem?]
    constructor
    · rintro ⟨j, hj, hz⟩
      refine ⟨List.mem_of_getElem? hz, fun e => ?_⟩
      subst e
      obtain ⟨hjl, ej⟩ := List.getElem?_eq_some_iff.1 hz
      obtain ⟨_, ei⟩ := List.getElem?_eq_some_iff.1 hi
      exact hj ((List.getElem_inj hnd).1 (ej.trans ei.symm))
    · rintro ⟨hz, hne⟩
      obtain ⟨j, hj⟩ := List.getElem?_of_mem hz
      refine ⟨j, fun e => ?_, hj⟩
      subst e
      rw [hi] at hj
      injection hj with hj
      exact hne hj.symm
  unfold DF.Mn PD.adj
  rw [key, key]
  have huv := h _ (List.mem_of_getElem? hi)
  simp only at huv
  simp only [ne_eq, Prod.mk.injEq]
  constructor
  · rintro (⟨h1, h2⟩ | ⟨h1, h2⟩)
    · have := h _ h1
      simp only at this
      exact ⟨.inl h1, by omega, by omega⟩
    · have := h _ h1
      simp only at this
      exact ⟨.inr h1, by omega, by omega⟩
  · rintro ⟨h1 | h1, h2, h3⟩
    · exact .inl ⟨h1, by omega⟩
    · exact .inr ⟨h1, by omega⟩
/-- What the reference tells of an edge. -/
noncomputable def brP (l : List AK.Ed) (e : AK.Ed) : Bool := by classical exact decide (¬ DF.Go2 l e.1.toNat e.2.toNat)
theorem brP_iff {l : List AK.Ed} {u v : Nat} : brP l ((u : Int), (v : Int)) = true ↔ ¬ DF.Go2 l u v := by
  unfold brP
  simp
theorem brs_filter {n : Nat} {l : List AK.Ed} (h : ∀ x ∈ l, 0 ≤ x.1 ∧ x.1 < x.2 ∧ x.2 < (n : Int)) (hp : l.Pairwise ltE) : BrsOf n l (l.filter (brP l)) := by
  have nat : ∀ x ∈ l, ∃ c d : Nat, x = ((c : Int), (d : Int)) ∧ c < d := fun x hx => by
    obtain ⟨h1, h2, h3⟩ := h x hx
    obtain ⟨c, hc⟩ := Int.eq_ofNat_of_zero_le h1
    obtain ⟨d, hd⟩ := Int.eq_ofNat_of_zero_le (show 0 ≤ x.2 by omega)
    exact ⟨c, d, Prod.ext hc hd, by omega⟩
  refine ⟨⟨fun e he => ?_, fun c d hadj => ?_⟩, hp.sublist List.filter_sublist, fun e he => h e (List.mem_filter.1 he).1⟩
  · obtain ⟨h1, h2⟩ := List.mem_filter.1 he
    obtain ⟨c, d, rfl, hcd⟩ := nat e h1
    refine ⟨c, d, ?_, .inl h1⟩
    unfold DF.ek; rw [Nat.min_eq_left (by omega), Nat.max_eq_right (by omega)]
  · rw [List.mem_filter]
    have key : ∀ c d : Nat, ((c : Int), (d : Int)) ∈ l → (DF.ek c d ∈ l ∧ brP l (DF.ek c d) = true ↔ ¬ DF.Go2 l c d) := fun c d hm => by
      have := h _ hm
      simp only at this
      have e : DF.ek c d = ((c : Int), (d : Int)) := by unfold DF.ek; rw [Nat.min_eq_left (by omega), Nat.max_eq_right (by omega)]
      rw [e, brP_iff]
      exact ⟨fun w => w.2, fun w => ⟨hm, w⟩⟩
    rcases hadj with hm | hm
    · exact key c d hm
    · rw [DF.ek_comm, key d c hm]
      exact ⟨fun w z => w z.flip, fun w z => w z.flip⟩
theorem BrsOf.uniq {n : Nat} {l x y : List AK.Ed} (hx : BrsOf n l x) (hy : BrsOf n l y) : x = y :=
  rises_ext hx.2.1 hy.2.1 fun e => by
    constructor
    · intro he
      obtain ⟨c, d, rfl, hadj⟩ := hx.1.edm e he
      exact (hy.1.edb c d hadj).2 ((hx.1.edb c d hadj).1 he)
    · intro he
      obtain ⟨c, d, rfl, hadj⟩ := hy.1.edm e he
      exact (hx.1.edb c d hadj).2 ((hy.1.edb c d hadj).1 he)
end Go.Proofs.YtakjakglkfhaaaaDoor
