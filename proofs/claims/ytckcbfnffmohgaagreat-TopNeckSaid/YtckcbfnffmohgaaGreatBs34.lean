/-
  Towards GraphPlays: graph's Has; the references' SizeOf; parts of a graph, counted and measured. Conditions: the graph lies as 'GrM' says, the row as 'NRow'.
-/
import Derived.Test.YtckcbfnffmohgaaGreatBs16
import Derived.Test.YtckcbfnffmohgaaGreatBs32
import Derived.Test.YtckcbfnffmohgaaGreatBs33
import Derived.Test.YtckcbfnffmohgaaGreatBs31
import Derived.Deep.RegionHeld3
namespace Go.Proofs.YtckcbfnffmohgaaGreat
open Go Go.RowKit SQ TR DF PD PT
set_option linter.unusedVariables false

section
variable {w w' : World} {G : GrP} {n N : Nat} {A : List AK.Ed} {f : AK.Ed → GM.St} {Es : Nat → List AK.Ed}
theorem gr_prs (hok : ∀ x ∈ A, 0 ≤ x.1 ∧ x.1 < x.2 ∧ x.2 < (n : Int)) (x y : Nat) : adj A x y ↔ (x, y) ∈ prs A ∨ (y, x) ∈ prs A := by
  have key : ∀ x y : Nat, ((x : Int), (y : Int)) ∈ A ↔ (x, y) ∈ prs A := fun x y => by
    unfold prs
    rw [List.mem_map]
    constructor
    · intro h; exact ⟨_, h, by simp⟩
    · rintro ⟨z, hz, e⟩
      have := hok z hz
      have e1 := congrArg Prod.fst e
      have e2 := congrArg Prod.snd e
      simp only at e1 e2
      have : z = ((x : Int), (y : Int)) := Prod.ext (by simp only; omega) (by simp only; omega)
      rwa [← this]
  unfold adj
  rw [key, key]
theorem gr_inn (hok : ∀ x ∈ A, 0 ≤ x.1 ∧ x.1 < x.2 ∧ x.2 < (n : Int)) : Inn n A := fun x hx => by have := hok x hx; omega
theorem gparts_cn (hok : ∀ x ∈ A, 0 ≤ x.1 ∧ x.1 < x.2 ∧ x.2 < (n : Int)) {p : List Nat} (hp : IsParts n (prs A) p) {x y v u : Nat} (hx : p[x]? = some v) (hy : p[y]? = some u) : v = u ↔ Cn (adj A) x y :=
  (hp.rel hx hy).trans (con_iff (gr_prs hok) x y)
theorem gcount (h : GrI w G n N A f) {p : List Nat} (hp : IsParts n (prs A) p) : cntP n p + (GM.lvl f A 0).length = n := by
  have h1 := tree_len h
  have : cntP n p = PD.cnt (ldr A) n := by
    unfold cntP
    refine cnt_congr fun i hi => ?_
    obtain ⟨v, hv, hvi, hc⟩ := hp.get hi
    have hc2 : Cn (adj A) i v := (con_iff (gr_prs h.k.ok) i v).1 hc
    rw [ldr_iff]
    unfold fx
    rw [hv]
    constructor
    · intro q u hu c
      have hiv : v = i := by simpa using q
      have := hp.least hv (by omega) ((con_iff (gr_prs h.k.ok) i u).2 c)
      omega
    · intro q
      have : v = i := by
        by_cases e : v < i
        · exact absurd hc2 (q v e)
        · omega
      simp [this]
  omega
theorem gsize_cnt (hok : ∀ x ∈ A, 0 ≤ x.1 ∧ x.1 < x.2 ∧ x.2 < (n : Int)) {p : List Nat} (hp : IsParts n (prs A) p) {x v : Nat} (hv : p[x]? = some v) : PD.cnt (fun i => decide (p[i]? = some v)) n = (comp n A x).length := by
  rw [comp_sz]
  unfold GM.sz
  refine cnt_congr fun i hi => ?_
  obtain ⟨u, hu, _⟩ := hp.get hi
  simp only [decide_eq_true_eq]
  rw [hu, ← gparts_cn hok hp hv hu]
  exact ⟨fun e => (Option.some.inj e).symm, fun e => by rw [e]⟩
end
end Go.Proofs.YtckcbfnffmohgaaGreat
