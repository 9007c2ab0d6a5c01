/-
  Plain: parts of a graph, counted; an edge less. No program here; no conditions.
-/
import Derived.Test.YthgniehfejklhaaGreatBs46
import Derived.Test.YthgniehfejklhaaGreatBs5
namespace Go.Proofs.YthgniehfejklhaaGreat
set_option linter.unusedVariables false
open UF DF PD PT TR

def prE (x : AK.Ed) : Nat × Nat := (x.1.toNat, x.2.toNat)
theorem adj_es {n : Nat} {B : List AK.Ed} (hok : ∀ x ∈ B, 0 ≤ x.1 ∧ x.1 < x.2 ∧ x.2 < (n : Int)) (x y : Nat) : adj B x y ↔ (x, y) ∈ B.map prE ∨ (y, x) ∈ B.map prE := by
  have key : ∀ a b : Nat, ((a : Int), (b : Int)) ∈ B ↔ (a, b) ∈ B.map prE := fun a b => by
    rw [List.mem_map]
    constructor
    · intro h; exact ⟨_, h, by simp [prE]⟩
    · rintro ⟨z, hz, e⟩
      have := hok z hz
      unfold prE at e
      have e1 := congrArg Prod.fst e
      have e2 := congrArg Prod.snd e
      simp only at e1 e2
      have : z = ((a : Int), (b : Int)) := Prod.ext (by simp only; omega) (by simp only; omega)
      rwa [← this]
  unfold adj
  rw [key, key]
theorem es_in {n : Nat} {B : List AK.Ed} (hok : ∀ x ∈ B, 0 ≤ x.1 ∧ x.1 < x.2 ∧ x.2 < (n : Int)) : ∀ x y, (x, y) ∈ B.map prE → x < n ∧ y < n := fun x y h => by
  obtain ⟨z, hz, e⟩ := List.mem_map.1 h
  have := hok z hz
  unfold prE at e
  have e1 := congrArg Prod.fst e
  have e2 := congrArg Prod.snd e
  simp only at e1 e2
  omega
/-- Parts counted by their least nodes. -/
theorem ldr_parts {n : Nat} {A : List AK.Ed} {es : List (Nat × Nat)} {p : List Nat} (he : ∀ x y, adj A x y ↔ (x, y) ∈ es ∨ (y, x) ∈ es) (hp : IsParts n es p) : PD.cnt (ldr A) n = cntP n p := by
  unfold cntP
  refine cnt_congr fun i hi => ?_
  rw [fx_true, ldr_iff]
  obtain ⟨v, hv, hvi, hcv⟩ := hp.get hi
  constructor
  · intro h
    by_cases e : v = i
    · rw [hv, e]
    · exact absurd ((con_iff he i v).1 hcv) (h v (by omega))
  · intro h u hu c
    obtain ⟨q, hq, hqu, _⟩ := hp.get (show u < n by omega)
    have : i = q := (hp.rel h hq).2 ((con_iff he i u).2 c)
    omega
theorem cut_ok {n : Nat} {A : List AK.Ed} (h : ∀ x ∈ A, 0 ≤ x.1 ∧ x.1 < x.2 ∧ x.2 < (n : Int)) (x : AK.Ed) : ∀ y ∈ cutE x A, 0 ≤ y.1 ∧ y.1 < y.2 ∧ y.2 < (n : Int) := fun y hy => h y (cutE_mem.1 hy).1
/-- Without an edge there are as many parts, or one more. -/
theorem parts_cut {n u v : Nat} {A : List AK.Ed} (hok : ∀ x ∈ A, 0 ≤ x.1 ∧ x.1 < x.2 ∧ x.2 < (n : Int)) (hx : ((u : Int), (v : Int)) ∈ A) :
    (Cn (adj (cutE ((u : Int), (v : Int)) A)) u v → PD.cnt (ldr (cutE ((u : Int), (v : Int)) A)) n = PD.cnt (ldr A) n) ∧ (¬ Cn (adj (cutE ((u : Int), (v : Int)) A)) u v → PD.cnt (ldr (cutE ((u : Int), (v : Int)) A)) n = PD.cnt (ldr A) n + 1) := by
  have huv := hok _ hx
  simp only at huv
  obtain ⟨C, hC⟩ : ∃ C, cutE ((u : Int), (v : Int)) A = C := ⟨_, rfl⟩
  have hCok := cut_ok hok ((u : Int), (v : Int))
  have hCm : ∀ y, y ∈ C ↔ y ∈ A ∧ y ≠ ((u : Int), (v : Int)) := fun y => by rw [← hC]; exact cutE_mem
  rw [hC] at hCok ⊢
  have he1 := adj_es hCok
  have he2 : ∀ x y, adj A x y ↔ (x, y) ∈ C.map prE ++ [(u, v)] ∨ (y, x) ∈ C.map prE ++ [(u, v)] := fun x y => by
    have k : ∀ a b : Nat, ((a : Int), (b : Int)) ∈ A ↔ ((a : Int), (b : Int)) ∈ C ∨ (a, b) = (u, v) := fun a b => by
      rw [hCm]
      by_cases e : ((a : Int), (b : Int)) = ((u : Int), (v : Int))
      · have e1 := congrArg Prod.fst e
        have e2 := congrArg Prod.snd e
        simp only at e1 e2
        have : (a, b) = (u, v) := Prod.ext (by simp only; omega) (by simp only; omega)
        exact ⟨fun _ => .inr this, fun _ => by rw [e]; exact hx⟩
      · exact ⟨fun h => .inl ⟨h, e⟩, fun h => by
          rcases h with h | h
          · exact h.1
          · injection h with h1 h2; subst h1; subst h2; exact absurd rfl e⟩
    have k2 := he1 x y
    unfold adj at k2 ⊢
    rw [k, k, List.mem_append, List.mem_append, List.mem_singleton, List.mem_singleton]
    constructor
    · rintro ((h | h) | (h | h))
      · rcases k2.1 (.inl h) with q | q
        · exact .inl (.inl q)
        · exact .inr (.inl q)
      · exact .inl (.inr h)
      · rcases k2.1 (.inr h) with q | q
        · exact .inl (.inl q)
        · exact .inr (.inl q)
      · exact .inr (.inr h)
    · rintro ((h | h) | (h | h))
      · rcases k2.2 (.inl h) with q | q
        · exact .inl (.inl q)
        · exact .inr (.inl q)
      · exact .inl (.inr h)
      · rcases k2.2 (.inr h) with q | q
        · exact .inl (.inl q)
        · exact .inr (.inl q)
      · exact .inr (.inr h)
  obtain ⟨q, hq⟩ := exists_parts n (C.map prE) (es_in hCok)
  obtain ⟨p, hp⟩ := exists_parts n (C.map prE ++ [(u, v)]) (fun x y h => by
    rcases List.mem_append.1 h with h | h
    · exact es_in hCok x y h
    · simp at h; omega)
  have h1 := ldr_parts he1 hq
  have h2 := ldr_parts he2 hp
  have h3 := count_add hp hq (by omega : u < n) (by omega : v < n)
  rw [h1, h2]
  exact ⟨fun c => h3.1 ((con_iff he1 u v).2 c), fun c => h3.2 (fun z => c ((con_iff he1 u v).1 z))⟩
theorem ek_of {u v : Nat} (h : u < v) : AK.ek (u : Int) v = ((u : Int), (v : Int)) := by unfold AK.ek; rw [Int.min_eq_left (by omega), Int.max_eq_right (by omega)]
/-- A bridge is told just if without it there is no way. -/
theorem brs_cut {n u v : Nat} {A b : List AK.Ed} (hok : ∀ x ∈ A, 0 ≤ x.1 ∧ x.1 < x.2 ∧ x.2 < (n : Int)) (hx : ((u : Int), (v : Int)) ∈ A) (hb : DF.Brs A b) : ((u : Int), (v : Int)) ∈ b ↔ ¬ Cn (adj (cutE ((u : Int), (v : Int)) A)) u v := by
  have huv := hok _ hx
  simp only at huv
  have hlt : u < v := by omega
  have hadj : adj A u v := .inl hx
  have h1 := hb.edb u v hadj
  have e1 : DF.ek u v = ((u : Int), (v : Int)) := by unfold DF.ek; rw [Nat.min_eq_left (by omega), Nat.max_eq_right (by omega)]
  rw [e1] at h1
  rw [h1]
  have e2 : ∀ a c, adj (cutE ((u : Int), (v : Int)) A) a c ↔ Mn (adj A) u v a c := fun a c => by
    rw [← ek_of hlt]
    exact adj_cut (fun y hy => (hok y hy).2.1) a c
  exact not_congr (cn_iff e2 u v).symm
theorem put_cut {A : List AK.Ed} {x : AK.Ed} (hup : A.Pairwise ltE) (hx : x ∈ A) : putE x (cutE x A) = A := by
  have hc : (cutE x A).Pairwise ltE := hup.sublist (List.filter_sublist ..)
  refine rises_ext (putE_rises hc (fun q => (cutE_mem.1 q).2 rfl)) hup fun y => ?_
  rw [putE_mem, cutE_mem]
  by_cases e : y = x
  · subst e; exact ⟨fun _ => hx, fun _ => .inl rfl⟩
  · exact ⟨fun h => (h.resolve_left e).1, fun h => .inr ⟨h, e⟩⟩
end Go.Proofs.YthgniehfejklhaaGreat
