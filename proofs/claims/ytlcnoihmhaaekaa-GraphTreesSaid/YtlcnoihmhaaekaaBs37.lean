/-
  Plain: what becomes of the trees when an edge is cut and linked again. No program here; no conditions.
-/
import Derived.Test.YtlcnoihmhaaekaaBs26
namespace Go.Proofs.Ytlcnoihmhaaekaa
open Go SQ TR DF PD PT
set_option linter.unusedVariables false

theorem putE_cutE {n : Nat} {E : List AK.Ed} {x : AK.Ed} (h : Fo n E) (hx : x ∈ E) : putE x (cutE x E) = E := by
  refine rises_ext (putE_rises (h.cut x).up (fun w => (cutE_mem.1 w).2 rfl)) h.up fun y => ?_
  rw [putE_mem, cutE_mem]
  constructor
  · rintro (rfl | ⟨h, _⟩)
    · exact hx
    · exact h
  · intro hy
    by_cases e : y = x
    · exact .inl e
    · exact .inr ⟨hy, e⟩
structure CutC (n : Nat) (E : List AK.Ed) (u v : Nat) : Prop where
  no : ¬ Cn (adj (cutE (AK.ek u v) E)) u v
  uv : Cn (adj E) u v
  both : ∀ z, Cn (adj E) u z ↔ Cn (adj (cutE (AK.ek u v) E)) u z ∨ Cn (adj (cutE (AK.ek u v) E)) v z
  apart : ∀ z, ¬ (Cn (adj (cutE (AK.ek u v) E)) u z ∧ Cn (adj (cutE (AK.ek u v) E)) v z)
theorem cut_c {n : Nat} {E : List AK.Ed} {u v : Nat} (h : Fo n E) (huv : adj E u v) : CutC n E u v := by
  have he : ∀ x y, adj (cutE (AK.ek u v) E) x y ↔ Mn (adj E) u v x y := fun x y => adj_cut h.lt x y
  have no : ¬ Cn (adj (cutE (AK.ek u v) E)) u v := fun c => h.fs u v huv (c.mono fun x y e => (he x y).1 e)
  have sub : ∀ {x y}, Cn (adj (cutE (AK.ek u v) E)) x y → Cn (adj E) x y := fun c => c.mono fun x y e => ((he x y).1 e).1
  refine ⟨no, .edge huv, fun z => ⟨fun c => ?_, ?_⟩, fun z ⟨c, d⟩ => no (c.trans d.symm)⟩
  · rcases cn_cut' (F := adj (cutE (AK.ek u v) E)) (a := u) (b := v) (fun p q e => by
      by_cases w : (p = u ∧ q = v) ∨ (p = v ∧ q = u)
      · exact .inr w
      · exact .inl ((he p q).2 ⟨e, fun h => w (.inl h), fun h => w (.inr h)⟩)) c with c | ⟨_, d⟩ | ⟨_, d⟩
    · exact .inl c
    · exact .inr d.symm
    · exact .inl d.symm
  · rintro (c | c)
    · exact sub c
    · exact (Cn.edge huv).trans (sub c)
theorem comp_same {n a b : Nat} {E : List AK.Ed} (c : Cn (adj E) a b) : comp n E a = comp n E b :=
  up_ext (comp_up ..) (comp_up ..) fun x => by
    rw [comp_mem, comp_mem]
    exact ⟨fun ⟨u, h1, h2, h3⟩ => ⟨u, h1, c.symm.trans h2, h3⟩, fun ⟨u, h1, h2, h3⟩ => ⟨u, h1, c.trans h2, h3⟩⟩
theorem up_nodup {l : List Int} (h : l.Pairwise (fun x y => x < y)) : l.Nodup := h.imp fun h => by omega
theorem up_count {l : List Int} (h : l.Pairwise (fun x y => x < y)) (z : Int) : l.count z = if z ∈ l then 1 else 0 := by
  by_cases q : z ∈ l
  · rw [if_pos q]
    have h1 : l.count z ≤ 1 := List.nodup_iff_count.1 (up_nodup h) z
    have h2 := List.count_pos_iff.2 q
    omega
  · rw [if_neg q]; exact List.count_eq_zero.2 q
theorem cut_count {n u v : Nat} {E : List AK.Ed} (h : CutC n E u v) : ∀ z ∈ comp n E u, (comp n (cutE (AK.ek u v) E) u).count z + (comp n (cutE (AK.ek u v) E) v).count z = 1 := by
  intro z hz
  obtain ⟨x, h1, h2, rfl⟩ := comp_mem.1 hz
  rw [up_count (comp_up ..), up_count (comp_up ..)]
  have key : ∀ y, (x : Int) ∈ comp n (cutE (AK.ek u v) E) y ↔ Cn (adj (cutE (AK.ek u v) E)) y x := fun y => by
    rw [comp_mem]
    exact ⟨fun ⟨t, t1, t2, t3⟩ => by have : t = x := by omega
                                     subst this; exact t2, fun c => ⟨x, h1, c, rfl⟩⟩
  have ap := h.apart x
  rcases (h.both x).1 h2 with c | c
  · rw [if_pos ((key u).2 c), if_neg fun w => ap ⟨c, (key v).1 w⟩]
  · rw [if_neg fun w => ap ⟨(key u).1 w, c⟩, if_pos ((key v).2 c)]
theorem cut_len {n u v : Nat} {E : List AK.Ed} (h : CutC n E u v) : (comp n (cutE (AK.ek u v) E) u).length + (comp n (cutE (AK.ek u v) E) v).length = (comp n E u).length := by
  have nd : (comp n (cutE (AK.ek u v) E) u ++ comp n (cutE (AK.ek u v) E) v).Nodup := by
    rw [List.nodup_append]
    refine ⟨up_nodup (comp_up ..), up_nodup (comp_up ..), fun x hx y hy e => ?_⟩
    subst e
    obtain ⟨a, a1, a2, rfl⟩ := comp_mem.1 hx
    obtain ⟨b, b1, b2, b3⟩ := comp_mem.1 hy
    have : b = a := by omega
    subst this
    exact h.apart b ⟨a2, b2⟩
  have mem : ∀ x, x ∈ comp n (cutE (AK.ek u v) E) u ++ comp n (cutE (AK.ek u v) E) v ↔ x ∈ comp n E u := fun x => by
    rw [List.mem_append, comp_mem, comp_mem, comp_mem]
    constructor
    · rintro (⟨a, a1, a2, a3⟩ | ⟨a, a1, a2, a3⟩)
      · exact ⟨a, a1, (h.both a).2 (.inl a2), a3⟩
      · exact ⟨a, a1, (h.both a).2 (.inr a2), a3⟩
    · rintro ⟨a, a1, a2, a3⟩
      rcases (h.both a).1 a2 with c | c
      · exact .inl ⟨a, a1, c, a3⟩
      · exact .inr ⟨a, a1, c, a3⟩
  have h1 := nodup_le nd fun x hx => (mem x).1 hx
  have h2 := nodup_le (up_nodup (comp_up n E u)) fun x hx => (mem x).2 hx
  rw [List.length_append] at h1 h2
  omega
/-- Is a node the least of its tree? -/
noncomputable def ldr (E : List AK.Ed) (a : Nat) : Bool := by classical exact decide (∀ u, u < a → ¬ Cn (adj E) a u)
theorem ldr_iff {E : List AK.Ed} {a : Nat} : ldr E a = true ↔ ∀ u, u < a → ¬ Cn (adj E) a u := by unfold ldr; simp
theorem comp_head {n a : Nat} {E : List AK.Ed} (ha : a < n) : ∃ (h : Nat) (r : List Int), comp n E a = (h : Int) :: r ∧ (h = a ↔ ldr E a = true) := by
  have hm : (a : Int) ∈ comp n E a := comp_mem.2 ⟨a, ha, .refl _, rfl⟩
  have hup := comp_up n E a
  cases hc : comp n E a with
  | nil => rw [hc] at hm; exact absurd hm List.not_mem_nil
  | cons z r =>
    have hz : z ∈ comp n E a := by rw [hc]; exact List.mem_cons_self ..
    obtain ⟨h, h1, h2, rfl⟩ := comp_mem.1 hz
    refine ⟨h, r, rfl, ?_⟩
    rw [hc, List.pairwise_cons] at hup
    rw [ldr_iff]
    constructor
    · rintro rfl u hu c
      have : (u : Int) ∈ comp n E h := comp_mem.2 ⟨u, by omega, c, rfl⟩
      rw [hc] at this
      rcases List.mem_cons.1 this with e | e
      · omega
      · have := hup.1 _ e; omega
    · intro hl
      rcases Nat.lt_trichotomy h a with q | q | q
      · exact absurd h2 (hl h q)
      · exact q
      · rw [hc] at hm
        rcases List.mem_cons.1 hm with e | e
        · omega
        · have := hup.1 _ e; omega
/-- As many least ones as nodes, less the edges. -/
theorem ldr_count {n : Nat} {E : List AK.Ed} (h : Fo n E) : PD.cnt (ldr E) n + E.length = n := by
  let es : List (Nat × Nat) := E.map fun x => (x.1.toNat, x.2.toNat)
  have key : ∀ x y : Nat, ((x : Int), (y : Int)) ∈ E ↔ (x, y) ∈ es := fun x y => by
    simp only [es, List.mem_map]
    constructor
    · intro h; exact ⟨_, h, by simp⟩
    · rintro ⟨z, hz, e⟩
      have := h.ok z hz
      have e1 := congrArg Prod.fst e
      have e2 := congrArg Prod.snd e
      simp only at e1 e2
      have : z = ((x : Int), (y : Int)) := Prod.ext (by simp only; omega) (by simp only; omega)
      rwa [← this]
  have he : ∀ x y, adj E x y ↔ (x, y) ∈ es ∨ (y, x) ∈ es := fun x y => by unfold adj; rw [key, key]
  obtain ⟨p, hp⟩ := exists_parts n es fun x y w => by have := adj_in h.ok ((he x y).2 (.inl w)); exact ⟨this.1, this.2.1⟩
  have h1 := count_fs h.ok (rises_nodup h.up) h.fs he hp
  have h2 : PD.cnt (ldr E) n = cntP n p := by
    refine cnt_congr fun i hi => ?_
    rw [fx_true, ldr_iff]
    obtain ⟨v, v1, v2, v3⟩ := hp.get hi
    have c : Cn (adj E) i v := (con_iff he i v).1 v3
    refine Iff.symm ?_
    constructor
    · intro hh
      rw [v1] at hh
      have : v = i := Option.some.inj hh
      subst this
      intro u hu cu
      have := hp.least v1 (by omega) ((con_iff he v u).2 cu)
      omega
    · intro hl
      rcases Nat.lt_or_ge v i with q | q
      · exact absurd c (hl v q)
      · rw [v1]; congr 1; omega
  omega
theorem ex_comp : comp 3 (putE (AK.ek (0 : Nat) (2 : Nat)) []) 2 = [0, 2] := by
  have e : putE (AK.ek (0 : Nat) (2 : Nat)) [] = [(0, 2)] := by decide
  rw [e]
  refine up_ext (comp_up ..) (by simp) fun x => ?_
  rw [comp_mem]
  constructor
  · rintro ⟨u, u1, u2, rfl⟩
    have : u ≠ 1 := by
      have := u2.keeps (S := fun z => z ≠ 1) fun p q e => by simp [adj] at e; omega
      exact this.1 (by omega)
    simp; omega
  · intro hx
    have : x = 0 ∨ x = 2 := by simpa using hx
    rcases this with rfl | rfl
    · exact ⟨0, by omega, .edge (by simp [adj]), rfl⟩
    · exact ⟨2, by omega, .refl _, rfl⟩
end Go.Proofs.Ytlcnoihmhaaekaa
