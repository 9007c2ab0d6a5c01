/-
  Plain: parts of a graph, counted; an edge less. No program here; no conditions.
  Plain: a graph without the edges of a node. No program here; no conditions.
  A graph through a law, its rows beside it. Conditions: the graph lies as 'GzA' says.
-/
import Derived.Test.YthgniehfejklhaaGreatBs46
import Derived.Test.YthgniehfejklhaaGreatBs5
namespace Go.Proofs.YthgniehfejklhaaGreat
set_option linter.unusedVariables false
open UF DF PD PT TR

def prE (x : AK.Ed) : Nat × Nat := (x.1.toNat, x.2.toNat)
theorem adj_es {n : Nat} {B : List AK.Ed} (hok : ∀ x ∈ B, 0 ≤ x.1 ∧ x.1 < x.2 ∧ x.2 < (n : Int)) (x y : Nat) : adj B x y ↔ (x, y) ∈ B.map prE ∨ (y, x) ∈ B.map prE := by
  have key : ∀ a b : Nat, ((a : Int), (b : Int)) ∈ B ↔ (a, b) ∈ B.map prE := fun a b => by
    rw [List.mem_map]
    constructor
    · intro h; exact ⟨_, h, by simp [prE]⟩
    · rintro ⟨z, hz, e⟩
      have := hok z hz
      unfold prE at e
      have e1 := congrArg Prod.fst e
      have e2 := congrArg Prod.snd e
      simp only at e1 e2
      have : z = ((a : Int), (b : Int)) := Prod.ext (by simp only; omega) (by simp only; omega)
      rwa [← this]
  unfold adj
  rw [key, key]
theorem es_in {n : Nat} {B : List AK.Ed} (hok : ∀ x ∈ B, 0 ≤ x.1 ∧ x.1 < x.2 ∧ x.2 < (n : Int)) : ∀ x y, (x, y) ∈ B.map prE → x < n ∧ y < n := fun x y h => by
  obtain ⟨z, hz, e⟩ := List.mem_map.1 h
  have := hok z hz
  unfold prE at e
  have e1 := congrArg Prod.fst e
  have e2 := congrArg Prod.snd e
  simp only at e1 e2
  omega
/-- Parts counted by their least nodes. -/
theorem ldr_parts {n : Nat} {A : List AK.Ed} {es : List (Nat × Nat)} {p : List Nat} (he : ∀ x y, adj A x y ↔ (x, y) ∈ es ∨ (y, x) ∈ es) (hp : IsParts n es p) : PD.cnt (ldr A) n = cntP n p := by
  unfold cntP
  refine cnt_congr fun i hi => ?_
  rw [fx_true, ldr_iff]
  obtain ⟨v, hv, hvi, hcv⟩ := hp.get hi
  constructor
  · intro h
    by_cases e : v = i
    · rw [hv, e]
    · exact absurd ((con_iff he i v).1 hcv) (h v (by omega))
  · intro h u hu c
    obtain ⟨q, hq, hqu, _⟩ := hp.get (show u < n by omega)
    have : i = q := (hp.rel h hq).2 ((con_iff he i u).2 c)
    omega
theorem cut_ok {n : Nat} {A : List AK.Ed} (h : ∀ x ∈ A, 0 ≤ x.1 ∧ x.1 < x.2 ∧ x.2 < (n : Int)) (x : AK.Ed) : ∀ y ∈ cutE x A, 0 ≤ y.1 ∧ y.1 < y.2 ∧ y.2 < (n : Int) := fun y hy => h y (cutE_mem.1 hy).1
/-- Without an edge there are as many parts, or one more. -/
theorem parts_cut {n u v : Nat} {A : List AK.Ed} (hok : ∀ x ∈ A, 0 ≤ x.1 ∧ x.1 < x.2 ∧ x.2 < (n : Int)) (hx : ((u : Int), (v : Int)) ∈ A) :
    (Cn (adj (cutE ((u : Int), (v : Int)) A)) u v → PD.cnt (ldr (cutE ((u : Int), (v : Int)) A)) n = PD.cnt (ldr A) n) ∧ (¬ Cn (adj (cutE ((u : Int), (v : Int)) A)) u v → PD.cnt (ldr (cutE ((u : Int), (v : Int)) A)) n = PD.cnt (ldr A) n + 1) := by
  have huv := hok _ hx
  simp only at huv
  obtain ⟨C, hC⟩ : ∃ C, cutE ((u : Int), (v : Int)) A = C := ⟨_, rfl⟩
  have hCok := cut_ok hok ((u : Int), (v : Int))
  have hCm : ∀ y, y ∈ C ↔ y ∈ A ∧ y ≠ ((u : Int), (v : Int)) := fun y => by rw [← hC]; exact cutE_mem
  rw [hC] at hCok ⊢
  have he1 := adj_es hCok
  have he2 : ∀ x y, adj A x y ↔ (x, y) ∈ C.map prE ++ [(u, v)] ∨ (y, x) ∈ C.map prE ++ [(u, v)] := fun x y => by
    have k : ∀ a b : Nat, ((a : Int), (b : Int)) ∈ A ↔ ((a : Int), (b : Int)) ∈ C ∨ (a, b) = (u, v) := fun a b => by
      rw [hCm]
      by_cases e : ((a : Int), (b : Int)) = ((u : Int), (v : Int))
      · have e1 := congrArg Prod.fst e
        have e2 := congrArg Prod.snd e
        simp only at e1 e2
        have : (a, b) = (u, v) := Prod.ext (by simp only; omega) (by simp only; omega)
        exact ⟨fun _ => .inr this, fun _ => by rw [e]; exact hx⟩
      · exact ⟨fun h => .inl ⟨h, e⟩, fun h => by
          rcases h with h | h
          · exact h.1
          · injection h with h1 h2; subst h1; subst h2; exact absurd rfl e⟩
    have k2 := he1 x y
    unfold adj at k2 ⊢
    rw [k, k, List.mem_append, List.mem_append, List.mem_singleton, List.mem_singleton]
    constructor
    · rintro ((h | h) | (h | h))
      · rcases k2.1 (.inl h) with q | q
        · exact .inl (.inl q)
        · exact .inr (.inl q)
      · exact .inl (.inr h)
      · rcases k2.1 (.inr h) with q | q
        · exact .inl (.inl q)
        · exact .inr (.inl q)
      · exact .inr (.inr h)
    · rintro ((h | h) | (h | h))
      · rcases k2.2 (.inl h) with q | q
        · exact .inl (.inl q)
        · exact .inr (.inl q)
      · exact .inl (.inr h)
      · rcases k2.2 (.inr h) with q | q
        · exact .inl (.inl q)
        · exact .inr (.inl q)
      · exact .inr (.inr h)
  obtain ⟨q, hq⟩ := exists_parts n (C.map prE) (es_in hCok)
  obtain ⟨p, hp⟩ := exists_parts n (C.map prE ++ [(u, v)]) (fun x y h => by
    rcases List.mem_append.1 h with h | h
    · exact es_in hCok x y h
    · simp at h; omega)
  have h1 := ldr_parts he1 hq
  have h2 := ldr_parts he2 hp
  have h3 := count_add hp hq (by omega : u < n) (by omega : v < n)
  rw [h1, h2]
  exact ⟨fun c => h3.1 ((con_iff he1 u v).2 c), fun c => h3.2 (fun z => c ((con_iff he1 u v).1 z))⟩
theorem ek_of {u v : Nat} (h : u < v) : AK.ek (u : Int) v = ((u : Int), (v : Int)) := by unfold AK.ek; rw [Int.min_eq_left (by omega), Int.max_eq_right (by omega)]
/-- A bridge is told just if without it there is no way. -/
theorem brs_cut {n u v : Nat} {A b : List AK.Ed} (hok : ∀ x ∈ A, 0 ≤ x.1 ∧ x.1 < x.2 ∧ x.2 < (n : Int)) (hx : ((u : Int), (v : Int)) ∈ A) (hb : DF.Brs A b) : ((u : Int), (v : Int)) ∈ b ↔ ¬ Cn (adj (cutE ((u : Int), (v : Int)) A)) u v := by
  have huv := hok _ hx
  simp only at huv
  have hlt : u < v := by omega
  have hadj : adj A u v := .inl hx
  have h1 := hb.edb u v hadj
  have e1 : DF.ek u v = ((u : Int), (v : Int)) := by unfold DF.ek; rw [Nat.min_eq_left (by omega), Nat.max_eq_right (by omega)]
  rw [e1] at h1
  rw [h1]
  have e2 : ∀ a c, adj (cutE ((u : Int), (v : Int)) A) a c ↔ Mn (adj A) u v a c := fun a c => by
    rw [← ek_of hlt]
    exact adj_cut (fun y hy => (hok y hy).2.1) a c
  exact not_congr (cn_iff e2 u v).symm
theorem put_cut {A : List AK.Ed} {x : AK.Ed} (hup : A.Pairwise ltE) (hx : x ∈ A) : putE x (cutE x A) = A := by
  have hc : (cutE x A).Pairwise ltE := hup.sublist (List.filter_sublist ..)
  refine rises_ext (putE_rises hc (fun q => (cutE_mem.1 q).2 rfl)) hup fun y => ?_
  rw [putE_mem, cutE_mem]
  by_cases e : y = x
  · subst e; exact ⟨fun _ => hx, fun _ => .inl rfl⟩
  · exact ⟨fun h => (h.resolve_left e).1, fun h => .inr ⟨h, e⟩⟩
end Go.Proofs.YthgniehfejklhaaGreat
namespace Go.Proofs.YthgniehfejklhaaGreat
set_option linter.unusedVariables false
open UF DF PD PT TR

def hasN (a : Nat) (x : AK.Ed) : Prop := x.1 = (a : Int) ∨ x.2 = (a : Int)
/-- Of the first i edges those of the node are gone. -/
def LsI (A : List AK.Ed) (a i : Nat) (C : List AK.Ed) : Prop := ∀ y, y ∈ C ↔ y ∈ A ∧ ¬ (hasN a y ∧ y ∈ A.take i)
section
variable {n a i : Nat} {A C : List AK.Ed} {x : AK.Ed}
theorem LsI.start (A : List AK.Ed) (a : Nat) : LsI A a 0 A := fun y => by simp
theorem tk_mem (hx : A[i]? = some x) {y : AK.Ed} : y ∈ A.take (i + 1) ↔ y ∈ A.take i ∨ y = x := by
  rw [List.take_add_one, hx]; simp
theorem LsI.in_ (h : LsI A a i C) (hx : A[i]? = some x) (hup : A.Pairwise ltE) : x ∈ C := by
  refine (h x).2 ⟨List.mem_of_getElem? hx, fun q => ?_⟩
  have h1 : (A.take (i + 1)).Nodup := (List.take_sublist _ A).nodup (rises_nodup hup)
  have e : A.take (i + 1) = A.take i ++ [x] := by rw [List.take_add_one, hx]; rfl
  rw [e, List.nodup_append] at h1
  exact h1.2.2 _ q.2 _ (by simp) rfl
theorem LsI.cut (h : LsI A a i C) (hx : A[i]? = some x) (hh : hasN a x) : LsI A a (i + 1) (cutE x C) := fun y => by
  rw [cutE_mem, h, tk_mem hx]
  constructor
  · rintro ⟨⟨h1, h2⟩, h3⟩
    exact ⟨h1, fun q => q.2.elim (fun z => h2 ⟨q.1, z⟩) h3⟩
  · rintro ⟨h1, h2⟩
    exact ⟨⟨h1, fun q => h2 ⟨q.1, .inl q.2⟩⟩, fun e => h2 ⟨by rw [e]; exact hh, .inr e⟩⟩
theorem LsI.stay (h : LsI A a i C) (hx : A[i]? = some x) (hh : ¬ hasN a x) : LsI A a (i + 1) C := fun y => by
  rw [h, tk_mem hx]
  constructor
  · rintro ⟨h1, h2⟩
    refine ⟨h1, fun q => ?_⟩
    rcases q.2 with z | z
    · exact h2 ⟨q.1, z⟩
    · exact hh (by rw [← z]; exact q.1)
  · rintro ⟨h1, h2⟩
    exact ⟨h1, fun q => h2 ⟨q.1, .inl q.2⟩⟩
theorem LsI.end_ (h : LsI A a A.length C) (y : AK.Ed) : y ∈ C ↔ y ∈ A ∧ ¬ hasN a y := by
  rw [h, List.take_length]
  exact ⟨fun q => ⟨q.1, fun z => q.2 ⟨z, q.1⟩⟩, fun q => ⟨q.1, fun z => q.2 z.1⟩⟩
theorem less_adj (h : LsI A a A.length C) (u v : Nat) : adj C u v ↔ No A a u v := by
  unfold adj No
  rw [h.end_, h.end_]
  unfold hasN adj
  simp only
  constructor
  · rintro (⟨h1, h2⟩ | ⟨h1, h2⟩)
    · exact ⟨.inl h1, by omega, by omega⟩
    · exact ⟨.inr h1, by omega, by omega⟩
  · rintro ⟨h1 | h1, h2, h3⟩
    · exact .inl ⟨h1, by omega⟩
    · exact .inr ⟨h1, by omega⟩
theorem less_ok (h : LsI A a i C) (hok : ∀ x ∈ A, 0 ≤ x.1 ∧ x.1 < x.2 ∧ x.2 < (n : Int)) : ∀ x ∈ C, 0 ≤ x.1 ∧ x.1 < x.2 ∧ x.2 < (n : Int) := fun x hx => hok x ((h x).1 hx).1
/-- Without a node's edges the others are more parts just if it is a joint. -/
theorem less_parts (h : LsI A a A.length C) (hok : ∀ x ∈ A, 0 ≤ x.1 ∧ x.1 < x.2 ∧ x.2 < (n : Int)) (ha : a < n) : PD.cnt (ldr A) n + 1 < PD.cnt (ldr C) n ↔ Jt A a := by
  have hCok := less_ok h hok
  have he := adj_es hok
  have hf := adj_es hCok
  obtain ⟨p, hp⟩ := exists_parts n (A.map prE) (es_in hok)
  obtain ⟨q, hq⟩ := exists_parts n (C.map prE) (es_in hCok)
  rw [ldr_parts he hp, ldr_parts hf hq]
  exact joint_count he hf hp hq (less_adj h) ha (fun u e => (adj_in hok e).2.2 rfl) (fun u v e => (adj_in hok e).2.1)
/-- A node without edges is a part of its own. -/
theorem less_one (h : LsI A a A.length C) (hok : ∀ x ∈ A, 0 ≤ x.1 ∧ x.1 < x.2 ∧ x.2 < (n : Int)) (ha : a < n) : ∀ x, Cn (adj C) a x ↔ x = a := fun x => by
  constructor
  · intro c
    have := c.keeps (S := fun z => z = a) (fun u v e => by
      have := (less_adj h u v).1 e
      exact ⟨fun z => absurd z this.2.1, fun z => absurd z this.2.2⟩)
    exact this.1 rfl
  · rintro rfl; exact .refl _
end
end Go.Proofs.YthgniehfejklhaaGreat
namespace Go.Proofs.YthgniehfejklhaaGreat
open Go Go.RowKit SQ TR DF PD PT
set_option linter.unusedVariables false

/-- Blocks from M0 to M1 are as they were. -/
def KeepR (M0 M1 : Nat) (wr w' : World) : Prop := ∃ T : Nat → Prop, Chg T wr w' ∧ ∀ k, M0 ≤ k → k < M1 → ¬ T k
structure GzA (w wr : World) (g0 n B M0 M1 : Nat) (A : List AK.Ed) : Prop where
  g : ∃ (G : GrP) (N : Nat) (f : AK.Ed → GM.St), G.gb = g0 ∧ GcS w wr G n N A f ∧ N ≤ B ∧ ∀ k, M0 ≤ k → k < M1 → ¬ G.T k
  le : A.length ≤ 200
  m1 : M1 ≤ wr.heap.size
section
variable {w wr w' : World} {g0 n B M0 M1 : Nat} {A l : List AK.Ed} {R : Option Addr}
theorem KeepR.of_ext (hx : Ext wr w') (h : M1 ≤ wr.heap.size) : KeepR M0 M1 wr w' := ⟨_, Chg.of_below hx, fun k _ hk hs => by omega⟩
theorem KeepR.cell (h : KeepR M0 M1 wr w') (hm : M1 ≤ wr.heap.size) {p : Addr} (h0 : M0 ≤ p.block) (h1 : p.block < M1) : w'.cell? p = wr.cell? p := by
  obtain ⟨T, hc, hT⟩ := h
  exact hc.cell (by omega) (hT _ h0 h1)
theorem KeepR.eds (h : KeepR M0 M1 wr w') (he : EdsAt wr R l) (hb : l ≠ [] → ∀ x, R = some x → M0 ≤ x.block ∧ x.block < M1) : EdsAt w' R l := by
  obtain ⟨T, hc, hT⟩ := h
  exact he.chg hc (fun hne x hx => hT _ (hb hne x hx).1 (hb hne x hx).2)
theorem GzA.ext (h : GzA w wr g0 n B M0 M1 A) : Ext w wr := by obtain ⟨G, N, f, _, h2, _⟩ := h.g; exact h2.ext
theorem GzA.moved (h : GzA w wr g0 n B M0 M1 A) (hx : Ext wr w') : GzA w w' g0 n B M0 M1 A := by
  obtain ⟨G, N, f, h1, h2, h3, h4⟩ := h.g
  exact ⟨⟨G, N, f, h1, h2.moved hx, h3, h4⟩, h.le, Nat.le_trans h.m1 hx.size⟩
theorem GzA.ok (h : GzA w wr g0 n B M0 M1 A) : ∀ x ∈ A, 0 ≤ x.1 ∧ x.1 < x.2 ∧ x.2 < (n : Int) := by obtain ⟨G, N, f, _, h2, _⟩ := h.g; exact h2.at_.k.ok
theorem GzA.up (h : GzA w wr g0 n B M0 M1 A) : A.Pairwise ltE := by obtain ⟨G, N, f, _, h2, _⟩ := h.g; exact h2.at_.k.up
theorem GzA.hn (h : GzA w wr g0 n B M0 M1 A) : 1 ≤ n ∧ n ≤ 60 := by obtain ⟨G, N, f, _, h2, _⟩ := h.g; exact h2.at_.m.hn
theorem GzA.de (h : GzA w wr g0 n B M0 M1 A) : DkE n A := ⟨h.hn, h.ok, h.up, h.le⟩
/-- The graph lies below M0, the rows between. -/
theorem GzA.made {G : GrP} {N : Nat} {f : AK.Ed → GM.St} {w2 : World} (h2 : GcS w w2 G n N A f) (hN : N ≤ B) (hl : A.length ≤ 200) (hx : Ext w2 wr) (hm : M1 ≤ wr.heap.size) : GzA w wr G.gb n B w2.heap.size M1 A :=
  ⟨⟨G, N, f, rfl, h2.moved hx, hN, fun k h0 _ hk => by have := h2.at_.m.ltT k hk; omega⟩, hl, hm⟩
theorem gz_parts (h : GzA w wr g0 n B M0 M1 A) : Calls Tryz.prog 22 #[.pointer (some ⟨g0, 0, none⟩)] wr fun e w' => e = .returned (.int .i64 (PD.cnt (ldr A) n : Nat)) ∧ Ext wr w' := by
  obtain ⟨G, N, f, rfl, h2, _⟩ := h.g
  exact gp_any h2.at_ h.le
theorem gz_joined (h : GzA w wr g0 n B M0 M1 A) (a b : Int) : Calls Tryz.prog 21 #[.pointer (some ⟨g0, 0, none⟩), .int .i64 a, .int .i64 b] wr fun e w' => e = .returned (.tuple #[.bool (jB n A a b), jE n a b]) ∧ Ext wr w' := by
  obtain ⟨G, N, f, rfl, h2, _⟩ := h.g
  exact gj_any h2.at_ a b
theorem gz_edges (h : GzA w wr g0 n B M0 M1 A) : Calls Tryz.prog 10 #[.pointer (some ⟨g0, 0, none⟩)] wr fun e w' => ∃ A5 c5, e = .returned (.slice A5 A.length c5) ∧ EdsAt w' A5 A ∧ (A.length ≤ c5 ∧ c5 ≤ maxLen) ∧ Ext wr w' := by
  obtain ⟨G, N, f, rfl, h2, _⟩ := h.g
  exact ge_any h2.at_ h.le
theorem gz_size (h : GzA w wr g0 n B M0 M1 A) (a : Nat) (ha : a < n) : Calls Tryz.prog 30 #[.pointer (some ⟨g0, 0, none⟩), .int .i64 a] wr fun e w' => e = .returned (.tuple #[.int .i64 ((comp n A a).length : Nat), .nilIface]) ∧ Ext wr w' := by
  obtain ⟨G, N, f, rfl, h2, _⟩ := h.g
  have := gsize_ok h2.at_.m a ha
  rwa [comp_joins h2.at_] at this
theorem gz_turn {G G' : GrP} {N : Nat} {f f' : AK.Ed → GM.St} {C : List AK.Ed} (h2 : GcS w wr G n N A f) (hN : N ≤ B) (h4 : ∀ k, M0 ≤ k → k < M1 → ¬ G.T k) (hm : M1 ≤ wr.heap.size) (q1 : GrI w' G' n (N + 4000) C f') (q2 : GrC wr w' G G') (hC : C.length ≤ 200) : GzA w w' G.gb n (B + 4000) M0 M1 C ∧ KeepR M0 M1 wr w' :=
  ⟨⟨⟨G', N + 4000, f', q2.gb, h2.step q1 q2, by omega, fun k h0 h1 hk => (q2.t k hk).elim (h4 k h0 h1) (fun q => by omega)⟩, hC, Nat.le_trans hm q2.chg.size⟩, ⟨_, q2.chg, fun k h0 h1 hs => h4 k h0 h1 (.inl hs)⟩⟩
theorem gz_drop (h : GzA w wr g0 n B M0 M1 A) (hB : B + 4000 < 1000000) {u v : Nat} (hx : ((u : Int), (v : Int)) ∈ A) : Calls Tryz.prog 27 #[.pointer (some ⟨g0, 0, none⟩), .int .i64 u, .int .i64 v] wr fun e w' => e = .returned .nilIface ∧ GzA w w' g0 n (B + 4000) M0 M1 (cutE ((u : Int), (v : Int)) A) ∧ KeepR M0 M1 wr w' := by
  have huv := h.ok _ hx
  simp only at huv
  have hek : AK.ek (u : Int) v = ((u : Int), (v : Int)) := by unfold AK.ek; rw [Int.min_eq_left (by omega), Int.max_eq_right (by omega)]
  have hf : DS.flt n A 2 (u : Int) v = 0 := by
    unfold DS.flt
    rw [if_neg (by omega), if_neg (by decide), if_pos rfl, hek, if_pos hx]
  have hn : DS.nxt A 2 (u : Int) v = cutE ((u : Int), (v : Int)) A := by unfold DS.nxt; rw [if_neg (by decide), if_pos rfl, hek]
  obtain ⟨G, N, f, rfl, h2, h3, h4⟩ := h.g
  refine (act_drop h2.at_ (by omega) h.le (u : Int) v).mono ?_
  rintro e w' ⟨rfl, G', f', q1, q2⟩
  rw [hf] at q1 ⊢
  rw [if_pos rfl, hn] at q1
  exact ⟨rfl, gz_turn h2 h3 h4 h.m1 q1 q2 (Nat.le_trans (cutE_len_le _ _) h.le)⟩
theorem gz_add (h : GzA w wr g0 n B M0 M1 A) (hB : B + 4000 < 1000000) {u v : Nat} (huv : u < v) (hv : v < n) (hx : ((u : Int), (v : Int)) ∉ A) (hl : A.length < 200) : Calls Tryz.prog 28 #[.pointer (some ⟨g0, 0, none⟩), .int .i64 u, .int .i64 v] wr fun e w' => e = .returned .nilIface ∧ GzA w w' g0 n (B + 4000) M0 M1 (putE ((u : Int), (v : Int)) A) ∧ KeepR M0 M1 wr w' := by
  have hn60 := h.hn
  have hek : AK.ek (u : Int) v = ((u : Int), (v : Int)) := by unfold AK.ek; rw [Int.min_eq_left (by omega), Int.max_eq_right (by omega)]
  have hf : DS.flt n A 1 (u : Int) v = 0 := by
    unfold DS.flt
    rw [if_neg (by omega), if_pos rfl]
    unfold addFault
    rw [if_neg (by omega), if_neg (by omega), hek, if_neg hx, if_neg (by omega)]
  have hn : DS.nxt A 1 (u : Int) v = putE ((u : Int), (v : Int)) A := by unfold DS.nxt; rw [if_pos rfl, hek]
  obtain ⟨G, N, f, rfl, h2, h3, h4⟩ := h.g
  refine (act_add h2.at_ (by omega) (u : Int) v (by omega) (by omega)).mono ?_
  rintro e w' ⟨rfl, G', f', q1, q2⟩
  rw [hf] at q1 ⊢
  rw [if_pos rfl, hn] at q1
  exact ⟨rfl, gz_turn h2 h3 h4 h.m1 q1 q2 (by rw [putE_length]; omega)⟩
/-- The graph's Edges, in a block of its own. -/
theorem ge_new {G : GrP} {N : Nat} {f : AK.Ed → GM.St} (h : GrI wr G n N A f) (hl : A.length ≤ 200) : Calls Tryz.prog 10 #[.pointer (some ⟨G.gb, 0, none⟩)] wr fun e w' => ∃ A5 c5, e = .returned (.slice A5 A.length c5) ∧ EdsAt w' A5 A ∧ (A ≠ [] → ∀ x, A5 = some x → wr.heap.size ≤ x.block ∧ x.block < w'.heap.size) ∧ Ext wr w' := by
  refine (gedges_any h.m h.k.ok h.k.up hl).mono ?_
  rintro e w5 ⟨A5, c5, rfl, hd5, hx5, hn5⟩
  have hed := DRow.eds hd5 rfl
  refine ⟨A5, c5, rfl, hed.1, fun hne x hx => ⟨hn5 x.block (by subst hx; rfl), ?_⟩, hx5⟩
  rcases hed.1 with h0 | ⟨b, o, he, hb, _⟩
  · exact absurd h0 hne
  · rw [he] at hx; injection hx with hx; subst hx; exact hb
end
end Go.Proofs.YthgniehfejklhaaGreat
