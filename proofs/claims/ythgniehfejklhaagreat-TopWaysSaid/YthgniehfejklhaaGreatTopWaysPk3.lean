/-
  Plain: distances by fewer edges, parts by their least nodes, a union and a forest beside each other. No program here; no conditions.
  A graph through a law, its rows beside it. Conditions: the graph lies as 'GzA' says.
-/
import Derived.Test.YthgniehfejklhaaGreatTopWaysPk1
import Derived.Test.YthgniehfejklhaaGreatTopWaysPk2
import Derived.Test.YthgniehfejklhaaGreatBs46
namespace Go.Proofs.YthgniehfejklhaaGreat
set_option linter.unusedVariables false
open DF PD PT TR

theorem dist_cnW {n a : Nat} {l : List Ed} {d : List Int} (h : PD.IsDist n l a d) (hin : ∀ u v, adj l u v → v < n) {v : Nat} (hv : v < n) : 0 ≤ g d v ↔ Cn (adj l) a v := by
  constructor
  · intro h0
    have key : ∀ (t v : Nat), v < n → g d v = (t : Int) → Cn (adj l) a v := by
      intro t
      induction t with
      | zero => intro v hv ht; rw [h.src v hv (by omega)]; exact .refl _
      | succ t ih =>
        intro v hv ht
        obtain ⟨u, hu, hadj, he⟩ := h.prev v hv (by omega)
        exact .trans (ih u hu (by omega)) (.edge hadj)
    obtain ⟨t, ht⟩ := Int.eq_ofNat_of_zero_le h0
    exact key t v hv ht
  · intro c
    have := c.keeps (S := fun z => z < n ∧ 0 ≤ g d z) (fun u v e => by
      have hv := hin _ _ e
      have hu := hin _ _ (adj_symm e)
      exact ⟨fun w => ⟨hv, (h.edge u v hu hv e w.2).1⟩, fun w => ⟨hu, (h.edge v u hv hu (adj_symm e) w.2).1⟩⟩)
    exact (this.1 ⟨h.an, by rw [h.zero]; exact Int.le_refl _⟩).2
/-- By more edges it is no further. -/
theorem dist_more {n : Nat} {l m : List Ed} {a : Nat} {d e : List Int} (h : IsDist n l a d) (k : IsDist n m a e) (hs : ∀ u v, adj m u v → adj l u v) : ∀ (t : Nat) (v : Nat), v < n → g e v = (t : Int) → 0 ≤ g d v ∧ g d v ≤ t
  | 0, v, hv, ht => by
    have := k.src v hv (by simpa using ht)
    subst this
    rw [h.zero]; simp
  | t + 1, v, hv, ht => by
    obtain ⟨u, hu, hadj, he⟩ := k.prev v hv (by omega)
    have ih := dist_more h k hs t u hu (by omega)
    have := h.edge u v hu hv (hs _ _ hadj) ih.1
    exact ⟨this.1, by omega⟩
theorem pts_cnt {n : Nat} {A : List AK.Ed} {p : List Int} (h : DF.Pts n A p) : PD.cnt (fun i => decide (g p i = (i : Int))) n = PD.cnt (ldr A) n := by
  refine cnt_congr fun i hi => ?_
  rw [decide_eq_true_iff, ldr_iff]
  obtain ⟨r, h1, h2, h3⟩ := h.pa i hi
  constructor
  · intro he u hu c
    have := TR.pts_least h (show u < n by omega) c
    omega
  · intro hl
    by_cases e : r = i
    · rw [h1, e]
    · exact absurd h3.symm (hl r (by omega))
theorem cnt_filter (p : Nat → Bool) : ∀ n, ((List.range n).filter p).length = UF.cnt n p
  | 0 => rfl
  | n + 1 => by
    rw [List.range_succ, List.filter_append, List.length_append, cnt_filter p n, UF.cnt]
    congr 1
    cases h : p n <;> simp [h]
theorem comp_cnt (n a : Nat) (E : List AK.Ed) {q : Nat → Bool} (hq : ∀ x, x < n → (q x = true ↔ Cn (adj E) a x)) : (comp n E a).length = UF.cnt n q := by
  unfold comp
  rw [List.length_map, cnt_filter]
  refine UF.cnt_congr fun x hx => ?_
  have := hq x hx
  cases h : q x with
  | true => simp [this.1 h]
  | false =>
    rw [decide_eq_false_iff_not]
    intro c
    rw [this.2 c] at h
    cases h
theorem cn_ad {E : Nat → Nat → Prop} {a b p q : Nat} : Cn (Ad E a b) p q ↔ Cn E p q ∨ (Cn E p a ∧ Cn E q b) ∨ (Cn E p b ∧ Cn E q a) := by
  constructor
  · exact cn_cut' (fun p q h => h)
  · have m : ∀ {x y}, Cn E x y → Cn (Ad E a b) x y := fun c => c.mono fun _ _ e => .inl e
    have k : Cn (Ad E a b) a b := .edge (.inr (.inl ⟨rfl, rfl⟩))
    rintro (h | ⟨h1, h2⟩ | ⟨h1, h2⟩)
    · exact m h
    · exact (m h1).trans (k.trans (m h2).symm)
    · exact (m h1).trans (k.symm.trans (m h2).symm)
/-- A union and a forest behind the first i edges. -/
structure UfS (A : List AK.Ed) (i : Nat) (hs : UF.Hs) (E : List AK.Ed) : Prop where
  rt : ∀ x y, UF.rt hs x = UF.rt hs y ↔ Cn (adj E) x y
  cn : ∀ x y, Cn (adj E) x y ↔ Cn (adj (A.take i)) x y
  len : hs.length = E.length
section
variable {n i u v : Nat} {A E : List AK.Ed} {hs : UF.Hs}
theorem UfS.start (A : List AK.Ed) : UfS A 0 [] [] := by
  have h0 : ∀ u v, ¬ adj ([] : List AK.Ed) u v := fun u v e => by simp [adj] at e
  refine ⟨fun x y => ?_, fun x y => by simp, rfl⟩
  constructor
  · intro h; simp only [UF.rt] at h; subst h; exact .refl _
  · intro c
    exact c.into (R := fun x y => UF.rt [] x = UF.rt [] y) (fun _ => rfl) (fun u v e => absurd e (h0 u v)) (fun _ _ h => h.symm) (fun _ _ _ h k => h.trans k)
theorem take_adj (hx : A[i]? = some ((u : Int), (v : Int))) (p q : Nat) : adj (A.take (i + 1)) p q ↔ Ad (adj (A.take i)) u v p q := by
  have e : A.take (i + 1) = A.take i ++ [((u : Int), (v : Int))] := by rw [List.take_add_one, hx]; rfl
  unfold Ad adj
  rw [e, List.mem_append, List.mem_append, List.mem_singleton, List.mem_singleton, Prod.mk.injEq, Prod.mk.injEq]
  constructor
  · rintro ((h | ⟨h1, h2⟩) | (h | ⟨h1, h2⟩))
    · exact .inl (.inl h)
    · exact .inr (.inl ⟨by omega, by omega⟩)
    · exact .inl (.inr h)
    · exact .inr (.inr ⟨by omega, by omega⟩)
  · rintro ((h | h) | (⟨h1, h2⟩ | ⟨h1, h2⟩))
    · exact .inl (.inl h)
    · exact .inr (.inl h)
    · exact .inl (.inr ⟨by omega, by omega⟩)
    · exact .inr (.inr ⟨by omega, by omega⟩)
theorem UfS.same (h : UfS A i hs E) (hx : A[i]? = some ((u : Int), (v : Int))) (c : Cn (adj E) u v) : UfS A (i + 1) (UF.join hs u v) E := by
  have e : UF.join hs u v = hs := by unfold UF.join; rw [if_pos ((h.rt u v).2 c)]
  rw [e]
  refine ⟨h.rt, fun x y => ?_, h.len⟩
  have c2 := (h.cn u v).1 c
  rw [h.cn, cn_iff (take_adj hx) x y, cn_ad]
  exact ⟨.inl, fun q => q.elim id fun q => q.elim (fun q => q.1.trans (c2.trans q.2.symm)) (fun q => q.1.trans (c2.symm.trans q.2.symm))⟩
theorem UfS.new (h : UfS A i hs E) (hx : A[i]? = some ((u : Int), (v : Int))) (hE : ∀ x ∈ E, x.1 < x.2) (c : ¬ Cn (adj E) u v) : UfS A (i + 1) (UF.join hs u v) (putE (AK.ek u v) E) := by
  have hp : ∀ x y, Cn (adj (putE (AK.ek (u : Int) v) E)) x y ↔ Cn (Ad (adj E) u v) x y := fun x y => cn_iff (fun p q => adj_put p q) x y
  refine ⟨fun x y => ?_, fun x y => ?_, ?_⟩
  · rw [UF.join_rel, h.rt, h.rt, h.rt, h.rt, h.rt, hp, cn_ad]
  · rw [hp, cn_ad, cn_iff (take_adj hx) x y, cn_ad, h.cn, h.cn, h.cn, h.cn, h.cn]
  · rw [UF.join_len, if_neg (fun q => c ((h.rt u v).1 q)), putE_length, h.len]
theorem UfS.all (h : UfS A A.length hs E) (x y : Nat) : UF.rt hs x = UF.rt hs y ↔ Cn (adj A) x y := by
  have := h.cn x y
  rw [List.take_length] at this
  exact (h.rt x y).trans this
theorem UfS.parts (h : UfS A A.length hs E) (hf : Fo n E) : PD.cnt (ldr A) n + E.length = n := by
  have h1 := ldr_count hf
  have : PD.cnt (ldr E) n = PD.cnt (ldr A) n := by
    refine cnt_congr fun i _ => ?_
    rw [ldr_iff, ldr_iff]
    have hc : ∀ x y, Cn (adj E) x y ↔ Cn (adj A) x y := fun x y => by
      have := h.cn x y
      rwa [List.take_length] at this
    exact ⟨fun q u hu c => q u hu ((hc _ _).2 c), fun q u hu c => q u hu ((hc _ _).1 c)⟩
  omega
theorem UfS.size (h : UfS A A.length hs E) (hok : UF.Ok n hs) {a : Nat} (ha : a < n) : UF.sz hs (UF.rt hs a) = (comp n A a).length := by
  rw [UF.sz_root hok (UF.rt_lt hok ha) (UF.rt_rt hok)]
  refine (comp_cnt n a A fun x _ => ?_).symm
  rw [beq_iff_eq, h.all]
  exact ⟨Cn.symm, Cn.symm⟩
end
end Go.Proofs.YthgniehfejklhaaGreat
namespace Go.Proofs.YthgniehfejklhaaGreat
open Go Go.RowKit SQ TR DF PD PT
set_option linter.unusedVariables false

/-- Blocks from M0 to M1 are as they were. -/
def KeepR (M0 M1 : Nat) (wr w' : World) : Prop := ∃ T : Nat → Prop, Chg T wr w' ∧ ∀ k, M0 ≤ k → k < M1 → ¬ T k
structure GzA (w wr : World) (g0 n B M0 M1 : Nat) (A : List AK.Ed) : Prop where
  g : ∃ (G : GrP) (N : Nat) (f : AK.Ed → GM.St), G.gb = g0 ∧ GcS w wr G n N A f ∧ N ≤ B ∧ ∀ k, M0 ≤ k → k < M1 → ¬ G.T k
  le : A.length ≤ 200
  m1 : M1 ≤ wr.heap.size
section
variable {w wr w' : World} {g0 n B M0 M1 : Nat} {A l : List AK.Ed} {R : Option Addr}
theorem KeepR.of_ext (hx : Ext wr w') (h : M1 ≤ wr.heap.size) : KeepR M0 M1 wr w' := ⟨_, Chg.of_below hx, fun k _ hk hs => by omega⟩
theorem KeepR.cell (h : KeepR M0 M1 wr w') (hm : M1 ≤ wr.heap.size) {p : Addr} (h0 : M0 ≤ p.block) (h1 : p.block < M1) : w'.cell? p = wr.cell? p := by
  obtain ⟨T, hc, hT⟩ := h
  exact hc.cell (by omega) (hT _ h0 h1)
theorem KeepR.eds (h : KeepR M0 M1 wr w') (he : EdsAt wr R l) (hb : l ≠ [] → ∀ x, R = some x → M0 ≤ x.block ∧ x.block < M1) : EdsAt w' R l := by
  obtain ⟨T, hc, hT⟩ := h
  exact he.chg hc (fun hne x hx => hT _ (hb hne x hx).1 (hb hne x hx).2)
theorem GzA.ext (h : GzA w wr g0 n B M0 M1 A) : Ext w wr := by obtain ⟨G, N, f, _, h2, _⟩ := h.g; exact h2.ext
theorem GzA.moved (h : GzA w wr g0 n B M0 M1 A) (hx : Ext wr w') : GzA w w' g0 n B M0 M1 A := by
  obtain ⟨G, N, f, h1, h2, h3, h4⟩ := h.g
  exact ⟨⟨G, N, f, h1, h2.moved hx, h3, h4⟩, h.le, Nat.le_trans h.m1 hx.size⟩
theorem GzA.ok (h : GzA w wr g0 n B M0 M1 A) : ∀ x ∈ A, 0 ≤ x.1 ∧ x.1 < x.2 ∧ x.2 < (n : Int) := by obtain ⟨G, N, f, _, h2, _⟩ := h.g; exact h2.at_.k.ok
theorem GzA.up (h : GzA w wr g0 n B M0 M1 A) : A.Pairwise ltE := by obtain ⟨G, N, f, _, h2, _⟩ := h.g; exact h2.at_.k.up
theorem GzA.hn (h : GzA w wr g0 n B M0 M1 A) : 1 ≤ n ∧ n ≤ 60 := by obtain ⟨G, N, f, _, h2, _⟩ := h.g; exact h2.at_.m.hn
theorem GzA.de (h : GzA w wr g0 n B M0 M1 A) : DkE n A := ⟨h.hn, h.ok, h.up, h.le⟩
/-- The graph lies below M0, the rows between. -/
theorem GzA.made {G : GrP} {N : Nat} {f : AK.Ed → GM.St} {w2 : World} (h2 : GcS w w2 G n N A f) (hN : N ≤ B) (hl : A.length ≤ 200) (hx : Ext w2 wr) (hm : M1 ≤ wr.heap.size) : GzA w wr G.gb n B w2.heap.size M1 A :=
  ⟨⟨G, N, f, rfl, h2.moved hx, hN, fun k h0 _ hk => by have := h2.at_.m.ltT k hk; omega⟩, hl, hm⟩
theorem gz_parts (h : GzA w wr g0 n B M0 M1 A) : Calls Tryz.prog 22 #[.pointer (some ⟨g0, 0, none⟩)] wr fun e w' => e = .returned (.int .i64 (PD.cnt (ldr A) n : Nat)) ∧ Ext wr w' := by
  obtain ⟨G, N, f, rfl, h2, _⟩ := h.g
  exact gp_any h2.at_ h.le
theorem gz_joined (h : GzA w wr g0 n B M0 M1 A) (a b : Int) : Calls Tryz.prog 21 #[.pointer (some ⟨g0, 0, none⟩), .int .i64 a, .int .i64 b] wr fun e w' => e = .returned (.tuple #[.bool (jB n A a b), jE n a b]) ∧ Ext wr w' := by
  obtain ⟨G, N, f, rfl, h2, _⟩ := h.g
  exact gj_any h2.at_ a b
theorem gz_edges (h : GzA w wr g0 n B M0 M1 A) : Calls Tryz.prog 10 #[.pointer (some ⟨g0, 0, none⟩)] wr fun e w' => ∃ A5 c5, e = .returned (.slice A5 A.length c5) ∧ EdsAt w' A5 A ∧ (A.length ≤ c5 ∧ c5 ≤ maxLen) ∧ Ext wr w' := by
  obtain ⟨G, N, f, rfl, h2, _⟩ := h.g
  exact ge_any h2.at_ h.le
theorem gz_size (h : GzA w wr g0 n B M0 M1 A) (a : Nat) (ha : a < n) : Calls Tryz.prog 30 #[.pointer (some ⟨g0, 0, none⟩), .int .i64 a] wr fun e w' => e = .returned (.tuple #[.int .i64 ((comp n A a).length : Nat), .nilIface]) ∧ Ext wr w' := by
  obtain ⟨G, N, f, rfl, h2, _⟩ := h.g
  have := gsize_ok h2.at_.m a ha
  rwa [comp_joins h2.at_] at this
theorem gz_turn {G G' : GrP} {N : Nat} {f f' : AK.Ed → GM.St} {C : List AK.Ed} (h2 : GcS w wr G n N A f) (hN : N ≤ B) (h4 : ∀ k, M0 ≤ k → k < M1 → ¬ G.T k) (hm : M1 ≤ wr.heap.size) (q1 : GrI w' G' n (N + 4000) C f') (q2 : GrC wr w' G G') (hC : C.length ≤ 200) : GzA w w' G.gb n (B + 4000) M0 M1 C ∧ KeepR M0 M1 wr w' :=
  ⟨⟨⟨G', N + 4000, f', q2.gb, h2.step q1 q2, by omega, fun k h0 h1 hk => (q2.t k hk).elim (h4 k h0 h1) (fun q => by omega)⟩, hC, Nat.le_trans hm q2.chg.size⟩, ⟨_, q2.chg, fun k h0 h1 hs => h4 k h0 h1 (.inl hs)⟩⟩
theorem gz_drop (h : GzA w wr g0 n B M0 M1 A) (hB : B + 4000 < 1000000) {u v : Nat} (hx : ((u : Int), (v : Int)) ∈ A) : Calls Tryz.prog 27 #[.pointer (some ⟨g0, 0, none⟩), .int .i64 u, .int .i64 v] wr fun e w' => e = .returned .nilIface ∧ GzA w w' g0 n (B + 4000) M0 M1 (cutE ((u : Int), (v : Int)) A) ∧ KeepR M0 M1 wr w' := by
  have huv := h.ok _ hx
  simp only at huv
  have hek : AK.ek (u : Int) v = ((u : Int), (v : Int)) := by unfold AK.ek; rw [Int.min_eq_left (by omega), Int.max_eq_right (by omega)]
  have hf : DS.flt n A 2 (u : Int) v = 0 := by
    unfold DS.flt
    rw [if_neg (by omega), if_neg (by decide), if_pos rfl, hek, if_pos hx]
  have hn : DS.nxt A 2 (u : Int) v = cutE ((u : Int), (v : Int)) A := by unfold DS.nxt; rw [if_neg (by decide), if_pos rfl, hek]
  obtain ⟨G, N, f, rfl, h2, h3, h4⟩ := h.g
  refine (act_drop h2.at_ (by omega) h.le (u : Int) v).mono ?_
  rintro e w' ⟨rfl, G', f', q1, q2⟩
  rw [hf] at q1 ⊢
  rw [if_pos rfl, hn] at q1
  exact ⟨rfl, gz_turn h2 h3 h4 h.m1 q1 q2 (Nat.le_trans (cutE_len_le _ _) h.le)⟩
theorem gz_add (h : GzA w wr g0 n B M0 M1 A) (hB : B + 4000 < 1000000) {u v : Nat} (huv : u < v) (hv : v < n) (hx : ((u : Int), (v : Int)) ∉ A) (hl : A.length < 200) : Calls Tryz.prog 28 #[.pointer (some ⟨g0, 0, none⟩), .int .i64 u, .int .i64 v] wr fun e w' => e = .returned .nilIface ∧ GzA w w' g0 n (B + 4000) M0 M1 (putE ((u : Int), (v : Int)) A) ∧ KeepR M0 M1 wr w' := by
  have hn60 := h.hn
  have hek : AK.ek (u : Int) v = ((u : Int), (v : Int)) := by unfold AK.ek; rw [Int.min_eq_left (by omega), Int.max_eq_right (by omega)]
  have hf : DS.flt n A 1 (u : Int) v = 0 := by
    unfold DS.flt
    rw [if_neg (by omega), if_pos rfl]
    unfold addFault
    rw [if_neg (by omega), if_neg (by omega), hek, if_neg hx, if_neg (by omega)]
  have hn : DS.nxt A 1 (u : Int) v = putE ((u : Int), (v : Int)) A := by unfold DS.nxt; rw [if_pos rfl, hek]
  obtain ⟨G, N, f, rfl, h2, h3, h4⟩ := h.g
  refine (act_add h2.at_ (by omega) (u : Int) v (by omega) (by omega)).mono ?_
  rintro e w' ⟨rfl, G', f', q1, q2⟩
  rw [hf] at q1 ⊢
  rw [if_pos rfl, hn] at q1
  exact ⟨rfl, gz_turn h2 h3 h4 h.m1 q1 q2 (by rw [putE_length]; omega)⟩
/-- The graph's Edges, in a block of its own. -/
theorem ge_new {G : GrP} {N : Nat} {f : AK.Ed → GM.St} (h : GrI wr G n N A f) (hl : A.length ≤ 200) : Calls Tryz.prog 10 #[.pointer (some ⟨G.gb, 0, none⟩)] wr fun e w' => ∃ A5 c5, e = .returned (.slice A5 A.length c5) ∧ EdsAt w' A5 A ∧ (A ≠ [] → ∀ x, A5 = some x → wr.heap.size ≤ x.block ∧ x.block < w'.heap.size) ∧ Ext wr w' := by
  refine (gedges_any h.m h.k.ok h.k.up hl).mono ?_
  rintro e w5 ⟨A5, c5, rfl, hd5, hx5, hn5⟩
  have hed := DRow.eds hd5 rfl
  refine ⟨A5, c5, rfl, hed.1, fun hne x hx => ⟨hn5 x.block (by subst hx; rfl), ?_⟩, hx5⟩
  rcases hed.1 with h0 | ⟨b, o, he, hb, _⟩
  · exact absurd h0 hne
  · rw [he] at hx; injection hx with hx; subst hx; exact hb
end
end Go.Proofs.YthgniehfejklhaaGreat
