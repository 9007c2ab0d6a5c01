/-
  An edge put where it belongs in a rising list, in plain Lean. No program in sight.
  Plain: forests as rising lists of edges: put, struck, counted; ways are short; parts told by their least nodes. No program here; no conditions.
-/
import Derived.Test.YtckcbfnffmohgaaAk
import Derived.Test.YtckcbfnffmohgaaTr1
namespace Go.Proofs.Ytckcbfnffmohgaa
open Go
set_option linter.unusedVariables false

/-- It comes first. -/
def ltE (x y : AK.Ed) : Prop := x.1 < y.1 ∨ (x.1 = y.1 ∧ x.2 < y.2)
instance (x y : AK.Ed) : Decidable (ltE x y) := by unfold ltE; infer_instance
def putE (e : AK.Ed) : List AK.Ed → List AK.Ed
  | [] => [e]
  | x :: r => if ltE e x then e :: x :: r else x :: putE e r
theorem putE_mem {e y : AK.Ed} : ∀ {l : List AK.Ed}, y ∈ putE e l ↔ y = e ∨ y ∈ l
  | [] => by simp [putE]
  | x :: r => by
    unfold putE
    split
    · simp
    · rw [List.mem_cons, putE_mem (l := r), List.mem_cons]
      constructor
      · rintro (h | h | h)
        · exact .inr (.inl h)
        · exact .inl h
        · exact .inr (.inr h)
      · rintro (h | h | h)
        · exact .inr (.inl h)
        · exact .inl h
        · exact .inr (.inr h)
theorem putE_length (e : AK.Ed) : ∀ l : List AK.Ed, (putE e l).length = l.length + 1
  | [] => rfl
  | x :: r => by
    unfold putE
    split
    · simp
    · rw [List.length_cons, putE_length e r, List.length_cons]
theorem ltE_trans {x y z : AK.Ed} (h : ltE x y) (k : ltE y z) : ltE x z := by unfold ltE at *; omega
theorem putE_rises {e : AK.Ed} : ∀ {l : List AK.Ed}, l.Pairwise ltE → e ∉ l → (putE e l).Pairwise ltE
  | [], _, _ => by simp [putE]
  | x :: r, h, hn => by
    rw [List.pairwise_cons] at h
    unfold putE
    split
    · rename_i hlt
      rw [List.pairwise_cons]
      refine ⟨fun y hy => ?_, by rw [List.pairwise_cons]; exact h⟩
      rcases List.mem_cons.1 hy with hy | hy
      · subst hy; exact hlt
      · exact ltE_trans hlt (h.1 y hy)
    · rename_i hlt
      rw [List.pairwise_cons]
      refine ⟨fun y hy => ?_, putE_rises h.2 (fun w => hn (List.mem_cons_of_mem _ w))⟩
      rcases putE_mem.1 hy with hy | hy
      · subst hy
        have : y ≠ x := fun w => hn (w ▸ List.mem_cons_self ..)
        obtain ⟨a, b⟩ := x
        obtain ⟨c, d⟩ := y
        unfold ltE at *
        simp only [ne_eq, Prod.mk.injEq] at *
        omega
      · exact h.1 y hy
/-- Rising rows with the same members are one. -/
theorem rises_ext {l m : List AK.Ed} (hl : l.Pairwise ltE) (hm : m.Pairwise ltE) (h : ∀ x, x ∈ l ↔ x ∈ m) : l = m := by
  induction l generalizing m with
  | nil =>
    cases m with
    | nil => rfl
    | cons y m => exact absurd ((h y).2 (List.mem_cons_self ..)) (List.not_mem_nil)
  | cons x l ih =>
    cases m with
    | nil => exact absurd ((h x).1 (List.mem_cons_self ..)) (List.not_mem_nil)
    | cons y m =>
      rw [List.pairwise_cons] at hl hm
      have irr : ∀ z : AK.Ed, ¬ ltE z z := fun z w => by unfold ltE at w; omega
      have e : x = y := by
        rcases List.mem_cons.1 ((h x).1 (List.mem_cons_self ..)) with w | w
        · exact w
        · rcases List.mem_cons.1 ((h y).2 (List.mem_cons_self ..)) with z | z
          · exact z.symm
          · exact absurd (ltE_trans (hl.1 y z) (hm.1 x w)) (irr x)
      subst e
      congr 1
      refine ih hl.2 hm.2 fun z => ⟨fun w => ?_, fun w => ?_⟩
      · rcases List.mem_cons.1 ((h z).1 (List.mem_cons_of_mem _ w)) with q | q
        · subst q; exact absurd (hl.1 z w) (irr z)
        · exact q
      · rcases List.mem_cons.1 ((h z).2 (List.mem_cons_of_mem _ w)) with q | q
        · subst q; exact absurd (hm.1 z w) (irr z)
        · exact q
end Go.Proofs.Ytckcbfnffmohgaa
namespace Go.Proofs.Ytckcbfnffmohgaa
set_option linter.unusedVariables false

namespace TR
open DF PD PT

/-- A forest on n nodes. -/
structure Fo (n : Nat) (E : List AK.Ed) : Prop where
  ok : ∀ x ∈ E, 0 ≤ x.1 ∧ x.1 < x.2 ∧ x.2 < (n : Int)
  up : E.Pairwise ltE
  fs : Fs (adj E)
theorem adj_in {n : Nat} {E : List AK.Ed} (h : ∀ x ∈ E, 0 ≤ x.1 ∧ x.1 < x.2 ∧ x.2 < (n : Int)) {u v : Nat} (e : adj E u v) : u < n ∧ v < n ∧ u ≠ v := by
  rcases e with e | e
  · have := h _ e; simp only at this; omega
  · have := h _ e; simp only at this; omega
theorem rises_nodup {E : List AK.Ed} (h : E.Pairwise ltE) : E.Nodup := h.imp fun {a b} hl e => by subst e; unfold ltE at hl; omega
theorem ek_eq (a b u v : Nat) : ((u : Int), (v : Int)) = AK.ek a b ↔ (u = min a b ∧ v = max a b) := by
  unfold AK.ek
  rw [Prod.mk.injEq]
  omega
theorem adj_ek {E : List AK.Ed} {a b : Nat} (h : ∀ x ∈ E, x.1 < x.2) (hab : a ≠ b) : AK.ek a b ∈ E ↔ adj E a b := by
  have e : AK.ek a b = (((min a b : Nat) : Int), ((max a b : Nat) : Int)) := ((ek_eq a b (min a b) (max a b)).2 ⟨rfl, rfl⟩).symm
  rw [e]
  unfold adj
  rcases Nat.lt_or_ge a b with hl | hl
  · rw [Nat.min_eq_left (by omega), Nat.max_eq_right (by omega)]
    exact ⟨.inl, fun w => w.elim id fun w => by have := h _ w; simp only at this; omega⟩
  · rw [Nat.min_eq_right (by omega), Nat.max_eq_left (by omega)]
    exact ⟨.inr, fun w => w.elim (fun w => by have := h _ w; simp only at this; omega) id⟩
theorem adj_put {E : List AK.Ed} {a b : Nat} (u v : Nat) : adj (putE (AK.ek a b) E) u v ↔ Ad (adj E) a b u v := by
  unfold adj Ad
  rw [putE_mem, putE_mem, ek_eq, ek_eq]
  constructor
  · rintro ((h | h) | (h | h))
    · exact .inr (by omega)
    · exact .inl (.inl h)
    · exact .inr (by omega)
    · exact .inl (.inr h)
  · rintro ((h | h) | h)
    · exact .inl (.inr h)
    · exact .inr (.inr h)
    · rcases Nat.lt_or_ge u v with hl | hl
      · exact .inl (.inl (by omega))
      · exact .inr (.inl (by omega))
/-- Without an edge. -/
def cutE (x : AK.Ed) (E : List AK.Ed) : List AK.Ed := E.filter fun y => decide (y ≠ x)
theorem cutE_mem {x y : AK.Ed} {E : List AK.Ed} : y ∈ cutE x E ↔ y ∈ E ∧ y ≠ x := by simp [cutE]
theorem adj_cut {E : List AK.Ed} {a b : Nat} (h : ∀ x ∈ E, x.1 < x.2) (u v : Nat) : adj (cutE (AK.ek a b) E) u v ↔ Mn (adj E) a b u v := by
  unfold adj Mn
  rw [cutE_mem, cutE_mem, Ne, ek_eq, Ne, ek_eq]
  constructor
  · rintro (⟨h1, h2⟩ | ⟨h1, h2⟩)
    · have := h _ h1; simp only at this
      exact ⟨.inl h1, by omega, by omega⟩
    · have := h _ h1; simp only at this
      exact ⟨.inr h1, by omega, by omega⟩
  · rintro ⟨h1 | h1, h2, h3⟩
    · exact .inl ⟨h1, by omega⟩
    · exact .inr ⟨h1, by omega⟩
theorem Fs.congr {E F : Nat → Nat → Prop} (h : Fs E) (he : ∀ u v, F u v ↔ E u v) : Fs F := h.sub fun u v e => (he u v).1 e
theorem Fo.put {n : Nat} {E : List AK.Ed} (h : Fo n E) {a b : Nat} (ha : a < n) (hb : b < n) (hn : ¬ Cn (adj E) a b) : Fo n (putE (AK.ek a b) E) := by
  have hab : a ≠ b := fun e => hn (e ▸ .refl _)
  refine ⟨fun x hx => ?_, putE_rises h.up fun hm => hn (.edge ((adj_ek (fun x hx => (h.ok x hx).2.1) hab).1 hm)), (h.fs.ad hn).congr fun u v => adj_put u v⟩
  rcases putE_mem.1 hx with rfl | hx
  · unfold AK.ek; simp only; omega
  · exact h.ok x hx
theorem Fo.cut {n : Nat} {E : List AK.Ed} (h : Fo n E) (x : AK.Ed) : Fo n (cutE x E) :=
  ⟨fun y hy => h.ok y (cutE_mem.1 hy).1, h.up.filter _, h.fs.sub fun u v e => e.imp (fun e => (cutE_mem.1 e).1) fun e => (cutE_mem.1 e).1⟩
theorem Fo.nil (n : Nat) : Fo n [] := ⟨by simp, .nil, fun u v e => by simp [adj] at e⟩
theorem Fo.lt {n : Nat} {E : List AK.Ed} (h : Fo n E) : ∀ x ∈ E, x.1 < x.2 := fun x hx => (h.ok x hx).2.1
/-- As many trees as nodes, less the edges. -/
theorem cnt_all {n : Nat} {p : Nat → Bool} (h : ∀ i, i < n → p i = true) : PD.cnt p n = n := by
  induction n with
  | zero => rfl
  | succ n ih => rw [PD.cnt, ih fun i hi => h i (by omega), h n (by omega)]; rfl
theorem cntP_same {n : Nat} {es fs : List (Nat × Nat)} {p q : List Nat} (hp : IsParts n es p) (hq : IsParts n fs q) (h : ∀ x y, UF.Con es x y ↔ UF.Con fs x y) : cntP n p = cntP n q := by
  have h1 := (count_finer hp hq fun x y c => (h x y).2 c).1
  have h2 := (count_finer hq hp fun x y c => (h x y).1 c).1
  omega
theorem count_fs {n : Nat} : ∀ {E : List AK.Ed}, (∀ x ∈ E, 0 ≤ x.1 ∧ x.1 < x.2 ∧ x.2 < (n : Int)) → E.Nodup → Fs (adj E) → ∀ {es : List (Nat × Nat)} {p : List Nat}, (∀ x y, adj E x y ↔ (x, y) ∈ es ∨ (y, x) ∈ es) → IsParts n es p → cntP n p + E.length = n
  | [], _, _, _, es, p, he, hp => by
    have h0 : ∀ x y, UF.Con es x y → x = y := fun x y c => by
      have := (con_iff he x y).1 c
      exact this.into (R := fun x y => x = y) (fun _ => rfl) (fun u v e => by simp [adj] at e) (fun _ _ h => h.symm) (fun _ _ _ h k => h.trans k)
    rw [List.length_nil, Nat.add_zero]
    refine cnt_all fun i hi => ?_
    obtain ⟨v, h1, _, h3⟩ := hp.get hi
    rw [fx_true, h1, h0 _ _ h3]
  | e :: E, hok, hnd, hf, es, p, he, hp => by
    rw [List.nodup_cons] at hnd
    obtain ⟨u, v, rfl, huv, hvn⟩ : ∃ u v : Nat, e = ((u : Int), (v : Int)) ∧ u < v ∧ v < n := by
      have := hok e (List.mem_cons_self ..)
      exact ⟨e.1.toNat, e.2.toNat, by rw [Int.toNat_of_nonneg (by omega), Int.toNat_of_nonneg (by omega)], by omega, by omega⟩
    have hokE : ∀ x ∈ E, 0 ≤ x.1 ∧ x.1 < x.2 ∧ x.2 < (n : Int) := fun x hx => hok x (List.mem_cons_of_mem _ hx)
    have sub : ∀ a b, adj E a b → adj (((u : Int), (v : Int)) :: E) a b := fun a b w => w.imp (List.mem_cons_of_mem _) (List.mem_cons_of_mem _)
    have hn : ¬ Cn (adj E) u v := fun c => hf u v (.inl (List.mem_cons_self ..)) (c.mono fun a b w => ⟨sub a b w, fun q => by
        obtain ⟨rfl, rfl⟩ := q
        rcases w with w | w
        · exact hnd.1 w
        · have := hokE _ w; simp only at this; omega, fun q => by
        obtain ⟨rfl, rfl⟩ := q
        rcases w with w | w
        · have := hokE _ w; simp only at this; omega
        · exact hnd.1 w⟩)
    let fs : List (Nat × Nat) := E.map fun x => (x.1.toNat, x.2.toNat)
    have hfs : ∀ x y, adj E x y ↔ (x, y) ∈ fs ∨ (y, x) ∈ fs := fun x y => by
      have key : ∀ x y : Nat, ((x : Int), (y : Int)) ∈ E ↔ (x, y) ∈ fs := fun x y => by
        simp only [fs, List.mem_map]
        constructor
        · intro h; exact ⟨_, h, by simp⟩
        · rintro ⟨z, hz, e⟩
          have := hokE z hz
          have e1 := congrArg Prod.fst e
          have e2 := congrArg Prod.snd e
          simp only at e1 e2
          have : z = ((x : Int), (y : Int)) := Prod.ext (by simp only; omega) (by simp only; omega)
          rwa [← this]
      unfold adj
      rw [key, key]
    have inn : ∀ x y, (x, y) ∈ fs → x < n ∧ y < n := fun x y h => by
      have := adj_in hokE ((hfs x y).2 (.inl h)); exact ⟨this.1, this.2.1⟩
    obtain ⟨q, hq⟩ := exists_parts n fs inn
    obtain ⟨r, hr⟩ := exists_parts n (fs ++ [(u, v)]) (fun x y h => by
      rcases List.mem_append.1 h with h | h
      · exact inn x y h
      · simp at h; omega)
    have ih := count_fs hokE hnd.2 (hf.sub sub) hfs hq
    have h1 := (count_add hr hq (by omega) hvn).2 fun c => hn ((con_iff hfs u v).1 c)
    have h2 : cntP n p = cntP n r := by
      refine cntP_same hp hr fun x y => ?_
      have hes : ∀ x y, adj (((u : Int), (v : Int)) :: E) x y ↔ (x, y) ∈ fs ++ [(u, v)] ∨ (y, x) ∈ fs ++ [(u, v)] := fun x y => by
        have := hfs x y
        unfold adj at this ⊢
        rw [List.mem_cons, List.mem_cons, List.mem_append, List.mem_append, List.mem_singleton, List.mem_singleton]
        have e1 : ((x : Int), (y : Int)) = ((u : Int), (v : Int)) ↔ (x, y) = (u, v) := by rw [Prod.mk.injEq, Prod.mk.injEq]; omega
        have e2 : ((y : Int), (x : Int)) = ((u : Int), (v : Int)) ↔ (y, x) = (u, v) := by rw [Prod.mk.injEq, Prod.mk.injEq]; omega
        rw [e1, e2]
        constructor
        · rintro ((h | h) | (h | h))
          · exact .inl (.inr h)
          · rcases this.1 (.inl h) with h | h
            · exact .inl (.inl h)
            · exact .inr (.inl h)
          · exact .inr (.inr h)
          · rcases this.1 (.inr h) with h | h
            · exact .inl (.inl h)
            · exact .inr (.inl h)
        · rintro ((h | h) | (h | h))
          · rcases this.2 (.inl h) with h | h
            · exact .inl (.inr h)
            · exact .inr (.inr h)
          · exact .inl (.inl h)
          · rcases this.2 (.inr h) with h | h
            · exact .inl (.inr h)
            · exact .inr (.inr h)
          · exact .inr (.inl h)
      rw [con_iff he, con_iff hes]
    rw [List.length_cons]; omega
theorem Fo.len {n : Nat} {E : List AK.Ed} (h : Fo n E) : E.length ≤ n := by
  let es : List (Nat × Nat) := E.map fun x => (x.1.toNat, x.2.toNat)
  have key : ∀ x y : Nat, ((x : Int), (y : Int)) ∈ E ↔ (x, y) ∈ es := fun x y => by
    simp only [es, List.mem_map]
    constructor
    · intro h; exact ⟨_, h, by simp⟩
    · rintro ⟨z, hz, e⟩
      have := h.ok z hz
      have e1 := congrArg Prod.fst e
      have e2 := congrArg Prod.snd e
      simp only at e1 e2
      have : z = ((x : Int), (y : Int)) := Prod.ext (by simp only; omega) (by simp only; omega)
      rwa [← this]
  have he : ∀ x y, adj E x y ↔ (x, y) ∈ es ∨ (y, x) ∈ es := fun x y => by unfold adj; rw [key, key]
  obtain ⟨p, hp⟩ := exists_parts n es fun x y w => by have := adj_in h.ok ((he x y).2 (.inl w)); exact ⟨this.1, this.2.1⟩
  have := count_fs h.ok (rises_nodup h.up) h.fs he hp
  omega
theorem nodup_le {α : Type} [DecidableEq α] : ∀ {xs ys : List α}, xs.Nodup → (∀ x ∈ xs, x ∈ ys) → xs.length ≤ ys.length
  | [], ys, _, _ => Nat.zero_le _
  | x :: xs, ys, h, hs => by
    rw [List.nodup_cons] at h
    have hx := hs x (List.mem_cons_self ..)
    have := nodup_le (ys := ys.erase x) h.2 fun y hy => by
      have hne : y ≠ x := fun e => h.1 (e ▸ hy)
      exact (List.mem_erase_of_ne hne).2 (hs y (List.mem_cons_of_mem _ hy))
    rw [List.length_erase_of_mem hx] at this
    have hp := List.length_pos_of_mem hx
    rw [List.length_cons]; omega
/-- A way is short. -/
theorem Way.len {n r : Nat} {E : List AK.Ed} {l : List Int} (h : Way (adj E) r l) (hE : Fo n E) (hn : n ≤ 60) : l.length ≤ 180 := by
  obtain ⟨v, k⟩ := h.go
  have h1 := nodup_le (ys := (List.range 60).map (fun (x : Nat) => (x : Int)) ++ (E.map (fun x => (x.1 + 1) * 60 + x.2) ++ E.map (fun x => (x.2 + 1) * 60 + x.1))) h.nd fun z hz => by
    rcases k.items hz with ⟨x, hx, rfl⟩ | ⟨x, y, hy, e, rfl⟩
    · exact List.mem_append.2 (.inl (List.mem_map.2 ⟨x, List.mem_range.2 hx, rfl⟩))
    · refine List.mem_append.2 (.inr (List.mem_append.2 ?_))
      rcases e with e | e
      · exact .inl (List.mem_map.2 ⟨_, e, rfl⟩)
      · exact .inr (List.mem_map.2 ⟨_, e, rfl⟩)
  have h2 := hE.len
  simp at h1
  omega

/-- The marks of a way. -/
def mks (l : List Int) : List Int := l.filter fun x => !decide (60 ≤ x)
theorem mks_mem {l : List Int} {x : Int} : x ∈ mks l ↔ x ∈ l ∧ x < 60 := by simp [mks]
theorem Way.mks {n r : Nat} {E : List AK.Ed} {l : List Int} (h : Way (adj E) r l) (hr : r < n) (hE : Fo n E) (hn : n ≤ 60) : (TR.mks l).Nodup ∧ (∀ x ∈ TR.mks l, ∃ v : Nat, x = v ∧ v < n ∧ Cn (adj E) r v) ∧ ∀ v : Nat, v < n → Cn (adj E) r v → (v : Int) ∈ TR.mks l := by
  obtain ⟨u, k⟩ := h.go
  have inn : ∀ v, Cn (adj E) r v → v < n := fun v c => (c.keeps (S := fun z => z < n) fun a b e => by have := adj_in hE.ok e; omega).1 hr
  refine ⟨h.nd.filter _, fun x hx => ?_, fun v hv c => mks_mem.2 ⟨(h.mrk v (by omega)).2 c, by omega⟩⟩
  obtain ⟨h1, h2⟩ := mks_mem.1 hx
  rcases k.items h1 with ⟨v, hv, rfl⟩ | ⟨a, b, _, _, rfl⟩
  · have c := (h.mrk v hv).1 h1
    exact ⟨v, rfl, inn v c, c⟩
  · have := st_ge a b; omega

/-- Parts told by their least nodes. -/
theorem pts_of {n : Nat} {E : List AK.Ed} {p : List Int} (hok : ∀ x ∈ E, 0 ≤ x.1 ∧ x.1 < x.2 ∧ x.2 < (n : Int)) (hl : p.length = n) (h : ∀ v, v < n → ∃ r : Nat, g p v = (r : Int) ∧ Cn (adj E) r v ∧ ∀ u, u < n → Cn (adj E) v u → r ≤ u) : Pts n E p := by
  refine ⟨hl, fun v hv => ?_, fun u v e => ?_⟩
  · obtain ⟨r, h1, h2, h3⟩ := h v hv
    exact ⟨r, h1, h3 v hv (.refl _), h2⟩
  · obtain ⟨hu, hv, _⟩ := adj_in hok e
    obtain ⟨r, h1, h2, h3⟩ := h u hu
    obtain ⟨s, k1, k2, k3⟩ := h v hv
    have inn : ∀ {x y}, Cn (adj E) x y → x < n → y < n := fun c hx => (c.keeps (S := fun z => z < n) fun a b e => by have := adj_in hok e; omega).1 hx
    have a1 := h3 s (inn k2.symm hv) ((Cn.edge e).trans k2.symm)
    have a2 := k3 r (inn h2.symm hu) ((Cn.edge e).symm.trans h2.symm)
    rw [h1, k1]
    congr 1
    omega
theorem pts_least {n : Nat} {E : List AK.Ed} {p : List Int} (h : Pts n E p) {v u : Nat} (hu : u < n) (c : Cn (adj E) v u) : g p v ≤ u := by
  obtain ⟨r, h1, h2, _⟩ := h.pa u hu
  rw [h.same c, h1]; omega
end TR
end Go.Proofs.Ytckcbfnffmohgaa
