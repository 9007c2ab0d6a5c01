/-
  None is lighter than the span: the plain state of SpanLeast's second loop, the example's span. No conditions.
-/
import Derived.Test.YtckcbfnffmohgaaSpanLeastPk27
import Derived.Test.YtckcbfnffmohgaaSpanLeastPk29
import Derived.Test.YtckcbfnffmohgaaSpanLeastPk30
import Derived.Test.YtckcbfnffmohgaaSpanLeastPk51
namespace Go.Proofs.Ytckcbfnffmohgaa
open Go Go.RowKit Go.Lib NK SQ TR DF PD
set_option linter.unusedVariables false

theorem cn_adL {E : Nat → Nat → Prop} {a b p q : Nat} : Cn (Ad E a b) p q ↔ Cn E p q ∨ (Cn E p a ∧ Cn E q b) ∨ (Cn E p b ∧ Cn E q a) := by
  constructor
  · exact fun c => cn_cut' (fun p q h => h) c
  · have m : ∀ {x y}, Cn E x y → Cn (Ad E a b) x y := fun c => c.mono fun u v e => .inl e
    have k : Cn (Ad E a b) a b := .edge (.inr (.inl ⟨rfl, rfl⟩))
    rintro (h | ⟨h1, h2⟩ | ⟨h1, h2⟩)
    · exact m h
    · exact (m h1).trans (k.trans (m h2).symm)
    · exact (m h1).trans (k.symm.trans (m h2).symm)
theorem con_cons {es : List (Nat × Nat)} {a b x y : Nat} : UF.Con ((a, b) :: es) x y ↔ UF.Con es x y ∨ (UF.Con es x a ∧ UF.Con es y b) ∨ (UF.Con es x b ∧ UF.Con es y a) := by
  rw [← UF.Con.snoc]
  constructor
  · exact Con.rev fun p hp => by
      rcases List.mem_cons.1 hp with h | h
      · subst h; exact List.mem_append_right _ (by simp)
      · exact List.mem_append_left _ h
  · exact Con.rev fun p hp => by
      rcases List.mem_append.1 hp with h | h
      · exact List.mem_cons_of_mem _ h
      · obtain rfl : p = (a, b) := by simpa using h
        exact List.mem_cons_self ..
/-- The forest beside what was linked. -/
structure LsS (L : List He) (ks : List Int) (E : List AK.Ed) : Prop where
  ind : NK.Ind (ks.map (ndH L))
  inn : ∀ k ∈ ks, ∃ i : Nat, i < L.length ∧ (i : Int) = k
  con : ∀ x y, Cn (adj E) x y ↔ UF.Con (ks.map (ndH L)) x y
theorem LsS.start (L : List He) : LsS L [] [] := by
  refine ⟨trivial, (fun k hk => by cases hk), fun x y => ?_⟩
  have h0 : ∀ u v, ¬ adj ([] : List AK.Ed) u v := fun u v e => by simp [adj] at e
  constructor
  · intro c
    have : x = y := c.into (R := fun x y => x = y) (fun _ => rfl) (fun u v e => absurd e (h0 u v)) (fun _ _ h => h.symm) (fun _ _ _ h k => h.trans k)
    rw [this]; exact .refl _
  · intro c
    have := UF.Con.ind (f := fun x => x) (fun x y hm => by simp at hm) c
    rw [this]; exact .refl _
theorem LsS.link {L : List He} {ks : List Int} {E : List AK.Ed} (h : LsS L ks E) {i a b : Nat} (hi : i < L.length) (hn : ndH L (i : Int) = (a, b)) (c : ¬ Cn (adj E) a b) : LsS L ((i : Int) :: ks) (putE (AK.ek a b) E) := by
  refine ⟨⟨h.ind, ?_⟩, fun k hk => ?_, fun x y => ?_⟩
  · rw [hn]; exact fun q => c ((h.con a b).2 q)
  · rcases List.mem_cons.1 hk with rfl | hk
    · exact ⟨i, hi, rfl⟩
    · exact h.inn k hk
  · rw [List.map_cons, hn, con_cons, ← h.con, ← h.con, ← h.con, ← h.con, ← h.con, ← cn_adL]
    constructor
    · exact fun q => q.mono fun u v e => (adj_put u v).1 e
    · exact fun q => q.mono fun u v e => (adj_put u v).2 e
theorem LsS.few {n : Nat} {L : List He} {ks : List Int} {E : List AK.Ed} (h : LsS L ks E) (hok : OkH n L) : ks.length < n := by
  obtain ⟨hs, h1, h2, h3⟩ := h.ind.rank (n := n) fun p hp => by
    obtain ⟨k, hk, rfl⟩ := List.mem_map.1 hp
    obtain ⟨i, h1, rfl⟩ := h.inn k hk
    exact ⟨(hok.nd h1).1, (hok.nd h1).2.1⟩
  have := UF.len_lt h1 (by have := hok.n1; omega)
  rw [h3, List.length_map] at this
  exact this

/-! ### The example -/
def factL : List He := [((0, 1), 5), ((0, 2), 1), ((1, 2), 2)]
theorem factL_ok : OkH 3 factL := ⟨by omega, by omega, by decide, fun x hx => by
  simp only [factL, List.mem_cons, List.not_mem_nil, or_false] at hx
  rcases hx with rfl | rfl | rfl <;> decide⟩
theorem factL_span : spanH factL = [1, 2] := by
  have t0 : ¬ Tk factL 0 := by
    unfold Tk
    have e : ahH factL 0 = [(0, 2), (1, 2)] := by decide
    have n : ndH factL ((0 : Nat) : Int) = (0, 1) := by decide
    rw [e, n]
    refine fun q => q ?_
    have h1 : (0, 2) ∈ [((0 : Nat), (2 : Nat)), (1, 2)] := by decide
    have h2 : (1, 2) ∈ [((0 : Nat), (2 : Nat)), (1, 2)] := by decide
    exact (UF.Con.edge h1).trans (UF.Con.edge h2).symm
  have t1 : Tk factL 1 := by
    unfold Tk
    have e : ahH factL 1 = [] := by decide
    have n : ndH factL ((1 : Nat) : Int) = (0, 2) := by decide
    rw [e, n]
    intro q
    have := UF.Con.ind (f := fun x => x) (fun x y hm => by cases hm) q
    simp at this
  have t2 : Tk factL 2 := by
    unfold Tk
    have e : ahH factL 2 = [(0, 2)] := by decide
    have n : ndH factL ((2 : Nat) : Int) = (1, 2) := by decide
    rw [e, n]
    intro q
    have := UF.Con.ind (f := fun x => if x = 1 then 1 else 0) (fun x y hm => by
      simp only [List.mem_singleton, Prod.mk.injEq] at hm
      obtain ⟨rfl, rfl⟩ := hm
      rfl) q
    simp at this
  unfold spanH
  rw [show List.range factL.length = [0, 1, 2] by decide]
  rw [List.filter_cons_of_neg (by rw [tkB_no.2 t0]; simp), List.filter_cons_of_pos (tkB_iff.2 t1), List.filter_cons_of_pos (tkB_iff.2 t2)]
  rfl
theorem factL_at {w w0 : World} {t : TypeId} (h : Blk w0 w.heap.size t #[.int .i64 0, .int .i64 1, .int .i64 5, .int .i64 0, .int .i64 2, .int .i64 1, .int .i64 1, .int .i64 2, .int .i64 2]) : HvAt w0 (some ⟨w.heap.size, 0, none⟩) factL := by
  refine .inr ⟨_, 0, rfl, h.lt, fun i x hx => ?_⟩
  match i, hx with
  | 0, hx => simp [factL] at hx; subst hx; exact ⟨h.cell 0, h.cell 1, h.cell 2⟩
  | 1, hx => simp [factL] at hx; subst hx; exact ⟨h.cell 3, h.cell 4, h.cell 5⟩
  | 2, hx => simp [factL] at hx; subst hx; exact ⟨h.cell 6, h.cell 7, h.cell 8⟩
  | i + 3, hx => simp [factL] at hx
end Go.Proofs.Ytckcbfnffmohgaa
