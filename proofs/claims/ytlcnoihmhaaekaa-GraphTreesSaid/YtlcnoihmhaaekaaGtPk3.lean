/-
  Plain: the tree's edges linked one by one, level by level. No program here; no conditions.
-/
import Derived.Test.YtlcnoihmhaaekaaBs32
namespace Go.Proofs.Ytlcnoihmhaaekaa
set_option linter.unusedVariables false
namespace GT
open AK UF DF PD PT TR GM
/-- Of the first k edges of T those that a rule keeps. -/
def Pre (T : List AK.Ed) (p : AK.Ed → Bool) (k : Nat) (E : List AK.Ed) : Prop := ∀ x, x ∈ E ↔ x ∈ T.take k ∧ p x = true
section
variable {n k : Nat} {T E A B : List AK.Ed} {p : AK.Ed → Bool} {x : AK.Ed} {f g : AK.Ed → St}
theorem Pre.start (T : List AK.Ed) (p : AK.Ed → Bool) : Pre T p 0 [] := fun x => by simp
theorem take_mem (hx : T[k]? = some x) {y : AK.Ed} : y ∈ T.take (k + 1) ↔ y ∈ T.take k ∨ y = x := by
  have e : T.take (k + 1) = T.take k ++ [x] := by rw [List.take_add_one, hx]; rfl
  rw [e, List.mem_append, List.mem_singleton]
theorem Pre.stay (h : Pre T p k E) (hx : T[k]? = some x) (hp : p x = false) : Pre T p (k + 1) E := fun y => by
  rw [h, take_mem hx]
  constructor
  · rintro ⟨q1, q2⟩; exact ⟨.inl q1, q2⟩
  · rintro ⟨q1 | q1, q2⟩
    · exact ⟨q1, q2⟩
    · subst q1; rw [hp] at q2; cases q2
theorem Pre.add (h : Pre T p k E) (hx : T[k]? = some x) (hp : p x = true) : Pre T p (k + 1) (putE x E) := fun y => by
  rw [putE_mem, h, take_mem hx]
  constructor
  · rintro (q | ⟨q1, q2⟩)
    · exact ⟨.inr q, by rw [q]; exact hp⟩
    · exact ⟨.inl q1, q2⟩
  · rintro ⟨q1 | q1, q2⟩
    · exact .inr ⟨q1, q2⟩
    · exact .inl q1
theorem Pre.new (h : Pre T p k E) (hT : Fo n T) {u v : Nat} (hx : T[k]? = some ((u : Int), (v : Int))) : u < v ∧ v < n ∧ AK.ek (u : Int) v = ((u : Int), (v : Int)) ∧ ¬ Cn (adj E) u v := by
  have hm := List.mem_of_getElem? hx
  have ho := hT.ok _ hm
  simp only at ho
  have hek : AK.ek (u : Int) v = ((u : Int), (v : Int)) := by unfold AK.ek; rw [Int.min_eq_left (by omega), Int.max_eq_right (by omega)]
  refine ⟨by omega, by omega, hek, fun c => hT.fs u v (.inl hm) (c.mono fun a b e => ?_)⟩
  have hn : ((u : Int), (v : Int)) ∉ T.take k := fun q => by
    have h1 : (T.take (k + 1)).Nodup := (List.take_sublist _ T).nodup (rises_nodup hT.up)
    have e : T.take (k + 1) = T.take k ++ [((u : Int), (v : Int))] := by rw [List.take_add_one, hx]; rfl
    rw [e, List.nodup_append] at h1
    exact h1.2.2 _ q _ (by simp) rfl
  refine ⟨e.imp (fun q => List.mem_of_mem_take ((h _).1 q).1) fun q => List.mem_of_mem_take ((h _).1 q).1, ?_, ?_⟩
  · rintro ⟨rfl, rfl⟩
    rcases e with q | q
    · exact hn ((h _).1 q).1
    · have := hT.ok _ (List.mem_of_mem_take ((h _).1 q).1)
      simp only at this; omega
  · rintro ⟨rfl, rfl⟩
    rcases e with q | q
    · have := hT.ok _ (List.mem_of_mem_take ((h _).1 q).1)
      simp only at this; omega
    · exact hn ((h _).1 q).1
theorem Pre.lvl_end {j : Nat} (h : Pre (lvl f A 0) (fun x => decide (j ≤ (f x).lv)) (lvl f A 0).length E) (hA : A.Pairwise ltE) (hE : E.Pairwise ltE) : E = lvl f A j :=
  rises_ext hE (hA.sublist (List.filter_sublist)) fun y => by
    rw [h, List.take_length, lvl_mem, lvl_mem]
    simp only [decide_eq_true_eq]
    constructor
    · rintro ⟨⟨q1, q2, _⟩, q3⟩; exact ⟨q1, q2, q3⟩
    · rintro ⟨q1, q2, q3⟩; exact ⟨⟨q1, q2, Nat.zero_le _⟩, q3⟩
theorem Pre.all_end (h : Pre T (fun _ => true) T.length E) (hT : T.Pairwise ltE) (hE : E.Pairwise ltE) : E = T :=
  rises_ext hE hT fun y => by rw [h, List.take_length]; simp
theorem half_of (v : Nat) : n / 2 ^ v / 2 = n / 2 ^ (v + 1) := by rw [Nat.div_div_eq_div_mul, Nat.pow_succ]
/-- Levels that have not fallen, and begin with 0. -/
def Rose (A B : List AK.Ed) (f g : AK.Ed → St) : Prop := ∀ x ∈ B, (x ∈ A → (f x).lv ≤ (g x).lv) ∧ (x ∉ A → (g x).lv = 0)
theorem Rose.same (A : List AK.Ed) (f : AK.Ed → St) : Rose A A f f := fun x hx => ⟨fun _ => Nat.le_refl _, fun h => absurd hx h⟩
theorem Rose.add (s : Bool) (hx : x ∉ A) : Rose A (putE x A) f (updS f x ⟨0, s⟩) := fun y hy => by
  rcases putE_mem.1 hy with q | q
  · subst q; exact ⟨fun w => absurd w hx, fun _ => by rw [updS_same]⟩
  · have e : y ≠ x := fun e => hx (e ▸ q)
    exact ⟨fun _ => by rw [updS_ne e]; exact Nat.le_refl _, fun w => absurd q w⟩
theorem Rose.cut (h : ∀ y ∈ cutE x A, (f y).lv ≤ (g y).lv) : Rose A (cutE x A) f g := fun y hy => ⟨fun _ => h y hy, fun w => absurd (cutE_mem.1 hy).1 w⟩
/-- The trees of a level are no greater than they may be. -/
theorem size_le {t v : Nat} (h : GOk n t A f) {a : Nat} (ha : a < n) {m : Nat} (hm : sz n (adj (lvl f A v)) a = m) (h1 : 1 < m) : m ≤ n / 2 ^ v := by
  subst hm
  rcases h.sm v a ha with q | q
  · exact (Nat.le_div_iff_mul_le (Nat.two_pow_pos v)).2 q
  · exfalso
    have h0 : ∀ m, PD.cnt (fun _ => false) m = 0 := by
      intro m
      induction m with
      | zero => rfl
      | succ k ih => simp [PD.cnt, ih]
    have h2 : sz n (adj (lvl f A v)) a = PD.cnt (fun _ => false) n + 1 := cnt_one (m := a) (fun i hi => by
      simp only [decide_eq_true_eq, Bool.false_eq_true, false_or]
      exact ⟨fun c => q i hi c, fun e => e ▸ .refl _⟩) ha rfl
    rw [h0] at h2
    omega
end
end GT
end Go.Proofs.Ytlcnoihmhaaekaa
