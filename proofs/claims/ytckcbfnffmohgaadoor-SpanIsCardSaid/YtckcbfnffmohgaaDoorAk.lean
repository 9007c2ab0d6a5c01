/-
  What is asked, in plain Lean: events, what is wrong of them, lives of edges, answers by unions. No program in sight.
-/
import Derived.Test.YtckcbfnffmohgaaDoorUf
namespace Go.Proofs.YtckcbfnffmohgaaDoor
set_option linter.unusedVariables false
namespace AK
structure Ev where
  w : Int
  a : Int
  b : Int
instance : Inhabited Ev := ⟨⟨0, 0, 0⟩⟩
abbrev Ed := Int × Int
def ek (a b : Int) : Ed := (min a b, max a b)
def Ev.ed (e : Ev) : Ed := ek e.a e.b
def flip (t : Ed → Bool) (x : Ed) : Ed → Bool := fun y => if y = x then !t x else t y
def bad (n : Int) (t : Ed → Bool) (e : Ev) : Option Int :=
  if e.w < 1 ∨ 3 < e.w ∨ e.a < 0 ∨ n ≤ e.a ∨ e.b < 0 ∨ n ≤ e.b then some 1
  else if e.w = 3 then none
  else if e.a = e.b then some 2
  else if e.w = 1 ∧ t e.ed = true then some 6
  else if e.w = 2 ∧ t e.ed = false then some 4
  else none
def nxt (t : Ed → Bool) (e : Ev) : Ed → Bool := if e.w = 3 then t else flip t e.ed
def there (l : List Ev) : Ed → Bool := l.foldl nxt (fun _ => false)
theorem there_snoc (l : List Ev) (e : Ev) : there (l ++ [e]) = nxt (there l) e := by simp [there, List.foldl_append]
theorem bad_range {n : Int} {t : Ed → Bool} {w a b : Int} (h : w < 1 ∨ 3 < w ∨ a < 0 ∨ n ≤ a ∨ b < 0 ∨ n ≤ b) : bad n t ⟨w, a, b⟩ = some 1 := by
  unfold bad; rw [if_pos h]
section
variable {n : Int} {t : Ed → Bool} {w a b : Int}
theorem bad_ask (h1 : 1 ≤ w) (h2 : w ≤ 3) (h3 : 0 ≤ a) (h4 : a < n) (h5 : 0 ≤ b) (h6 : b < n) (hw : w = 3) : bad n t ⟨w, a, b⟩ = none := by
  have : ¬ (w < 1 ∨ 3 < w ∨ a < 0 ∨ n ≤ a ∨ b < 0 ∨ n ≤ b) := by omega
  unfold bad; rw [if_neg this, if_pos hw]
theorem bad_shape (h1 : 1 ≤ w) (h2 : w ≤ 3) (h3 : 0 ≤ a) (h4 : a < n) (h5 : 0 ≤ b) (h6 : b < n) (hw : w ≠ 3) (hab : a = b) : bad n t ⟨w, a, b⟩ = some 2 := by
  have : ¬ (w < 1 ∨ 3 < w ∨ a < 0 ∨ n ≤ a ∨ b < 0 ∨ n ≤ b) := by omega
  unfold bad; rw [if_neg this, if_neg hw, if_pos hab]
theorem bad_clash (h1 : 1 ≤ w) (h2 : w ≤ 3) (h3 : 0 ≤ a) (h4 : a < n) (h5 : 0 ≤ b) (h6 : b < n) (hw : w = 1) (hab : a ≠ b) (ht : t (ek a b) = true) : bad n t ⟨w, a, b⟩ = some 6 := by
  have : ¬ (w < 1 ∨ 3 < w ∨ a < 0 ∨ n ≤ a ∨ b < 0 ∨ n ≤ b) := by omega
  have h7 : w ≠ 3 := by omega
  unfold bad; rw [if_neg this, if_neg h7, if_neg hab, if_pos ⟨hw, ht⟩]
theorem bad_none (h1 : 1 ≤ w) (h2 : w ≤ 3) (h3 : 0 ≤ a) (h4 : a < n) (h5 : 0 ≤ b) (h6 : b < n) (hw : w = 2) (hab : a ≠ b) (ht : t (ek a b) = false) : bad n t ⟨w, a, b⟩ = some 4 := by
  have : ¬ (w < 1 ∨ 3 < w ∨ a < 0 ∨ n ≤ a ∨ b < 0 ∨ n ≤ b) := by omega
  have h7 : w ≠ 3 := by omega
  have h8 : ¬ (w = 1 ∧ t (Ev.ed ⟨w, a, b⟩) = true) := by rintro ⟨h, _⟩; omega
  unfold bad; rw [if_neg this, if_neg h7, if_neg hab, if_neg h8, if_pos ⟨hw, ht⟩]
theorem bad_add (h1 : 1 ≤ w) (h2 : w ≤ 3) (h3 : 0 ≤ a) (h4 : a < n) (h5 : 0 ≤ b) (h6 : b < n) (hw : w = 1) (hab : a ≠ b) (ht : t (ek a b) = false) : bad n t ⟨w, a, b⟩ = none := by
  have : ¬ (w < 1 ∨ 3 < w ∨ a < 0 ∨ n ≤ a ∨ b < 0 ∨ n ≤ b) := by omega
  have h7 : w ≠ 3 := by omega
  have h8 : ¬ (w = 1 ∧ t (Ev.ed ⟨w, a, b⟩) = true) := by rintro ⟨_, h⟩; rw [Ev.ed, ht] at h; cases h
  have h9 : ¬ (w = 2 ∧ t (Ev.ed ⟨w, a, b⟩) = false) := by rintro ⟨h, _⟩; omega
  unfold bad; rw [if_neg this, if_neg h7, if_neg hab, if_neg h8, if_neg h9]
theorem bad_drop (h1 : 1 ≤ w) (h2 : w ≤ 3) (h3 : 0 ≤ a) (h4 : a < n) (h5 : 0 ≤ b) (h6 : b < n) (hw : w = 2) (hab : a ≠ b) (ht : t (ek a b) = true) : bad n t ⟨w, a, b⟩ = none := by
  have : ¬ (w < 1 ∨ 3 < w ∨ a < 0 ∨ n ≤ a ∨ b < 0 ∨ n ≤ b) := by omega
  have h7 : w ≠ 3 := by omega
  have h8 : ¬ (w = 1 ∧ t (Ev.ed ⟨w, a, b⟩) = true) := by rintro ⟨h, _⟩; omega
  have h9 : ¬ (w = 2 ∧ t (Ev.ed ⟨w, a, b⟩) = false) := by rintro ⟨_, h⟩; rw [Ev.ed, ht] at h; cases h
  unfold bad; rw [if_neg this, if_neg h7, if_neg hab, if_neg h8, if_neg h9]
end
/-- The first that is wrong, from a place on. -/
def chkFrom (n : Int) : (Ed → Bool) → Nat → List Ev → Int × Option Int
  | _, _, [] => (0, none)
  | t, i, e :: r => match bad n t e with
    | some x => ((i : Int), some x)
    | none => chkFrom n (nxt t e) (i + 1) r
def chk (n : Int) (l : List Ev) : Int × Option Int :=
  if n < 1 ∨ 60 < n then (0, some 1) else if 120 < l.length then (0, some 3) else chkFrom n (fun _ => false) 0 l
theorem take_next {α : Type} {l : List α} {k : Nat} {e : α} (h : l[k]? = some e) : l.take (k + 1) = l.take k ++ [e] := by
  obtain ⟨hk, rfl⟩ := List.getElem?_eq_some_iff.1 h
  rw [List.take_succ_eq_append_getElem hk]
theorem there_flip {l : List Ev} {k : Nat} {e : Ev} (h : l[k]? = some e) (hw : e.w ≠ 3) : there (l.take (k + 1)) = flip (there (l.take k)) e.ed := by
  rw [take_next h, there_snoc, nxt, if_neg hw]
theorem drop_next {α : Type} {l : List α} {k : Nat} {e : α} (h : l[k]? = some e) : l.drop k = e :: l.drop (k + 1) := by
  obtain ⟨hk, rfl⟩ := List.getElem?_eq_some_iff.1 h
  rw [List.drop_eq_getElem_cons hk]
/-- What is told so far, while nothing is wrong. -/
def At (n : Int) (l : List Ev) (k : Nat) : Prop := chk n l = chkFrom n (there (l.take k)) k (l.drop k)
theorem At.start {n : Int} {l : List Ev} (h1 : 1 ≤ n) (h2 : n ≤ 60) (h3 : l.length ≤ 120) : At n l 0 := by
  unfold At chk; rw [if_neg (by omega), if_neg (by omega)]; rfl
theorem At.stop {n : Int} {l : List Ev} {k : Nat} {e : Ev} {x : Int} (h : At n l k) (he : l[k]? = some e) (hb : bad n (there (l.take k)) e = some x) : chk n l = ((k : Int), some x) := by
  rw [h, drop_next he, chkFrom, hb]
theorem At.next {n : Int} {l : List Ev} {k : Nat} {e : Ev} (h : At n l k) (he : l[k]? = some e) (hb : bad n (there (l.take k)) e = none) : At n l (k + 1) := by
  unfold At at *; rw [h, drop_next he, chkFrom, hb, take_next he, there_snoc]
theorem At.end_ {n : Int} {l : List Ev} {k : Nat} (h : At n l k) (hk : l.length ≤ k) : chk n l = (0, none) := by
  unfold At at h; rw [h, List.drop_eq_nil_of_le hk]; rfl
theorem chkFrom_none {n : Int} : ∀ {l : List Ev} {t : Ed → Bool} {i : Nat}, (chkFrom n t i l).2 = none ↔ ∀ k e, l[k]? = some e → bad n ((l.take k).foldl nxt t) e = none
  | [], t, i => by simp [chkFrom]
  | e :: r, t, i => by
    rw [chkFrom]
    cases hb : bad n t e with
    | some x =>
      simp only [reduceCtorEq, false_iff]
      intro h
      have := h 0 e rfl
      rw [List.take_zero, List.foldl_nil, hb] at this
      cases this
    | none =>
      simp only
      rw [chkFrom_none]
      constructor
      · intro h k f hf
        cases k with
        | zero => simp at hf; subst hf; simpa using hb
        | succ k => simpa using h k f (by simpa using hf)
      · intro h k f hf
        simpa using h (k + 1) f (by simpa using hf)
/-- Nothing is wrong. -/
def Good (n : Int) (l : List Ev) : Prop := 1 ≤ n ∧ n ≤ 60 ∧ l.length ≤ 120 ∧ ∀ k e, l[k]? = some e → bad n (there (l.take k)) e = none
theorem good_iff {n : Int} {l : List Ev} : (chk n l).2 = none ↔ Good n l := by
  unfold chk Good
  by_cases h1 : n < 1 ∨ 60 < n
  · rw [if_pos h1]; simp; omega
  by_cases h2 : 120 < l.length
  · rw [if_neg h1, if_pos h2]; simp; omega
  · rw [if_neg h1, if_neg h2, chkFrom_none]
    exact ⟨fun h => ⟨by omega, by omega, by omega, h⟩, fun h => h.2.2.2⟩
theorem Good.fst {n : Int} {l : List Ev} (h : Good n l) : chk n l = (0, none) := by
  have h2 := good_iff.2 h
  have : ∀ (l : List Ev) (t : Ed → Bool) (i : Nat), (chkFrom n t i l).2 = none → (chkFrom n t i l).1 = 0 := by
    intro l
    induction l with
    | nil => intros; rfl
    | cons e r ih =>
      intro t i h
      rw [chkFrom] at h ⊢
      cases hb : bad n t e with
      | some x => rw [hb] at h; cases h
      | none => rw [hb] at h; exact ih _ _ h
  refine Prod.ext ?_ h2
  unfold chk at h2 ⊢
  split at h2
  · cases h2
  split at h2
  · cases h2
  · rw [if_neg (by assumption), if_neg (by assumption)]; exact this _ _ _ h2
theorem Good.take {n : Int} {l : List Ev} (h : Good n l) (k : Nat) : Good n (l.take k) := by
  refine ⟨h.1, h.2.1, by have := h.2.2.1; simp; omega, fun j e he => ?_⟩
  rw [List.getElem?_take] at he
  split at he
  · have := h.2.2.2 j e he
    rwa [List.take_take, Nat.min_eq_left (by omega)]
  · cases he

/-! ### Lives -/
structure Lf where
  ed : Ed
  fr : Nat
  til : Nat
instance : Inhabited Lf := ⟨⟨(0, 0), 0, 0⟩⟩
def upd (o : Ed → Nat) (x : Ed) (v : Nat) : Ed → Nat := fun y => if y = x then v else o y
structure LS where
  o : Ed → Nat
  out : List Lf
def lstep (L i : Nat) (s : LS) (e : Ev) : LS :=
  if e.w = 1 then ⟨upd s.o e.ed s.out.length, s.out ++ [⟨e.ed, i, L⟩]⟩
  else if e.w = 2 then ⟨s.o, s.out.modify (s.o e.ed) fun x => { x with til := i }⟩
  else s
def livesTo (l : List Ev) : Nat → LS
  | 0 => ⟨fun _ => 0, []⟩
  | k + 1 => lstep l.length k (livesTo l k) (l.getD k default)
def lives (l : List Ev) : List Lf := (livesTo l l.length).out
/-- What holds of the lives found so far. -/
structure LOk (l : List Ev) (k : Nat) (s : LS) : Prop where
  cnt : s.out.length ≤ k
  each : ∀ (j : Nat) (x : Lf), s.out[j]? = some x → x.fr < k ∧ x.fr < x.til ∧ (x.til = l.length ∨ x.til < k) ∧ ∃ e : Ev, l[x.fr]? = some e ∧ e.w = 1 ∧ x.ed = e.ed
  opn : ∀ x : Ed, there (l.take k) x = true → ∃ y : Lf, s.out[s.o x]? = some y ∧ y.ed = x ∧ y.til = l.length
  only : ∀ (j : Nat) (y : Lf), s.out[j]? = some y → y.til = l.length → there (l.take k) y.ed = true ∧ s.o y.ed = j
  was : ∀ (t : Nat) (x : Ed), t ≤ k → (there (l.take t) x = true ↔ ∃ y ∈ s.out, y.ed = x ∧ y.fr < t ∧ t ≤ y.til)
theorem LOk.zero (l : List Ev) : LOk l 0 (livesTo l 0) :=
  ⟨by simp [livesTo], by simp [livesTo], by simp [there], by simp [livesTo], by intro t x ht; obtain rfl : t = 0 := Nat.le_zero.1 ht; simp [there, livesTo]⟩
theorem LOk.ask {l : List Ev} {k : Nat} {s : LS} {e : Ev} (h : LOk l k s) (he : l[k]? = some e) (hw : e.w = 3) : LOk l (k + 1) (lstep l.length k s e) := by
  have hs : lstep l.length k s e = s := by unfold lstep; rw [if_neg (by omega), if_neg (by omega)]
  have ht : there (l.take (k + 1)) = there (l.take k) := by rw [take_next he, there_snoc, nxt, if_pos hw]
  have hk : k < l.length := (List.getElem?_eq_some_iff.1 he).1
  rw [hs]
  refine ⟨by have := h.cnt; omega, fun j x hx => ?_, by rw [ht]; exact h.opn, by rw [ht]; exact h.only, fun t x hle => ?_⟩
  · obtain ⟨h1, h2, h3, h4⟩ := h.each j x hx
    exact ⟨by omega, h2, by omega, h4⟩
  · by_cases c : t = k + 1
    · subst c
      rw [ht, h.was k x (Nat.le_refl _)]
      constructor
      · rintro ⟨y, hy, h1, h2, h3⟩
        refine ⟨y, hy, h1, by omega, ?_⟩
        obtain ⟨j, hj⟩ := List.mem_iff_getElem?.1 hy
        obtain ⟨_, _, h5, _⟩ := h.each j y hj
        omega
      · rintro ⟨y, hy, h1, h2, h3⟩
        obtain ⟨j, hj⟩ := List.mem_iff_getElem?.1 hy
        obtain ⟨h5, _, _, _⟩ := h.each j y hj
        exact ⟨y, hy, h1, h5, by omega⟩
    · exact h.was t x (by omega)
theorem LOk.add {l : List Ev} {k : Nat} {s : LS} {e : Ev} (h : LOk l k s) (he : l[k]? = some e) (hw : e.w = 1) (hn : there (l.take k) e.ed = false) : LOk l (k + 1) (lstep l.length k s e) := by
  have hk : k < l.length := (List.getElem?_eq_some_iff.1 he).1
  have hs : lstep l.length k s e = ⟨upd s.o e.ed s.out.length, s.out ++ [⟨e.ed, k, l.length⟩]⟩ := by unfold lstep; rw [if_pos hw]
  have ht : ∀ y, there (l.take (k + 1)) y = if y = e.ed then true else there (l.take k) y := by
    intro y; rw [take_next he, there_snoc, nxt, if_neg (by omega), flip, hn]; rfl
  have hget : ∀ j x, (s.out ++ [(⟨e.ed, k, l.length⟩ : Lf)])[j]? = some x → s.out[j]? = some x ∨ (j = s.out.length ∧ x = ⟨e.ed, k, l.length⟩) := by
    intro j x hx
    rw [List.getElem?_append] at hx
    split at hx
    · exact .inl hx
    · right
      have := (List.getElem?_eq_some_iff.1 hx).1
      simp at this
      have hj : j = s.out.length := by omega
      subst hj
      simp at hx
      exact ⟨rfl, hx.symm⟩
  rw [hs]
  refine ⟨by have := h.cnt; simp; omega, fun j x hx => ?_, fun x hx => ?_, fun j y hy hyt => ?_, fun t x hle => ?_⟩
  · rcases hget j x hx with hx | ⟨rfl, rfl⟩
    · obtain ⟨h1, h2, h3, h4⟩ := h.each j x hx
      exact ⟨by omega, h2, by omega, h4⟩
    · exact ⟨by simp, hk, .inl rfl, e, he, hw, rfl⟩
  · rw [ht] at hx
    by_cases c : x = e.ed
    · subst c; refine ⟨⟨e.ed, k, l.length⟩, ?_, rfl, rfl⟩
      simp [upd]
    · rw [if_neg c] at hx
      obtain ⟨y, h1, h2, h3⟩ := h.opn x hx
      refine ⟨y, ?_, h2, h3⟩
      simp only [upd, if_neg c]
      have := (List.getElem?_eq_some_iff.1 h1).1
      rw [List.getElem?_append_left this]; exact h1
  · rcases hget j y hy with hy | ⟨rfl, rfl⟩
    · obtain ⟨h1, h2⟩ := h.only j y hy hyt
      have c : y.ed ≠ e.ed := by intro c; rw [c, hn] at h1; cases h1
      rw [ht, if_neg c]
      exact ⟨h1, by simp only [upd, if_neg c]; exact h2⟩
    · rw [ht]; simp [upd]
  · by_cases c : t = k + 1
    · subst c
      rw [ht]
      constructor
      · intro hx
        by_cases c : x = e.ed
        · subst c; exact ⟨⟨e.ed, k, l.length⟩, by simp, rfl, by simp, hk⟩
        · rw [if_neg c] at hx
          obtain ⟨y, hy, h1, h2⟩ := h.opn x hx
          obtain ⟨h5, _⟩ := h.each _ y hy
          exact ⟨y, List.mem_append_left _ (List.mem_of_getElem? hy), h1, by omega, by omega⟩
      · rintro ⟨y, hy, h1, h2, h3⟩
        obtain ⟨j, hj⟩ := List.mem_iff_getElem?.1 hy
        rcases hget j y hj with hj | ⟨rfl, rfl⟩
        · obtain ⟨h5, h6, h7, _⟩ := h.each j y hj
          have hto : y.til = l.length := by omega
          obtain ⟨h8, _⟩ := h.only j y hj hto
          rw [h1] at h8
          split <;> first | rfl | exact h8
        · rw [if_pos h1.symm]
    · rw [h.was t x (by omega)]
      constructor
      · rintro ⟨y, hy, r⟩
        exact ⟨y, List.mem_append_left _ hy, r⟩
      · rintro ⟨y, hy, h1, h2, h3⟩
        rw [List.mem_append] at hy
        rcases hy with hy | hy
        · exact ⟨y, hy, h1, h2, h3⟩
        · simp at hy; subst hy; simp at h2; omega
theorem LOk.drop {l : List Ev} {k : Nat} {s : LS} {e : Ev} (h : LOk l k s) (he : l[k]? = some e) (hw : e.w = 2) (hn : there (l.take k) e.ed = true) : LOk l (k + 1) (lstep l.length k s e) := by
  have hk : k < l.length := (List.getElem?_eq_some_iff.1 he).1
  have hs : lstep l.length k s e = ⟨s.o, s.out.modify (s.o e.ed) fun x => { x with til := k }⟩ := by unfold lstep; rw [if_neg (by omega), if_pos hw]
  have ht : ∀ y, there (l.take (k + 1)) y = if y = e.ed then false else there (l.take k) y := by
    intro y; rw [take_next he, there_snoc, nxt, if_neg (by omega), flip, hn]; rfl
  obtain ⟨z, hz, hz1, hz2⟩ := h.opn _ hn
  have hget : ∀ j x, (s.out.modify (s.o e.ed) fun x => { x with til := k })[j]? = some x → (j ≠ s.o e.ed ∧ s.out[j]? = some x) ∨ (j = s.o e.ed ∧ x = { z with til := k }) := by
    intro j x hx
    rw [List.getElem?_modify] at hx
    by_cases c : s.o e.ed = j
    · subst c; rw [hz] at hx; simp at hx; exact .inr ⟨rfl, hx.symm⟩
    · simp only [c, if_false] at hx; refine .inl ⟨fun e => c e.symm, ?_⟩; simpa using hx
  have hput : ∀ j x, s.out[j]? = some x → (s.out.modify (s.o e.ed) fun x => { x with til := k })[j]? = some (if j = s.o e.ed then { z with til := k } else x) := by
    intro j x hx
    rw [List.getElem?_modify]
    by_cases c : s.o e.ed = j
    · subst c; rw [if_pos rfl, hz]; simp
    · rw [if_neg (fun e => c e.symm), hx]; simp [c]
  rw [hs]
  obtain ⟨z1, z2, z3, z4⟩ := h.each _ z hz
  refine ⟨by have := h.cnt; simp; omega, fun j x hx => ?_, fun x hx => ?_, fun j y hy hyt => ?_, fun t x hle => ?_⟩
  · rcases hget j x hx with ⟨_, hx⟩ | ⟨rfl, rfl⟩
    · obtain ⟨h1, h2, h3, h4⟩ := h.each j x hx
      exact ⟨by omega, h2, by omega, h4⟩
    · exact ⟨by simp; omega, by simp; omega, .inr (by simp), z4⟩
  · rw [ht] at hx
    by_cases c : x = e.ed
    · rw [if_pos c] at hx; cases hx
    · rw [if_neg c] at hx
      obtain ⟨y, h1, h2, h3⟩ := h.opn x hx
      have hne : s.o x ≠ s.o e.ed := by
        intro q
        rw [q, hz] at h1
        injection h1 with h1; subst h1; exact c (h2.symm.trans hz1)
      refine ⟨y, ?_, h2, h3⟩
      have := hput _ _ h1
      rw [if_neg hne] at this; exact this
  · rcases hget j y hy with ⟨hne, hy⟩ | ⟨rfl, rfl⟩
    · obtain ⟨h1, h2⟩ := h.only j y hy hyt
      have c : y.ed ≠ e.ed := by
        intro c; rw [c] at h2; exact hne h2.symm
      rw [ht, if_neg c]
      exact ⟨h1, h2⟩
    · simp at hyt; omega
  · by_cases c : t = k + 1
    · subst c
      rw [ht]
      constructor
      · intro hx
        by_cases c : x = e.ed
        · rw [if_pos c] at hx; cases hx
        · rw [if_neg c] at hx
          obtain ⟨y, hy, h1, h2⟩ := h.opn x hx
          obtain ⟨h5, _⟩ := h.each _ y hy
          have hne : s.o x ≠ s.o e.ed := by
            intro q
            rw [q, hz] at hy
            injection hy with hy; subst hy; exact c (h1.symm.trans hz1)
          have := hput _ _ hy
          rw [if_neg hne] at this
          exact ⟨y, List.mem_of_getElem? this, h1, by omega, by omega⟩
      · rintro ⟨y, hy, h1, h2, h3⟩
        obtain ⟨j, hj⟩ := List.mem_iff_getElem?.1 hy
        rcases hget j y hj with ⟨hne, hj⟩ | ⟨rfl, rfl⟩
        · obtain ⟨h5, h6, h7, _⟩ := h.each j y hj
          have hto : y.til = l.length := by omega
          obtain ⟨h8, h9⟩ := h.only j y hj hto
          rw [h1] at h8 h9
          by_cases c : x = e.ed
          · subst c; exact absurd h9.symm hne
          · rw [if_neg c]; exact h8
        · simp at h3; omega
    · rw [h.was t x (by omega)]
      constructor
      · rintro ⟨y, hy, h1, h2, h3⟩
        obtain ⟨j, hj⟩ := List.mem_iff_getElem?.1 hy
        have := hput _ _ hj
        refine ⟨_, List.mem_of_getElem? this, ?_⟩
        by_cases c : j = s.o e.ed
        · rw [if_pos c]
          rw [c, hz] at hj
          injection hj with hj; subst hj
          exact ⟨h1, h2, by show t ≤ k; omega⟩
        · rw [if_neg c]; exact ⟨h1, h2, h3⟩
      · rintro ⟨y, hy, h1, h2, h3⟩
        obtain ⟨j, hj⟩ := List.mem_iff_getElem?.1 hy
        rcases hget j y hj with ⟨_, hj⟩ | ⟨rfl, rfl⟩
        · exact ⟨y, List.mem_of_getElem? hj, h1, h2, h3⟩
        · exact ⟨z, List.mem_of_getElem? hz, h1, h2, by show t ≤ z.til; omega⟩
theorem lives_to {n : Int} {l : List Ev} (h : Good n l) : ∀ k, k ≤ l.length → LOk l k (livesTo l k)
  | 0, _ => LOk.zero l
  | k + 1, hk => by
    have ih := lives_to h k (by omega)
    have he : l[k]? = some (l.getD k default) := by rw [List.getD_eq_getElem?_getD, List.getElem?_eq_getElem (by omega)]; rfl
    have hb := h.2.2.2 k _ he
    rw [livesTo]
    generalize l.getD k default = e at he hb ⊢
    unfold bad at hb
    split at hb
    · cases hb
    split at hb
    · exact ih.ask he (by assumption)
    split at hb
    · cases hb
    split at hb
    · cases hb
    split at hb
    · cases hb
    · rename_i h1 h2 _ h4 h5
      have : e.w = 1 ∨ e.w = 2 := by omega
      rcases this with hw | hw
      · exact ih.add he hw (by cases hq : there (l.take k) e.ed with | false => rfl | true => exact absurd ⟨hw, hq⟩ h4)
      · exact ih.drop he hw (by cases hq : there (l.take k) e.ed with | true => rfl | false => exact absurd ⟨hw, hq⟩ h5)
theorem lives_ok {n : Int} {l : List Ev} (h : Good n l) : LOk l l.length (livesTo l l.length) := lives_to h _ (Nat.le_refl _)
end AK
end Go.Proofs.YtckcbfnffmohgaaDoor
