/-
  A disk of pages, in plain Lean: what is kept, what is read, what was written since; rows of many-celled elements as flat lists. No program in sight.
-/
import Derived.Test.YtckcbfnffmohgaaDoorMem
import Derived.Deep.MidRow
import Derived.Laws.CopyOwn
namespace Go.Proofs.YtckcbfnffmohgaaDoor
open Go Go.RowKit

/-! ### Rows of elements of S cells -/
section
variable {α : Type} {f : α → List Value} {S : Nat}
def rowsOf (f : α → List Value) (l : List α) : List Value := l.flatMap f
theorem rowsOf_nil : rowsOf f [] = [] := rfl
theorem rowsOf_cons (a : α) (l : List α) : rowsOf f (a :: l) = f a ++ rowsOf f l := by simp [rowsOf]
theorem rowsOf_app (l m : List α) : rowsOf f (l ++ m) = rowsOf f l ++ rowsOf f m := by simp [rowsOf]
theorem rowsOf_one (a : α) : rowsOf f [a] = f a := by simp [rowsOf]
theorem rowsOf_len {l : List α} (hS : ∀ a, a ∈ l → (f a).length = S) : (rowsOf f l).length = l.length * S := by
  induction l with
  | nil => simp [rowsOf]
  | cons a l ih =>
    rw [rowsOf_cons, List.length_append, hS a (by simp), ih (fun b hb => hS b (by simp [hb]))]
    simp [Nat.succ_mul]; omega
theorem rowsOf_get : ∀ {l : List α} (_ : ∀ a, a ∈ l → (f a).length = S) {i : Nat} {a : α}, l[i]? = some a → ∀ {j : Nat} {v : Value}, (f a)[j]? = some v → (rowsOf f l)[i * S + j]? = some v
  | [], _, i, a, h, _, _, _ => by simp at h
  | b :: l, hS, 0, a, h, j, v, hv => by
    simp at h; subst h
    have : j < (f b).length := (List.getElem?_eq_some_iff.1 hv).1
    rw [rowsOf_cons, Nat.zero_mul, Nat.zero_add, List.getElem?_append_left this, hv]
  | b :: l, hS, i + 1, a, h, j, v, hv => by
    simp at h
    have h0 := hS b (by simp)
    rw [rowsOf_cons, List.getElem?_append_right (by rw [h0, Nat.succ_mul]; omega), h0, show (i + 1) * S + j - S = i * S + j by rw [Nat.succ_mul]; omega]
    exact rowsOf_get (fun c hc => hS c (by simp [hc])) h hv
theorem rowsOf_set : ∀ {l : List α} (_ : ∀ a, a ∈ l → (f a).length = S) {i : Nat} (_ : i < l.length) {x : α} (_ : (f x).length = S), splice (rowsOf f l) (i * S) (f x) = rowsOf f (l.set i x)
  | [], _, i, h, _, _ => by simp at h
  | b :: l, hS, 0, _, x, hx => by
    have h0 := hS b (by simp)
    simp [splice, rowsOf_cons, h0, hx]
  | b :: l, hS, i + 1, h, x, hx => by
    have h0 := hS b (by simp)
    have ih := rowsOf_set (fun c hc => hS c (by simp [hc])) (i := i) (by simpa using h) hx (l := l)
    rw [List.set_cons_succ, rowsOf_cons, rowsOf_cons, ← ih]
    unfold splice
    have e : (i + 1) * S = S + i * S := by rw [Nat.succ_mul]; omega
    rw [hx] at *
    rw [List.take_append, List.drop_append, h0, e, List.take_of_length_le (by omega), List.drop_eq_nil_of_le (by omega),
      show S + i * S - S = i * S by omega, show S + i * S + S - S = i * S + S by omega]
    simp
end

theorem splice_get {α : Type} {L cs : List α} {o j : Nat} (h : o + cs.length ≤ L.length) : (splice L o cs)[j]? = if o ≤ j ∧ j < o + cs.length then cs[j - o]? else L[j]? := by
  unfold splice
  by_cases h1 : j < o
  · rw [List.getElem?_append_left (by simp; omega), List.getElem?_take, if_pos h1, if_neg (by omega)]
  · rw [List.getElem?_append_right (by simp; omega)]
    simp only [List.length_take]
    rw [show min o L.length = o by omega]
    by_cases h2 : j < o + cs.length
    · rw [List.getElem?_append_left (by omega), if_pos ⟨by omega, h2⟩]
    · rw [List.getElem?_append_right (by omega), List.getElem?_drop, if_neg (by omega)]
      congr 1; omega

/-! ### Many cells stored into a row of one's own -/
section
variable {w : World} {base : Nat} {e : TypeId} {size g n cap : Nat} {xs : List Value}
theorem own_setCells : ∀ (vs : List Value) (o : Nat) (w : World) (xs : List Value), w.ownsRow base e size (.slice (some ⟨g, 0, none⟩) n cap) n xs → o + vs.length ≤ xs.length →
    (w.setCells g o vs).ownsRow base e size (.slice (some ⟨g, 0, none⟩) n cap) n (splice xs o vs)
  | [], o, w, xs, h, _ => by simpa [World.setCells, splice] using h
  | v :: r, o, w, xs, h, hf => by
    have h1 := (h.stored o v).1
    have := own_setCells r (o + 1) _ _ h1 (by simp at hf ⊢; omega)
    rw [World.setCells]
    simp at hf
    have e : splice (xs.set o v) (o + 1) r = splice xs o (v :: r) := by
      apply List.ext_getElem?
      intro j
      rw [splice_get (by simp; omega), splice_get (by simp; omega)]
      simp only [List.length_cons]
      by_cases a1 : j = o
      · subst a1; rw [if_neg (by omega), if_pos (by omega)]; simp [show j < xs.length by omega]
      · by_cases a2 : o + 1 ≤ j ∧ j < o + 1 + r.length
        · rw [if_pos a2, if_pos (by omega), show j - o = (j - (o + 1)) + 1 by omega]; simp
        · rw [if_neg a2, if_neg (by omega), List.getElem?_set_ne (by omega)]
    rwa [e] at this
theorem chg_setCells {S : Nat → Prop} {a : World} : ∀ (vs : List Value) (o : Nat) (w : World), Chg S a w → (g < a.heap.size → S g) → Chg S a (w.setCells g o vs)
  | [], _, _, h, _ => h
  | v :: r, o, _, h, hg => chg_setCells r (o + 1) _ (h.setCell (p := ⟨g, o, none⟩) hg v) hg
theorem size_setCells : ∀ (vs : List Value) (o : Nat) (w : World), (w.setCells g o vs).heap.size = w.heap.size
  | [], _, _ => rfl
  | v :: r, o, _ => by rw [World.setCells, size_setCells r]; simp
theorem own_range (h : w.ownsRow base e size (.slice (some ⟨g, 0, none⟩) n cap) n xs) {o : Nat} {cs : List Value} (hc : ∀ j v, cs[j]? = some v → xs[o + j]? = some v) : w.rangeAt g o cs := by
  intro j v hv
  have h1 := hc j v hv
  have h2 := (List.getElem?_eq_some_iff.1 h1).1
  rw [h.1] at h2
  rw [h.cellAt _ h2, h1]
theorem own_there (h : w.ownsRow base e size (.slice (some ⟨g, 0, none⟩) n cap) n xs) {o k : Nat} (hk : o + k ≤ n * size) : w.there g o k := by
  intro j hj
  refine ⟨?_, h.frozenAt _⟩
  rw [h.cellAt _ (by omega), List.getElem?_eq_getElem (by rw [h.1]; omega)]; rfl
end

/-! ### The disk -/
namespace DK
abbrev Pg := List Int
structure D where
  kept : List Pg
  now : List Pg
  ws : List (Nat × Pg)
  left : Int
  down : Bool
def pgv (p : Pg) : List Value := p.map (Value.int .u8)
def wrv (x : Nat × Pg) : List Value := .int .i64 (x.1 : Nat) :: pgv x.2
def pagesV (ps : List Pg) : List Value := rowsOf pgv ps
def writesV (ws : List (Nat × Pg)) : List Value := rowsOf wrv ws
def zero : Pg := List.replicate 32 0
/-- A page made of bytes. -/
def put (b : List Int) : Pg := splice zero 0 b
def new (n : Nat) : D := ⟨List.replicate n zero, List.replicate n zero, [], -1, false⟩
def stopped (d : D) : Bool := d.down || decide (d.left = 0)
def step (d : D) : D := if stopped d then { d with down := true } else { d with left := max (d.left - 1) (-1) }
def write (d : D) (i : Nat) (b : List Int) : D := { d with now := d.now.set i (put b), ws := d.ws ++ [(i, put b)] }
def sync (d : D) : D := { d with kept := d.now, ws := [] }
/-- Those of the writes whose number is to be kept. -/
def lay (keep : List Int) : Nat → List (Nat × Pg) → List Pg → List Pg
  | _, [], ps => ps
  | i, x :: ws, ps => lay keep (i + 1) ws (if decide ((i : Int) ∈ keep) = true then ps.set x.1 x.2 else ps)
def crash (d : D) (keep : List Int) : D := ⟨lay keep 0 d.ws d.kept, lay keep 0 d.ws d.kept, [], -1, false⟩
structure Ok (n : Nat) (d : D) : Prop where
  lk : d.kept.length = n
  ln : d.now.length = n
  kp : ∀ p ∈ d.kept, p.length = 32
  np : ∀ p ∈ d.now, p.length = 32
  wp : ∀ x ∈ d.ws, x.2.length = 32 ∧ x.1 < n
  left : -1 ≤ d.left ∧ d.left ≤ 9223372036854775807
theorem pgv_len {p : Pg} (h : p.length = 32) : (pgv p).length = 32 := by simp [pgv, h]
theorem wrv_len {x : Nat × Pg} (h : x.2.length = 32) : (wrv x).length = 33 := by simp [wrv, pgv_len h]
theorem put_len {b : List Int} (h : b.length ≤ 32) : (put b).length = 32 := by
  unfold put; rw [length_splice _ _ _ (by simpa [zero] using h)]; simp [zero]
theorem Ok.pl {n : Nat} {d : D} (h : Ok n d) : ∀ p ∈ d.now, (pgv p).length = 32 := fun p hp => pgv_len (h.np p hp)
theorem Ok.kl {n : Nat} {d : D} (h : Ok n d) : ∀ p ∈ d.kept, (pgv p).length = 32 := fun p hp => pgv_len (h.kp p hp)
theorem Ok.wl {n : Nat} {d : D} (h : Ok n d) : ∀ x ∈ d.ws, (wrv x).length = 33 := fun x hx => wrv_len (h.wp x hx).1
theorem Ok.new (n : Nat) : Ok n (new n) := ⟨by simp [DK.new], by simp [DK.new], by simp [DK.new]; intros; subst_vars; simp [zero], by simp [DK.new]; intros; subst_vars; simp [zero], by simp [DK.new], by simp [DK.new]⟩
theorem mem_set {α : Type} {l : List α} {i : Nat} {x y : α} (h : y ∈ l.set i x) : y ∈ l ∨ y = x := by
  rcases List.mem_or_eq_of_mem_set h with h | h
  · exact .inl h
  · exact .inr h
theorem Ok.step {n : Nat} {d : D} (h : Ok n d) : Ok n (step d) := by
  unfold DK.step; split
  · exact ⟨h.lk, h.ln, h.kp, h.np, h.wp, h.left⟩
  · exact ⟨h.lk, h.ln, h.kp, h.np, h.wp, by have := h.left; simp; omega⟩
theorem Ok.write {n : Nat} {d : D} (h : Ok n d) {i : Nat} (hi : i < n) {b : List Int} (hb : b.length ≤ 32) : Ok n (write d i b) := by
  refine ⟨h.lk, by simpa [DK.write] using h.ln, h.kp, ?_, ?_, h.left⟩
  · intro p hp
    rcases mem_set hp with hp | rfl
    · exact h.np p hp
    · exact put_len hb
  · intro x hx
    simp [DK.write] at hx
    rcases hx with hx | rfl
    · exact h.wp x hx
    · exact ⟨put_len hb, hi⟩
theorem Ok.sync {n : Nat} {d : D} (h : Ok n d) : Ok n (sync d) := ⟨h.ln, h.ln, h.np, h.np, by simp [DK.sync], h.left⟩
theorem lay_ok (keep : List Int) {n : Nat} : ∀ (ws : List (Nat × Pg)) (i : Nat) (ps : List Pg), (∀ x ∈ ws, x.2.length = 32 ∧ x.1 < n) → ps.length = n → (∀ p ∈ ps, p.length = 32) → (lay keep i ws ps).length = n ∧ ∀ p ∈ lay keep i ws ps, p.length = 32
  | [], _, ps, _, h1, h2 => ⟨h1, h2⟩
  | x :: ws, i, ps, h, h1, h2 => by
    rw [lay]
    refine lay_ok keep ws (i + 1) _ (fun y hy => h y (by simp [hy])) ?_ ?_
    · split <;> simp [h1]
    · intro p hp
      split at hp
      · rcases mem_set hp with hp | rfl
        · exact h2 p hp
        · exact (h x (by simp)).1
      · exact h2 p hp
theorem Ok.crash {n : Nat} {d : D} (h : Ok n d) (keep : List Int) : Ok n (crash d keep) := by
  have := lay_ok keep d.ws 0 d.kept h.wp h.lk h.kp
  exact ⟨this.1, this.1, this.2, this.2, by simp [DK.crash], by simp [DK.crash]⟩
theorem lay_snoc (keep : List Int) : ∀ (ws : List (Nat × Pg)) (i : Nat) (ps : List Pg) (x : Nat × Pg), lay keep i (ws ++ [x]) ps = if decide (((i + ws.length : Nat) : Int) ∈ keep) = true then (lay keep i ws ps).set x.1 x.2 else lay keep i ws ps
  | [], i, ps, x => by simp [lay]
  | y :: ws, i, ps, x => by
    rw [List.cons_append, lay, lay_snoc keep ws (i + 1)]
    rw [show i + 1 + ws.length = i + (y :: ws).length by simp; omega]
    rw [lay]
end DK
end Go.Proofs.YtckcbfnffmohgaaDoor
