/-
  Plain mathematics of rows that are trees, balanced by weight. No program in sight. No conditions.
  Words for memory: which blocks a call may have turned ('Chg'); a block known whole ('Blk'); rows of the call's own. No conditions.
-/
import Derived.Below
import Derived.Laws.OwnMore
import Derived.Maps.AppendAt
import Derived.Deep.AppendLies
import Derived.Deep.Draws
import Derived.OwnWalk
namespace SQ
inductive T where
  | nil
  | node (l : T) (x : Int) (r : T)
def T.size : T → Nat
  | nil => 0
  | node l _ r => l.size + 1 + r.size
def T.list : T → List Int
  | nil => []
  | node l x r => l.list ++ x :: r.list
theorem T.len : ∀ t : T, t.list.length = t.size
  | nil => rfl
  | node l x r => by simp [list, size, len l, len r]; omega
def hv (a b : T) : Bool := decide (3 * (b.size + 1) < a.size + 1)
def sg (a b : T) : Bool := decide (a.size + 1 < 2 * (b.size + 1))
/-- Neither branch is too heavy, anywhere. -/
def Bal : T → Prop
  | .nil => True
  | .node l _ r => Bal l ∧ Bal r ∧ l.size + 1 ≤ 3 * (r.size + 1) ∧ r.size + 1 ≤ 3 * (l.size + 1)

/-- What balance makes. -/
inductive BalR : T → Int → T → T → Prop
  | sr {l x rl rx rr} (h : hv (.node rl rx rr) l = true) (s : sg rl rr = true) : BalR l x (.node rl rx rr) (.node (.node l x rl) rx rr)
  | dr {l x a y b rx rr} (h : hv (.node (.node a y b) rx rr) l = true) (s : sg (.node a y b) rr = false) : BalR l x (.node (.node a y b) rx rr) (.node (.node l x a) y (.node b rx rr))
  | sl {ll lx lr x r} (g : hv r (.node ll lx lr) = false) (h : hv (.node ll lx lr) r = true) (s : sg lr ll = true) : BalR (.node ll lx lr) x r (.node ll lx (.node lr x r))
  | dl {ll lx a y b x r} (g : hv r (.node ll lx (.node a y b)) = false) (h : hv (.node ll lx (.node a y b)) r = true) (s : sg (.node a y b) ll = false) : BalR (.node ll lx (.node a y b)) x r (.node (.node ll lx a) y (.node b x r))
  | no {l x r} (g : hv r l = false) (h : hv l r = false) : BalR l x r (.node l x r)
theorem BalR.list {l r t : T} {x : Int} (h : BalR l x r t) : t.list = l.list ++ x :: r.list := by
  cases h <;> simp [T.list]
theorem BalR.size {l r t : T} {x : Int} (h : BalR l x r t) : t.size = l.size + 1 + r.size := by
  have := h.list; have e := congrArg List.length this; simp [T.len] at e; omega
/-- A branch may be a little too heavy. -/
theorem BalR.bal {l r t : T} {x : Int} (h : BalR l x r t) (hl : Bal l) (hr : Bal r) (h1 : 3 * (l.size + 1) ≤ 13 * (r.size + 1)) (h2 : 3 * (r.size + 1) ≤ 13 * (l.size + 1) ∨ r.size + 1 ≤ 3 * (l.size + 2)) : Bal t := by
  cases h with
  | sr h s =>
    obtain ⟨b1, b2, b3, b4⟩ := hr
    simp only [hv, sg, decide_eq_true_eq] at h s
    simp only [T.size] at h h1 h2
    exact ⟨⟨hl, b1, by omega, by omega⟩, b2, by simp only [T.size]; omega, by simp only [T.size]; omega⟩
  | dr h s =>
    obtain ⟨⟨c1, c2, c3, c4⟩, b2, b3, b4⟩ := hr
    simp only [hv, sg, decide_eq_true_eq, decide_eq_false_iff_not] at h s
    simp only [T.size] at h s h1 h2 b3 b4
    exact ⟨⟨hl, c1, by omega, by omega⟩, ⟨c2, b2, by omega, by omega⟩, by simp only [T.size]; omega, by simp only [T.size]; omega⟩
  | sl g h s =>
    obtain ⟨b1, b2, b3, b4⟩ := hl
    simp only [hv, sg, decide_eq_true_eq] at h s
    simp only [T.size] at h h1 h2
    exact ⟨b1, ⟨b2, hr, by omega, by omega⟩, by simp only [T.size]; omega, by simp only [T.size]; omega⟩
  | dl g h s =>
    obtain ⟨b1, ⟨c1, c2, c3, c4⟩, b3, b4⟩ := hl
    simp only [hv, sg, decide_eq_true_eq, decide_eq_false_iff_not] at h s
    simp only [T.size] at h s h1 h2 b3 b4
    exact ⟨⟨b1, c1, by omega, by omega⟩, ⟨c2, hr, by omega, by omega⟩, by simp only [T.size]; omega, by simp only [T.size]; omega⟩
  | no g h =>
    simp only [hv, decide_eq_false_iff_not] at g h
    exact ⟨hl, hr, by omega, by omega⟩
/-- Where balance turns, there are branches to turn. -/
theorem hv_node {a b : T} (h : hv a b = true) : ∃ l x r, a = .node l x r := by
  cases a with
  | nil => simp [hv, T.size] at h
  | node l x r => exact ⟨l, x, r, rfl⟩
theorem sg_node {a b : T} (h : sg a b = false) : ∃ l x r, a = .node l x r := by
  cases a with
  | nil => simp [sg, T.size] at h; omega
  | node l x r => exact ⟨l, x, r, rfl⟩

/-- What link makes. -/
inductive LinkR : T → Int → T → T → Prop
  | r {l x rl rx rr t u} (h : hv (.node rl rx rr) l = true) (k : LinkR l x rl t) (b : BalR t rx rr u) : LinkR l x (.node rl rx rr) u
  | l {ll lx lr x r t u} (g : hv r (.node ll lx lr) = false) (h : hv (.node ll lx lr) r = true) (k : LinkR lr x r t) (b : BalR ll lx t u) : LinkR (.node ll lx lr) x r u
  | no {l x r} (g : hv r l = false) (h : hv l r = false) : LinkR l x r (.node l x r)
theorem LinkR.list {l r t : T} {x : Int} (h : LinkR l x r t) : t.list = l.list ++ x :: r.list := by
  induction h with
  | r h k b ih => rw [b.list, ih]; simp [T.list]
  | l g h k b ih => rw [b.list, ih]; simp [T.list]
  | no g h => simp [T.list]
theorem LinkR.size {l r t : T} {x : Int} (h : LinkR l x r t) : t.size = l.size + 1 + r.size := by
  have e := congrArg List.length h.list; simp [T.len] at e; omega
theorem LinkR.bal {l r t : T} {x : Int} (h : LinkR l x r t) (hl : Bal l) (hr : Bal r) : Bal t := by
  induction h with
  | r h k b ih =>
    obtain ⟨b1, b2, b3, b4⟩ := hr
    have hs := k.size
    simp only [hv, decide_eq_true_eq] at h
    simp only [T.size] at h
    exact b.bal (ih hl b1) b2 (by omega) (.inl (by omega))
  | l g h k b ih =>
    obtain ⟨b1, b2, b3, b4⟩ := hl
    have hs := k.size
    simp only [hv, decide_eq_true_eq] at h
    simp only [T.size] at h
    exact b.bal b1 (ih b2 hr) (by omega) (.inl (by omega))
  | no g h =>
    simp only [hv, decide_eq_false_iff_not] at g h
    exact ⟨hl, hr, by omega, by omega⟩
/-- What first makes. -/
inductive FirstR : T → Int → T → Prop
  | no {x r} : FirstR (.node .nil x r) x r
  | go {ll lx lr x r y t u} (k : FirstR (.node ll lx lr) y t) (b : BalR t x r u) : FirstR (.node (.node ll lx lr) x r) y u
theorem FirstR.list {s t : T} {x : Int} (h : FirstR s x t) : s.list = x :: t.list := by
  induction h with
  | no => simp [T.list]
  | go k b ih => rw [b.list]; simp only [T.list] at ih ⊢; rw [ih]; simp
theorem FirstR.size {s t : T} {x : Int} (h : FirstR s x t) : s.size = t.size + 1 := by
  have e := congrArg List.length h.list; simpa [T.len] using e
theorem FirstR.bal {s t : T} {x : Int} (h : FirstR s x t) (hs : Bal s) : Bal t := by
  induction h with
  | no => exact hs.2.1
  | go k b ih =>
    obtain ⟨b1, b2, b3, b4⟩ := hs
    have e := k.size
    exact b.bal (ih b1) b2 (by omega) (.inr (by omega))
end SQ
namespace Go.Proofs.YtckcbfnffmohgaaGreat
open Go Go.RowKit

/-- Of what was there, only blocks of S have turned. -/
structure Chg (S : Nat → Prop) (w w' : World) : Prop where
  os : w'.os = w.os
  tape : w'.tape = w.tape
  output : w'.output = w.output
  size : w.heap.size ≤ w'.heap.size
  block : ∀ k, k < w.heap.size → ¬ S k → w'.heap[k]? = w.heap[k]?

section
variable {S S' : Nat → Prop} {a b c w w' : World}
theorem Chg.refl (S : Nat → Prop) (w : World) : Chg S w w := ⟨rfl, rfl, rfl, Nat.le_refl _, fun _ _ _ => rfl⟩
theorem Chg.mono (h : Chg S a b) (hs : ∀ k, k < a.heap.size → S k → S' k) : Chg S' a b :=
  ⟨h.os, h.tape, h.output, h.size, fun k hk hn => h.block k hk fun hS => hn (hs k hk hS)⟩
theorem Chg.trans (h : Chg S a b) (k : Chg S' b c) (hs : ∀ i, i < a.heap.size → S' i → S i) : Chg S a c :=
  ⟨k.os.trans h.os, k.tape.trans h.tape, k.output.trans h.output, Nat.le_trans h.size k.size,
   fun i hi hn => (k.block i (Nat.lt_of_lt_of_le hi h.size) fun hS => hn (hs i hi hS)).trans (h.block i hi hn)⟩
theorem Chg.drew (h : Chg S a b) : Chg S a b.drew := ⟨h.os, h.tape, h.output, h.size, h.block⟩
theorem Chg.drewN (h : Chg S a b) (n : Nat) : Chg S a (b.drewN n) := ⟨h.os, h.tape, h.output, h.size, h.block⟩
theorem Chg.undrew (h : Chg S a.drew b) : Chg S a b := ⟨h.os, h.tape, h.output, h.size, h.block⟩
theorem Chg.alloc (h : Chg S a b) (o : Obj) : Chg S a (b.alloc o) :=
  ⟨h.os, h.tape, h.output, Nat.le_trans h.size (by simp), fun i hi hn => (Below.heap_alloc b o i (Nat.lt_of_lt_of_le hi h.size)).trans (h.block i hi hn)⟩
theorem Chg.setCell (h : Chg S a b) {p : Addr} (hp : p.block < a.heap.size → S p.block) (u : Value) : Chg S a (b.setCell p u) :=
  ⟨h.os, h.tape, h.output, by simpa [World.setCell] using h.size, fun i hi hn => (Below.heap_setCell b p u i (by rintro rfl; exact hn (hp hi))).trans (h.block i hi hn)⟩
theorem Chg.of_grown {row : Option Nat} (h : a.grownBy b row) : Chg (fun k => some k = row) a b := ⟨h.os, h.tape, h.output, h.size, h.block⟩
theorem Chg.of_below {B : Nat} (h : Below B a b) : Chg (fun k => B ≤ k) a b := ⟨h.os, h.tape, h.output, h.size, fun k _ hn => h.block k (by omega)⟩
theorem Chg.below {B : Nat} (h : Chg S a b) (hB : B ≤ a.heap.size) (hs : ∀ k, k < a.heap.size → S k → B ≤ k) : Below B a b :=
  ⟨h.os, h.tape, h.output, h.size, fun k hk => h.block k (by omega) fun hS => by have := hs k (by omega) hS; omega⟩
theorem Chg.new (h : Below a.heap.size a b) (S : Nat → Prop) : Chg S a b := ⟨h.os, h.tape, h.output, h.size, fun k hk _ => h.block k hk⟩
theorem Chg.cell (h : Chg S a b) {p : Addr} (hp : p.block < a.heap.size) (hn : ¬ S p.block) : b.cell? p = a.cell? p := World.cell?_of_block (h.block _ hp hn)
end

/-- A block that is known whole, none of it frozen. -/
def Blk (w : World) (g : Nat) (t : TypeId) (cs : Array Value) : Prop := w.heap[g]? = some (.cells cs t (0, 0))
section
variable {w w' : World} {g : Nat} {t : TypeId} {cs : Array Value} {S : Nat → Prop}
theorem Blk.lt (h : Blk w g t cs) : g < w.heap.size := (Array.getElem?_eq_some_iff.1 h).1
theorem Blk.cell (h : Blk w g t cs) (i : Nat) : w.cell? ⟨g, i, none⟩ = cs[i]? := cell_of_row w g i cs t (0, 0) h
theorem Blk.frozen (h : Blk w g t cs) (i : Nat) : w.frozen? ⟨g, i, none⟩ = false := by unfold Blk at h; simp [World.frozen?, h]
theorem Blk.new (w : World) (t : TypeId) (cs : Array Value) : Blk (w.alloc (.cells cs t)) w.heap.size t cs := heap_alloc_new w _
theorem Blk.drew (h : Blk w g t cs) : Blk w.drew g t cs := h
theorem Blk.drewN (h : Blk w g t cs) (n : Nat) : Blk (w.drewN n) g t cs := h
theorem Blk.alloc (h : Blk w g t cs) (o : Obj) : Blk (w.alloc o) g t cs := (Below.heap_alloc w o g h.lt).trans h
theorem Blk.set_ (h : Blk w g t cs) (i : Nat) (u : Value) : Blk (w.setCell ⟨g, i, none⟩ u) g t (cs.setIfInBounds i u) := by
  unfold Blk at h ⊢
  simp [World.setCell, Array.getElem?_modify, h]
theorem Blk.far (h : Blk w g t cs) {p : Addr} (hp : g ≠ p.block) (u : Value) : Blk (w.setCell p u) g t cs := (Below.heap_setCell w p u g hp).trans h
theorem Blk.chg (h : Blk w g t cs) (hc : Chg S w w') (hn : ¬ S g) : Blk w' g t cs := (hc.block g h.lt hn).trans h
theorem Blk.grown {row : Option Nat} (h : Blk w g t cs) (hb : w.grownBy w' row) (hg : some g ≠ row) : Blk w' g t cs := (hb.block g h.lt hg).trans h
theorem Blk.ne_ {g' : Nat} {t' : TypeId} {cs' : Array Value} (h : Blk w g t cs) (h' : Blk w g' t' cs') (hne : t ≠ t') : g ≠ g' := by
  rintro rfl
  unfold Blk at h h'
  rw [h] at h'
  injection h' with h'
  injection h' with _ ht
  exact hne ht
end

section
variable {w w' : World} {base : Nat} {e : TypeId} {size : Nat} {v : Value} {n : Nat} {xs : List Value} {S : Nat → Prop}
/-- A row of one's own stays where its block is not turned. -/
theorem own_chg (h : w.ownsRow base e size v n xs) (hc : Chg S w w') (hn : ∀ k, v.ownBlock = some k → ¬ S k) : w'.ownsRow base e size v n xs := by
  refine ⟨h.1, ?_⟩
  rcases h.2 with h0 | ⟨g, cap, cur, rfl, hb, hg, rest⟩
  · exact .inl h0
  · exact .inr ⟨g, cap, cur, rfl, hb, (hc.block g (Array.getElem?_eq_some_iff.1 hg).1 (hn g (by simp [Value.ownBlock]))).trans hg, rest⟩
theorem own_drew (h : w.ownsRow base e size v n xs) : w.drew.ownsRow base e size v n xs := h
theorem own_far (h : w.ownsRow base e size v n xs) {p : Addr} (hp : v.ownBlock ≠ some p.block) (u : Value) : (w.setCell p u).ownsRow base e size v n xs :=
  own_chg (S := fun k => k = p.block) h ((Chg.refl (fun k => k = p.block) w).setCell (fun _ => rfl) u) (by rintro k hk rfl; exact hp hk)
theorem own_lt (h : w.ownsRow base e size v n xs) {k : Nat} (hk : v.ownBlock = some k) : k < w.heap.size := (h.lt k hk).2
theorem own_ne (h : w.ownsRow base e size v n xs) {g : Nat} {t : TypeId} {cs : Array Value} (hg : Blk w g t cs) (hne : e ≠ t) : v.ownBlock ≠ some g := by
  rcases h.2 with ⟨rfl, _⟩ | ⟨g', cap, cur, rfl, _, hh, _⟩
  · simp [Value.ownBlock]
  · intro he
    have : g' = g := by simpa [Value.ownBlock] using he
    subst this
    exact Blk.ne_ (t := e) hh hg hne rfl
/-- A row that is not empty has an address. -/
theorem own_form (h : w.ownsRow base e size v n xs) (hn : 0 < n) : ∃ g cap, v = .slice (some ⟨g, 0, none⟩) n cap ∧ n ≤ cap ∧ cap ≤ maxLen := by
  rcases h.2 with ⟨_, h0⟩ | ⟨g, cap, cur, rfl, _, _, h1, h2, _⟩
  · omega
  · exact ⟨g, cap, rfl, h1, h2⟩
end
theorem below_drewN' {B : Nat} {a w : World} (h : Below B a w) (n : Nat) : Below B a (w.drewN n) := ⟨h.os, h.tape, h.output, h.size, h.block⟩
theorem own_block_lt {w : World} {base : Nat} {e : TypeId} {size : Nat} {v : Value} {n : Nat} {xs : List Value} (h : w.ownsRow base e size v n xs) {k : Nat} (hk : v.ownBlock = some k) : k < w.heap.size := (h.lt k hk).2

/-- One value more behind a row of one's own (elements of one cell), at the operation, for the walk. -/
theorem wpList_push {P : Program} (w : World) {ops : Array Oper} {rest : List Oper} {o : Oper} {a : Act} {Q : Exit → Act → World → Prop} (hgd : o.guard = none) (s x : Operand) (t : TypeId)
    (ho : o.op = .call { callee := .builtin .append, args := #[s, x], argTypes := #[t, t] })
    (e : TypeId) (z : Value) (bytes : Nat) (ht : P.underlying t = some (.slice e)) (hinfo : (P.info? e).map (fun i => (i.zero, i.size, i.bytes)) = some (some z, 1, bytes)) (hzs : z.cells.size = 1)
    (v : Value) (n : Nat) (xs : List Value) (hs : a.eval s = v) (hown : w.ownsRow 0 e 1 v n xs) (hsm : n ≤ 1000000 ∧ bytes ≤ 1000)
    (u : Value) (B : Nat) (hx : a.eval x = .slice (some ⟨B, 0, none⟩) 1 1) (hB : w.cell? ⟨B, 0, none⟩ = some u) (h1 : u.oneCell' = true)
    (h : ∀ g c w', w'.ownsRow 0 e 1 (.slice (some ⟨g, 0, none⟩) (n + 1) c) (n + 1) (xs ++ [u]) → Chg (fun k => v.ownBlock = some k) w w' → (v.ownBlock = some g ∨ g = w.heap.size) → n + 1 ≤ c → wpList P ops Q rest (a.put o.dst (.slice (some ⟨g, 0, none⟩) (n + 1) c)) w') : wpList P ops Q (o :: rest) a w := by
  obtain ⟨i, hi, hz0, hz1, hz2⟩ := info_parts hinfo
  have hm : (n + 1) * bytes ≤ 140737488355328 := Nat.le_trans (Nat.mul_le_mul (show n + 1 ≤ 1000001 by omega) hsm.2) (by decide)
  refine wpList_append_own_at w hgd s x t ho 0 e i z 1 bytes ht hi hz0 hz1 hz2 hzs (by omega) v n xs hs hown ⟨B, 0, none⟩ 1 1 [u] hx rfl ?_ ?_ (by unfold maxLen; omega) hm (Nat.zero_le _) ?_
  · intro j y hj
    match j, hj with
    | 0, hj => simp at hj; subst hj; simpa [Addr.add] using hB
  · intro y hy; simp at hy; subst hy; exact h1
  · intro v' w' hown' hgr _ hat
    obtain ⟨g, c, hv, hc, _⟩ := own_form hown' (by omega)
    subst hv
    refine h g c w' hown' ((Chg.of_grown hgr).mono (fun k _ hk => hk.symm)) ?_ hc
    rcases hat with hat | hat
    · exact .inl (by rw [← hat]; rfl)
    · right; simpa [Value.ownBlock] using hat
theorem cell_new1 {w : World} {H : Nat} (hH : w.heap.size = H) (u : Value) (t : TypeId) : (w.alloc (.cells #[u] t)).cell? ⟨H, 0, none⟩ = some u := by subst hH; simp
/-- One value more behind a row of one's own, at a step of a region that draws its order. -/
theorem step_push {P : Program} (w : World) {ops : Array Oper} {o : Oper} {a : Act} {K : Act → World → Prop} {Q : Exit → Act → World → Prop} {E : Prop} (hgd : o.guard = none) (s x : Operand) (t : TypeId)
    (ho : o.op = .call { callee := .builtin .append, args := #[s, x], argTypes := #[t, t] })
    (e : TypeId) (z : Value) (bytes : Nat) (ht : P.underlying t = some (.slice e)) (hinfo : (P.info? e).map (fun i => (i.zero, i.size, i.bytes)) = some (some z, 1, bytes)) (hzs : z.cells.size = 1)
    (v : Value) (n : Nat) (xs : List Value) (hs : a.eval s = v) (hown : w.ownsRow 0 e 1 v n xs) (hsm : n ≤ 1000000 ∧ bytes ≤ 1000)
    (u : Value) (B : Nat) (hx : a.eval x = .slice (some ⟨B, 0, none⟩) 1 1) (hB : w.cell? ⟨B, 0, none⟩ = some u) (h1 : u.oneCell' = true)
    (h : ∀ g c w', w'.ownsRow 0 e 1 (.slice (some ⟨g, 0, none⟩) (n + 1) c) (n + 1) (xs ++ [u]) → Chg (fun k => v.ownBlock = some k) w w' → (v.ownBlock = some g ∨ g = w.heap.size) → K (a.put o.dst (.slice (some ⟨g, 0, none⟩) (n + 1) c)) w') :
    if Region.wanted o (yielded ops a.tmps) = true then Oper.wp P o a w K Q else E := by
  obtain ⟨i, hi, hz0, hz1, hz2⟩ := info_parts hinfo
  have hm : (n + 1) * bytes ≤ 140737488355328 := Nat.le_trans (Nat.mul_le_mul (show n + 1 ≤ 1000001 by omega) hsm.2) (by decide)
  refine step_append_lies w hgd s x t ho 0 e i z 1 bytes ht hi hz0 hz1 hz2 hzs (by omega) v n xs hs hown ⟨B, 0, none⟩ 1 1 [u] hx rfl ?_ ?_ (by omega) (by unfold maxLen; omega) hm (Nat.zero_le _) w.heap.size rfl ?_
  · intro j y hj
    match j, hj with
    | 0, hj => simp at hj; subst hj; simpa [Addr.add] using hB
  · intro y hy; simp at hy; subst hy; exact h1
  · intro g c w' hown' hgr hat _
    exact h g c w' hown' ((Chg.of_grown hgr).mono (fun k _ hk => hk.symm)) hat
end Go.Proofs.YtckcbfnffmohgaaGreat
