/-
  Walk of the references' Put. Condition: the edges lie in memory as 'EdsAt' says.
  footbridgesame.Error of an error by its number. Condition: the package variable errors.errorType holds the handle of the type 'error'.
  The references' rows of edges: NodesFault, Out. Condition: the edges lie in memory as 'EdsAt' says.
  The references' parts of a graph (PartsOf). Conditions: there is a node; the edges lie as 'EdsAt' says, their nodes are nodes.
-/
import Derived.Test.YtckcbfnffmohgaaGreatBs5
import Derived.Test.YtckcbfnffmohgaaGreatBs6
import Derived.Test.YtckcbfnffmohgaaGreatBs17
import Derived.Test.YtckcbfnffmohgaaGreatBs24
import Derived.Test.YtckcbfnffmohgaaGreatBs25
import Derived.Test.YtckcbfnffmohgaaGreatBs26
import Derived.Test.YtckcbfnffmohgaaGreatBs2
import Derived.Deep.LoopGhost
namespace Go.Proofs.YtckcbfnffmohgaaGreat
open Go Go.RowKit
set_option linter.unusedVariables false

/-- The list's own comes next. -/
def PutC (b : Bool) (e x : AK.Ed) : Prop := b = true ∨ ¬ ltE e x
theorem snoc_len {α : Type} (d : List α) (x : α) : (d ++ [x]).length = d.length + 1 := by rw [List.length_append]; rfl
structure PutSt (w : World) (l : List AK.Ed) (e : AK.Ed) (B k : Nat) (b : Bool) (d : List AK.Ed) (vO : Value) (wr : World) : Prop where
  row : DRow wr vO d
  len : d.length = k + (if b then 1 else 0)
  eq : d ++ (if b then l.drop k else putE e (l.drop k)) = putE e l
  ext : Ext w wr
  new : ∀ j, vO.ownBlock = some j → w.heap.size ≤ j
  blk : Blk wr B 32 #[.int .i64 e.1, .int .i64 e.2]
  ne : vO.ownBlock ≠ some B
  nB : w.heap.size ≤ B
section
variable {w wr w' : World} {l d : List AK.Ed} {e x : AK.Ed} {B k g c : Nat} {b : Bool} {vO : Value} {o : Obj}
theorem PutSt.moved (h : PutSt w l e B k b d vO wr) (hx : Ext wr w') : PutSt w l e B k b d vO w' :=
  ⟨own_chg h.row (Chg.of_below hx) (fun k hk => by have := own_lt h.row hk; omega), h.len, h.eq, Ext.trans h.ext hx, h.new, h.blk.chg (Chg.of_below hx) (by have := h.blk.lt; omega), h.ne, h.nB⟩
theorem PutSt.push (h : PutSt w l e B k b d vO wr) {k' : Nat} {b' : Bool} (ho : w'.ownsRow 0 32 2 (.slice (some ⟨g, 0, none⟩) (d.length + 1) c) (d.length + 1) (rowsOf edC d ++ edC x)) (hc : Chg (fun k => vO.ownBlock = some k) wr w') (hat : vO.ownBlock = some g ∨ g = wr.heap.size)
    (hlen : d.length + 1 = k' + (if b' then 1 else 0)) (heq : (d ++ [x]) ++ (if b' then l.drop k' else putE e (l.drop k')) = putE e l) : PutSt w l e B k' b' (d ++ [x]) (.slice (some ⟨g, 0, none⟩) (d.length + 1) c) w' := by
  refine ⟨?_, by rw [List.length_append]; exact hlen, heq, ((Chg.of_below h.ext).trans hc (fun k _ hk => h.new k hk)).below (Nat.le_refl _) (fun _ _ h => h), fun j hj => ?_, h.blk.chg hc h.ne, fun q => ?_, h.nB⟩
  · unfold DRow
    rw [List.length_append, List.length_singleton, rowsOf_app]
    have : rowsOf edC [x] = edC x := by simp [rowsOf]
    rw [this]; exact ho
  · simp [Value.ownBlock] at hj
    subst hj
    rcases hat with q | q
    · exact h.new _ q
    · have := h.ext.size; omega
  · simp [Value.ownBlock] at q
    subst q
    rcases hat with q | q
    · exact h.ne q
    · have := h.blk.lt; omega
theorem PutSt.putE_ (h : PutSt w l e B k false d vO wr) (hx : l[k]? = some x) (hlt : ltE e x) (ho : w'.ownsRow 0 32 2 (.slice (some ⟨g, 0, none⟩) (d.length + 1) c) (d.length + 1) (rowsOf edC d ++ edC e)) (hc : Chg (fun k => vO.ownBlock = some k) wr w') (hat : vO.ownBlock = some g ∨ g = wr.heap.size) :
    PutSt w l e B k true (d ++ [e]) (.slice (some ⟨g, 0, none⟩) (d.length + 1) c) w' := by
  refine h.push ho hc hat (by have := h.len; simp at this ⊢; omega) ?_
  have h1 := h.eq
  simp only [Bool.false_eq_true, if_false] at h1
  rw [← h1]
  have hk : k < l.length := (List.getElem?_eq_some_iff.1 hx).1
  have hd : l.drop k = x :: l.drop (k + 1) := by rw [List.drop_eq_getElem_cons hk]; rw [List.getElem?_eq_getElem hk] at hx; injection hx with hx; rw [hx]
  simp only [if_true]
  rw [hd, putE, if_pos hlt]
  simp
theorem PutSt.putX (h : PutSt w l e B k b d vO wr) (hx : l[k]? = some x) (hlt : PutC b e x) (ho : w'.ownsRow 0 32 2 (.slice (some ⟨g, 0, none⟩) (d.length + 1) c) (d.length + 1) (rowsOf edC d ++ edC x)) (hc : Chg (fun k => vO.ownBlock = some k) wr w') (hat : vO.ownBlock = some g ∨ g = wr.heap.size) :
    PutSt w l e B (k + 1) b (d ++ [x]) (.slice (some ⟨g, 0, none⟩) (d.length + 1) c) w' := by
  refine h.push ho hc hat (by have := h.len; omega) ?_
  have h1 := h.eq
  rw [← h1]
  have hk : k < l.length := (List.getElem?_eq_some_iff.1 hx).1
  have hd : l.drop k = x :: l.drop (k + 1) := by rw [List.drop_eq_getElem_cons hk]; rw [List.getElem?_eq_getElem hk] at hx; injection hx with hx; rw [hx]
  cases b with
  | true => simp only [if_true]; rw [hd]; simp
  | false =>
    simp only [Bool.false_eq_true, if_false]
    rw [hd, putE, if_neg (Or.resolve_left hlt (by decide))]
    simp
theorem PutSt.last (h : PutSt w l e B l.length false d vO wr) (ho : w'.ownsRow 0 32 2 (.slice (some ⟨g, 0, none⟩) (d.length + 1) c) (d.length + 1) (rowsOf edC d ++ edC e)) (hc : Chg (fun k => vO.ownBlock = some k) wr w') (hat : vO.ownBlock = some g ∨ g = wr.heap.size) :
    PutSt w l e B l.length true (d ++ [e]) (.slice (some ⟨g, 0, none⟩) (d.length + 1) c) w' := by
  refine h.push ho hc hat (by have := h.len; simp at this ⊢; omega) ?_
  have h1 := h.eq
  simp only [Bool.false_eq_true, if_false] at h1
  rw [← h1]
  simp [putE]
end
def RpPost (w : World) (l : List AK.Ed) (e : AK.Ed) (ev : Ending) (w' : World) : Prop := ∃ A c, ev = .returned (.slice A (putE e l).length c) ∧ DRow w' (.slice A (putE e l).length c) (putE e l) ∧ Ext w w' ∧ ∀ j, (Value.slice A (putE e l).length c).ownBlock = some j → w.heap.size ≤ j
theorem PutSt.post {w wr : World} {l d : List AK.Ed} {e : AK.Ed} {B : Nat} {vO : Value} (h : PutSt w l e B l.length true d vO wr) : RpPost w l e (.returned vO) wr := by
  have h1 := h.eq
  simp only [if_true, List.drop_length, List.append_nil] at h1
  have h2 := h.row
  rw [h1] at h2
  have h3 := h2
  unfold DRow at h3
  obtain ⟨A, c, rfl, hc⟩ := own_slice3 h3
  exact ⟨A, c, rfl, h2, h.ext, h.new⟩
end Go.Proofs.YtckcbfnffmohgaaGreat
namespace Go.Proofs.YtckcbfnffmohgaaGreat
open Go Go.RowKit
set_option linter.unusedVariables false

end Go.Proofs.YtckcbfnffmohgaaGreat
namespace Go.Proofs.YtckcbfnffmohgaaGreat
open Go Go.RowKit Go.ChangeShapes Go.WideShapes
set_option linter.unusedVariables false

/-- What is wrong with a number of nodes. -/
def nodesF (n : Int) : Int := if n < 1 ∨ 60 < n then 1 else 0
theorem EdsAt.news {w : World} {A : Option Addr} {l : List AK.Ed} (h : EdsAt w A l) (k d : Nat) : ∀ ad, A = some ad → ∀ j u, (rowsOf edC ((l.drop k).take d))[j]? = some u → w.cell? ((ad.add (k * 2)).add j) = some u := by
  rintro ad rfl j u hj
  rcases h with h | ⟨b, off, he, hb, hc⟩
  · subst h; simp [rowsOf] at hj
  · injection he with he; subst he
    have := EdsAt.cells hc k d j u hj
    rwa [Addr.add_mid (j := k * 2)]
/-- What Out leaves: a new row without the k-th. -/
def OutPost (w : World) (l : List AK.Ed) (k : Nat) (e : Ending) (w' : World) : Prop :=
  ∃ A c, e = .returned (.slice A (l.eraseIdx k).length c) ∧ DRow w' (.slice A (l.eraseIdx k).length c) (l.eraseIdx k) ∧ Below w.heap.size w w' ∧ ∀ j, (Value.slice A (l.eraseIdx k).length c).ownBlock = some j → w.heap.size ≤ j
theorem out_end {w w6 w7 : World} {A6 A7 : Option Addr} {n6 c6 n7 c7 k : Nat} {l : List AK.Ed} {v : Value} (hv : v = .slice A7 n7 c7) (hn : n7 = (l.eraseIdx k).length) (ho : w7.ownsRow 0 32 2 (.slice A7 n7 c7) n7 (rowsOf edC (l.eraseIdx k)))
    (hc6 : Chg (fun j => (Value.slice none 0 0).ownBlock = some j) w w6) (hg6 : ∀ g, (Value.slice A6 n6 c6).ownBlock = some g → (Value.slice none 0 0).ownBlock = some g ∨ g = w.heap.size)
    (hc7 : Chg (fun j => (Value.slice A6 n6 c6).ownBlock = some j) w6 w7) (hg7 : ∀ g, (Value.slice A7 n7 c7).ownBlock = some g → (Value.slice A6 n6 c6).ownBlock = some g ∨ g = w6.heap.size) : OutPost w l k (.returned v) w7 := by
  subst hv; subst hn
  have h6 : ∀ g, (Value.slice A6 n6 c6).ownBlock = some g → w.heap.size ≤ g := fun g hg => by
    rcases hg6 g hg with h | h
    · simp [Value.ownBlock] at h
    · omega
  refine ⟨A7, c7, rfl, ho, (hc6.trans hc7 (fun i hi hS => absurd (h6 i hS) (by omega))).below (Nat.le_refl _) (fun k hk hS => by simp [Value.ownBlock] at hS), fun g hg => ?_⟩
  rcases hg7 g hg with h | h
  · exact h6 g h
  · have := hc6.size; omega
end Go.Proofs.YtckcbfnffmohgaaGreat
namespace Go.Proofs.YtckcbfnffmohgaaGreat
open Go Go.RowKit PT UF
set_option linter.unusedVariables false

theorem infoIntP : (Tryz.prog.info? 3).map (fun i => (i.zero, i.size, i.bytes)) = some (some (.int .i64 0), 1, 8) := by kernel_rfl
def natv (p : List Nat) : List Value := p.map fun x => .int .i64 (x : Nat)
theorem natv_len (p : List Nat) : (natv p).length = p.length := by simp [natv]
theorem natv_get {p : List Nat} {i x : Nat} (h : p[i]? = some x) : (natv p)[i]? = some (.int .i64 (x : Nat)) := by simp [natv, h]
theorem natv_set (p : List Nat) (i x : Nat) : natv (p.set i x) = (natv p).set i (.int .i64 (x : Nat)) := by simp [natv, List.map_set]
def NRow (w : World) (v : Value) (n : Nat) (p : List Nat) : Prop := w.ownsRow 0 3 1 v n (natv p)
/-- Edges as pairs of places. -/
def prs (l : List AK.Ed) : List (Nat × Nat) := l.map fun x => (x.1.toNat, x.2.toNat)
def Inn (n : Nat) (l : List AK.Ed) : Prop := ∀ x ∈ l, 0 ≤ x.1 ∧ x.1 < n ∧ 0 ≤ x.2 ∧ x.2 < n
def PartsPost (w : World) (n : Nat) (es : List (Nat × Nat)) (e : Ending) (w' : World) : Prop :=
  ∃ (p : List Nat) (g c : Nat), e = .returned (.slice (some ⟨g, 0, none⟩) n c) ∧ NRow w' (.slice (some ⟨g, 0, none⟩) n c) n p ∧ IsParts n es p ∧ Below w.heap.size w w' ∧ w.heap.size ≤ g
structure PRel (w : World) (n g c : Nat) (es : List (Nat × Nat)) (l : List AK.Ed) (k s0 : Nat) (b : Bool) (p : List Nat) (wr : World) : Prop where
  row : NRow wr (.slice (some ⟨g, 0, none⟩) n c) n p
  inv : PInv n es p
  bel : Below w.heap.size w wr
  yes : b = true → p.sum = s0 ∧ ∀ j x, j < k → l[j]? = some x → p[x.1.toNat]? = p[x.2.toNat]?
  no : b = false → p.sum < s0
theorem PRel.skip {w wr : World} {n g c k s0 : Nat} {es : List (Nat × Nat)} {l : List AK.Ed} {b : Bool} {p : List Nat} {x : AK.Ed} (h : PRel w n g c es l k s0 b p wr) (hx : l[k]? = some x) (he : p[x.1.toNat]? = p[x.2.toNat]?) : PRel w n g c es l (k + 1) s0 b p wr := by
  refine ⟨h.row, h.inv, h.bel, fun hb => ⟨(h.yes hb).1, fun j y hj hy => ?_⟩, h.no⟩
  by_cases e : j = k
  · subst e; rw [hx] at hy; injection hy with hy; subst hy; exact he
  · exact (h.yes hb).2 j y (by omega) hy
theorem PRel.set_ {w wr : World} {n g c k s0 i j x y : Nat} {es : List (Nat × Nat)} {l : List AK.Ed} {b : Bool} {p : List Nat} (h : PRel w n g c es l k s0 b p wr) (hg : w.heap.size ≤ g) (hab : (i, j) ∈ es ∨ (j, i) ∈ es) (hi : p[i]? = some x) (hj : p[j]? = some y) (hxy : x < y) :
    PRel w n g c es l (k + 1) s0 false (p.set j x) (wr.setCell ⟨g, j, none⟩ (.int .i64 (x : Nat))) := by
  refine ⟨?_, h.inv.set hab hi hj hxy, h.bel.setCell (p := ⟨g, j, none⟩) hg _, (fun hb => by cases hb), fun _ => ?_⟩
  · unfold NRow; rw [natv_set]; exact (World.ownsRow.stored h.row j _).1
  · have h1 := sum_set (p := p) (b := j) (x := x) hj
    cases b with
    | true => have := (h.yes rfl).1; omega
    | false => have := h.no rfl; omega
end Go.Proofs.YtckcbfnffmohgaaGreat
