/-
  The walker of package bridge in memory. No conditions.
-/
import Derived.Test.YtakjakglkfhaaaaDoorDfs
import Derived.Test.YtakjakglkfhaaaaDoorBs1
namespace Go.Proofs.YtakjakglkfhaaaaDoor
open Go Go.RowKit
set_option linter.unusedVariables false

/-- Where the walker lies: its block, the blocks of its rows. -/
structure Wkr where
  W : Nat
  gw : Nat
  gl : Nat
  gp : Nat
  vB : Value
/-- The blocks of its rows. -/
def Wkr.S (k : Wkr) (j : Nat) : Prop := j = k.gw ∨ j = k.gl ∨ j = k.gp
structure WkAt (w0 : World) (n : Nat) (k : Wkr) (vE vJ : Value) (s : DF.Wk) (wr : World) : Prop where
  blk : Blk wr k.W 82 #[k.vB, .slice (some ⟨k.gw, 0, none⟩) n n, .slice (some ⟨k.gl, 0, none⟩) n n, .slice (some ⟨k.gp, 0, none⟩) n n, .int .i64 (s.tm : Int), vE, vJ]
  wh : wr.ownsRow 0 3 1 (.slice (some ⟨k.gw, 0, none⟩) n n) n (intsV s.wh)
  lo : wr.ownsRow 0 3 1 (.slice (some ⟨k.gl, 0, none⟩) n n) n (intsV s.lo)
  pa : wr.ownsRow 0 3 1 (.slice (some ⟨k.gp, 0, none⟩) n n) n (intsV s.pa)
  ed : DRow wr vE s.ed
  jo : wr.ownsRow 0 3 1 vJ s.jo.length (natsV s.jo)
  d1 : k.gw ≠ k.gl
  d2 : k.gw ≠ k.gp
  d3 : k.gl ≠ k.gp
  j1 : vJ.ownBlock ≠ some k.gw
  j2 : vJ.ownBlock ≠ some k.gl
  j3 : vJ.ownBlock ≠ some k.gp
  nE : ∀ x, vE.ownBlock = some x → w0.heap.size ≤ x
  nJ : ∀ x, vJ.ownBlock = some x → w0.heap.size ≤ x
  nW : w0.heap.size ≤ k.W
  chg : Chg k.S w0 wr
section
variable {w0 wr w' : World} {n : Nat} {k : Wkr} {vE vJ : Value} {s : DF.Wk}
theorem slice_own (g n c : Nat) : (Value.slice (some ⟨g, 0, none⟩) n c).ownBlock = some g := rfl
theorem slice_ne {g h n c : Nat} (e : g ≠ h) : (Value.slice (some ⟨g, 0, none⟩) n c).ownBlock ≠ some h := by
  rw [slice_own]; intro q; injection q with q; exact e q
theorem WkAt.w1 (h : WkAt w0 n k vE vJ s wr) : k.W ≠ k.gw := fun e => own_ne h.wh h.blk (by decide) (by rw [slice_own, e])
theorem WkAt.w2 (h : WkAt w0 n k vE vJ s wr) : k.W ≠ k.gl := fun e => own_ne h.lo h.blk (by decide) (by rw [slice_own, e])
theorem WkAt.w3 (h : WkAt w0 n k vE vJ s wr) : k.W ≠ k.gp := fun e => own_ne h.pa h.blk (by decide) (by rw [slice_own, e])
theorem WkAt.wJ (h : WkAt w0 n k vE vJ s wr) : vJ.ownBlock ≠ some k.W := own_ne h.jo h.blk (by decide)
theorem WkAt.wE (h : WkAt w0 n k vE vJ s wr) : vE.ownBlock ≠ some k.W := own_ne h.ed h.blk (by decide)
theorem WkAt.e1 (h : WkAt w0 n k vE vJ s wr) : vE.ownBlock ≠ some k.gw := fun e => own_neq h.ed h.wh (by decide) e (slice_own _ _ _)
theorem WkAt.e2 (h : WkAt w0 n k vE vJ s wr) : vE.ownBlock ≠ some k.gl := fun e => own_neq h.ed h.lo (by decide) e (slice_own _ _ _)
theorem WkAt.e3 (h : WkAt w0 n k vE vJ s wr) : vE.ownBlock ≠ some k.gp := fun e => own_neq h.ed h.pa (by decide) e (slice_own _ _ _)
theorem WkAt.eJ (h : WkAt w0 n k vE vJ s wr) {x : Nat} (e : vE.ownBlock = some x) : vJ.ownBlock ≠ some x := own_neq h.ed h.jo (by decide) e
theorem WkAt.moved (h : WkAt w0 n k vE vJ s wr) (hx : Ext wr w') : WkAt w0 n k vE vJ s w' := by
  have key : ∀ {e : TypeId} {size : Nat} {v : Value} {m : Nat} {xs : List Value}, wr.ownsRow 0 e size v m xs → w'.ownsRow 0 e size v m xs := fun h1 => own_chg h1 (Chg.of_below hx) (fun k hk => by have := own_lt h1 hk; omega)
  exact { h with blk := h.blk.chg (Chg.of_below hx) (by have := h.blk.lt; omega), wh := key h.wh, lo := key h.lo, pa := key h.pa, ed := key h.ed, jo := key h.jo, chg := h.chg.trans (Chg.of_below hx) (fun i hi hS => absurd hi (by have := h.chg.size; omega)) }
theorem WkAt.drew (h : WkAt w0 n k vE vJ s wr) : WkAt w0 n k vE vJ s wr.drew := h.moved (Ext.drew _)
theorem WkAt.drewN (h : WkAt w0 n k vE vJ s wr) (m : Nat) : WkAt w0 n k vE vJ s (wr.drewN m) := h.moved (Ext.drewN _ _)
theorem WkAt.setChg (h : WkAt w0 n k vE vJ s wr) {g : Nat} (hg : g < w0.heap.size → k.S g) (i : Nat) (v : Value) : Chg k.S w0 (wr.setCell ⟨g, i, none⟩ v) :=
  h.chg.setCell (p := ⟨g, i, none⟩) hg v
theorem intsV_set (d : List Int) (i : Nat) (x : Int) : intsV (d.set i x) = (intsV d).set i (.int .i64 x) := by rw [intsV, intsV, List.map_set]
theorem WkAt.setTm (h : WkAt w0 n k vE vJ s wr) (x : Nat) : WkAt w0 n k vE vJ { s with tm := x } (wr.setCell ⟨k.W, 4, none⟩ (.int .i64 (x : Int))) :=
  { h with
    blk := h.blk.set_ 4 _
    wh := own_far h.wh (p := ⟨k.W, 4, none⟩) (slice_ne (Ne.symm h.w1)) _
    lo := own_far h.lo (p := ⟨k.W, 4, none⟩) (slice_ne (Ne.symm h.w2)) _
    pa := own_far h.pa (p := ⟨k.W, 4, none⟩) (slice_ne (Ne.symm h.w3)) _
    ed := own_far h.ed (p := ⟨k.W, 4, none⟩) h.wE _
    jo := own_far h.jo (p := ⟨k.W, 4, none⟩) h.wJ _
    chg := h.setChg (fun q => absurd q (by have := h.nW; omega)) _ _ }
theorem WkAt.setW (h : WkAt w0 n k vE vJ s wr) (a : Nat) (x : Int) : WkAt w0 n k vE vJ { s with wh := s.wh.set a x } (wr.setCell ⟨k.gw, a, none⟩ (.int .i64 x)) :=
  { h with
    blk := h.blk.far (p := ⟨k.gw, a, none⟩) h.w1 _
    wh := by rw [intsV_set]; exact (h.wh.stored a _).1
    lo := own_far h.lo (p := ⟨k.gw, a, none⟩) (slice_ne (Ne.symm h.d1)) _
    pa := own_far h.pa (p := ⟨k.gw, a, none⟩) (slice_ne (Ne.symm h.d2)) _
    ed := own_far h.ed (p := ⟨k.gw, a, none⟩) h.e1 _
    jo := own_far h.jo (p := ⟨k.gw, a, none⟩) h.j1 _
    chg := h.setChg (fun _ => .inl rfl) _ _ }
theorem WkAt.setL (h : WkAt w0 n k vE vJ s wr) (a : Nat) (x : Int) : WkAt w0 n k vE vJ { s with lo := s.lo.set a x } (wr.setCell ⟨k.gl, a, none⟩ (.int .i64 x)) :=
  { h with
    blk := h.blk.far (p := ⟨k.gl, a, none⟩) h.w2 _
    lo := by rw [intsV_set]; exact (h.lo.stored a _).1
    wh := own_far h.wh (p := ⟨k.gl, a, none⟩) (slice_ne h.d1) _
    pa := own_far h.pa (p := ⟨k.gl, a, none⟩) (slice_ne (Ne.symm h.d3)) _
    ed := own_far h.ed (p := ⟨k.gl, a, none⟩) h.e2 _
    jo := own_far h.jo (p := ⟨k.gl, a, none⟩) h.j2 _
    chg := h.setChg (fun _ => .inr (.inl rfl)) _ _ }
theorem WkAt.setP (h : WkAt w0 n k vE vJ s wr) (a : Nat) (x : Int) : WkAt w0 n k vE vJ { s with pa := s.pa.set a x } (wr.setCell ⟨k.gp, a, none⟩ (.int .i64 x)) :=
  { h with
    blk := h.blk.far (p := ⟨k.gp, a, none⟩) h.w3 _
    pa := by rw [intsV_set]; exact (h.pa.stored a _).1
    wh := own_far h.wh (p := ⟨k.gp, a, none⟩) (slice_ne h.d2) _
    lo := own_far h.lo (p := ⟨k.gp, a, none⟩) (slice_ne h.d3) _
    ed := own_far h.ed (p := ⟨k.gp, a, none⟩) h.e3 _
    jo := own_far h.jo (p := ⟨k.gp, a, none⟩) h.j3 _
    chg := h.setChg (fun _ => .inr (.inr rfl)) _ _ }
/-- An edge more. -/
theorem WkAt.pushE (h : WkAt w0 n k vE vJ s wr) {g c : Nat} {x : AK.Ed} (ho : w'.ownsRow 0 63 2 (.slice (some ⟨g, 0, none⟩) (s.ed.length + 1) c) (s.ed.length + 1) (rowsOf edC s.ed ++ edC x)) (hc : Chg (fun j => vE.ownBlock = some j) wr w') (hat : vE.ownBlock = some g ∨ g = wr.heap.size) :
    Blk w' k.W 82 #[k.vB, .slice (some ⟨k.gw, 0, none⟩) n n, .slice (some ⟨k.gl, 0, none⟩) n n, .slice (some ⟨k.gp, 0, none⟩) n n, .int .i64 (s.tm : Int), vE, vJ] ∧ WkAt w0 n k (.slice (some ⟨g, 0, none⟩) (s.ed.length + 1) c) vJ { s with ed := s.ed ++ [x] } (w'.setCell ⟨k.W, 5, none⟩ (.slice (some ⟨g, 0, none⟩) (s.ed.length + 1) c)) := by
  have hb := h.blk.chg hc h.wE
  have hgW : g ≠ k.W := by
    rcases hat with e | e
    · rintro rfl; exact h.wE e
    · have := h.blk.lt; omega
  have key : ∀ {e : TypeId} {size : Nat} {v : Value} {m : Nat} {xs : List Value}, wr.ownsRow 0 e size v m xs → (∀ j, v.ownBlock = some j → vE.ownBlock ≠ some j) → v.ownBlock ≠ some k.W → (w'.setCell ⟨k.W, 5, none⟩ (.slice (some ⟨g, 0, none⟩) (s.ed.length + 1) c)).ownsRow 0 e size v m xs := fun h1 h2 h3 => own_far (own_chg h1 hc h2) (p := ⟨k.W, 5, none⟩) h3 _
  refine ⟨hb, { h with blk := hb.set_ 5 _, wh := key h.wh (fun j hj q => ?_) (slice_ne (Ne.symm h.w1)), lo := key h.lo (fun j hj q => ?_) (slice_ne (Ne.symm h.w2)), pa := key h.pa (fun j hj q => ?_) (slice_ne (Ne.symm h.w3)), ed := ?_, jo := key h.jo (fun j hj q => h.eJ q hj) h.wJ, nE := fun y hy => ?_, chg := ?_ }⟩
  · rw [slice_own] at hj; injection hj with hj; subst hj; exact h.e1 q
  · rw [slice_own] at hj; injection hj with hj; subst hj; exact h.e2 q
  · rw [slice_own] at hj; injection hj with hj; subst hj; exact h.e3 q
  · unfold DRow
    rw [rowsOf_app, List.length_append, List.length_singleton]
    have : rowsOf edC [x] = edC x := by simp [rowsOf]
    rw [this]
    exact own_far ho (p := ⟨k.W, 5, none⟩) (slice_ne hgW) _
  · rw [slice_own] at hy; injection hy with hy; subst hy
    rcases hat with e | e
    · exact h.nE g e
    · have := h.chg.size; omega
  · exact (h.chg.trans hc (fun i hi hS => absurd (h.nE i hS) (by omega))).setCell (p := ⟨k.W, 5, none⟩) (fun q => absurd q (by have := h.nW; simp only; omega)) _
/-- A joint more. -/
theorem WkAt.pushJ (h : WkAt w0 n k vE vJ s wr) {g c a : Nat} (ho : w'.ownsRow 0 3 1 (.slice (some ⟨g, 0, none⟩) (s.jo.length + 1) c) (s.jo.length + 1) (natsV s.jo ++ [.int .i64 (a : Int)])) (hc : Chg (fun j => vJ.ownBlock = some j) wr w') (hat : vJ.ownBlock = some g ∨ g = wr.heap.size) :
    Blk w' k.W 82 #[k.vB, .slice (some ⟨k.gw, 0, none⟩) n n, .slice (some ⟨k.gl, 0, none⟩) n n, .slice (some ⟨k.gp, 0, none⟩) n n, .int .i64 (s.tm : Int), vE, vJ] ∧ WkAt w0 n k vE (.slice (some ⟨g, 0, none⟩) (s.jo.length + 1) c) { s with jo := s.jo ++ [a] } (w'.setCell ⟨k.W, 6, none⟩ (.slice (some ⟨g, 0, none⟩) (s.jo.length + 1) c)) := by
  have hb := h.blk.chg hc h.wJ
  have hgW : g ≠ k.W := by
    rcases hat with e | e
    · rintro rfl; exact h.wJ e
    · have := h.blk.lt; omega
  have key : ∀ {e : TypeId} {size : Nat} {v : Value} {m : Nat} {xs : List Value}, wr.ownsRow 0 e size v m xs → (∀ j, v.ownBlock = some j → vJ.ownBlock ≠ some j) → v.ownBlock ≠ some k.W → (w'.setCell ⟨k.W, 6, none⟩ (.slice (some ⟨g, 0, none⟩) (s.jo.length + 1) c)).ownsRow 0 e size v m xs := fun h1 h2 h3 => own_far (own_chg h1 hc h2) (p := ⟨k.W, 6, none⟩) h3 _
  have far : ∀ {x m cc : Nat} {xs : List Value}, wr.ownsRow 0 3 1 (.slice (some ⟨x, 0, none⟩) m cc) m xs → vJ.ownBlock ≠ some x → g ≠ x := fun {x m cc xs} h1 h2 => by
    rcases hat with e | e
    · rintro rfl; exact h2 e
    · have := own_lt h1 (slice_own x m cc); omega
  refine ⟨hb, { h with blk := hb.set_ 6 _, wh := key h.wh (fun j hj q => ?_) (slice_ne (Ne.symm h.w1)), lo := key h.lo (fun j hj q => ?_) (slice_ne (Ne.symm h.w2)), pa := key h.pa (fun j hj q => ?_) (slice_ne (Ne.symm h.w3)), jo := ?_, ed := key h.ed (fun j hj q => h.eJ hj q) h.wE, j1 := slice_ne (far h.wh h.j1), j2 := slice_ne (far h.lo h.j2), j3 := slice_ne (far h.pa h.j3), nJ := fun y hy => ?_, chg := ?_ }⟩
  · rw [slice_own] at hj; injection hj with hj; subst hj; exact h.j1 q
  · rw [slice_own] at hj; injection hj with hj; subst hj; exact h.j2 q
  · rw [slice_own] at hj; injection hj with hj; subst hj; exact h.j3 q
  · have e : natsV (s.jo ++ [a]) = natsV s.jo ++ [.int .i64 (a : Int)] := by simp [natsV]
    rw [e, List.length_append, List.length_singleton]
    exact own_far ho (p := ⟨k.W, 6, none⟩) (slice_ne hgW) _
  · rw [slice_own] at hy; injection hy with hy; subst hy
    rcases hat with e | e
    · exact h.nJ g e
    · have := h.chg.size; omega
  · exact (h.chg.trans hc (fun i hi hS => absurd (h.nJ i hS) (by omega))).setCell (p := ⟨k.W, 6, none⟩) (fun q => absurd q (by have := h.nW; simp only; omega)) _
theorem int_cell {g c v : Nat} {d : List Int} (h : wr.ownsRow 0 3 1 (.slice (some ⟨g, 0, none⟩) n c) n (intsV d)) (hd : d.length = n) (hv : v < n) : wr.cell? ⟨g, v, none⟩ = some (.int .i64 (PD.g d v)) ∧ wr.frozen? ⟨g, v, none⟩ = false := by
  refine ⟨?_, h.frozenAt _⟩
  rw [h.cellAt v (by omega), intsV, List.getElem?_map, List.getElem?_eq_getElem (by omega)]
  simp [PD.g, List.getD_eq_getElem?_getD, List.getElem?_eq_getElem (show v < d.length by omega)]
/-- What a visit leaves. -/
def WkPost (w0 : World) (n : Nat) (k : Wkr) (s : DF.Wk) (e : Ending) (w' : World) : Prop := e = .returned (.tuple #[]) ∧ ∃ vE vJ, WkAt w0 n k vE vJ s w'
end
end Go.Proofs.YtakjakglkfhaaaaDoor
