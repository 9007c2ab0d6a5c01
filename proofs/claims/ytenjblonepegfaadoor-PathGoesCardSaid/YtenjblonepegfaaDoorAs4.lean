/-
  The solver as it lies in memory; walk of its solve. Conditions: the events lie in memory as 'EvsAt' says, nothing is wrong of them, and the lives at hand tell what is there at each time.
-/
import Derived.Test.YtenjblonepegfaaDoorMem3
import Derived.Test.YtenjblonepegfaaDoorAs3
import Derived.Test.YtenjblonepegfaaDoorAk2
import Derived.Test.YtenjblonepegfaaDoorUn4
namespace Go.Proofs.YtenjblonepegfaaDoor
open Go Go.RowKit
set_option linter.unusedVariables false

theorem infoBool1 : (Tryd.prog.info? 4).map (fun i => (i.zero, i.size, i.bytes)) = some (some (.bool false), 1, 1) := by kernel_rfl
def sfp (u : Uni) (ov : Value) (gs k : Nat) : Prop := u.fp k ∨ ov.ownBlock = some k ∨ k = gs
structure SAt (W : World) (gs g n : Nat) (EA : Option Addr) (len c : Nat) (w : World) (u : Uni) (ov : Value) (hs : UF.Hs) (outs : List Bool) : Prop where
  un : UAt w u n hs
  ug : u.g = g
  row : w.ownsRow 0 4 1 ov outs.length (outs.map Value.bool)
  blk : Blk w gs 149 #[.pointer (some ⟨g, 0, none⟩), .slice EA len c, ov]
  bel : Below W.heap.size W w
  ub : ∀ k, u.fp k → W.heap.size ≤ k
  ob : ∀ k, ov.ownBlock = some k → W.heap.size ≤ k
  gb : W.heap.size ≤ gs
section
variable {W w w' w2 : World} {gs g n len c : Nat} {EA : Option Addr} {u u' u2 : Uni} {ov ov' ov2 : Value} {hs hs' : UF.Hs} {outs outs' : List Bool} {xs : List AK.Lf} {v : Value}
/-- A row of another kind is no part of a union. -/
theorem un_apart {e : TypeId} {size m : Nat} {ys : List Value} (h : UAt w u n hs) (r : w.ownsRow 0 e size v m ys) (h1 : e ≠ 3) (h2 : e ≠ 176) {k : Nat} (hk : v.ownBlock = some k) : ¬ u.fp k := by
  rintro (hf | hf | hf | hf)
  · subst hf; exact own_ne r h.blk h2 hk
  · subst hf; exact own_neq r h.rup h1 hk rfl
  · subst hf; exact own_neq r h.rsz h1 hk rfl
  · exact own_neq r h.rdn h1 hk hf
theorem SAt.oapart (h : SAt W gs g n EA len c w u ov hs outs) {k : Nat} (hk : ov.ownBlock = some k) : ¬ u.fp k := un_apart h.un h.row (by decide) (by decide) hk
theorem SAt.gapart (h : SAt W gs g n EA len c w u ov hs outs) : ¬ u.fp gs := by
  rintro (hf | hf | hf | hf)
  · exact h.blk.ne_ h.un.blk (by decide) hf
  · exact own_ne h.un.rup h.blk (by decide) (by rw [hf]; rfl)
  · exact own_ne h.un.rsz h.blk (by decide) (by rw [hf]; rfl)
  · exact own_ne h.un.rdn h.blk (by decide) hf
theorem SAt.ogapart (h : SAt W gs g n EA len c w u ov hs outs) : ov.ownBlock ≠ some gs := own_ne h.row h.blk (by decide)
theorem SAt.lapart (h : SAt W gs g n EA len c w u ov hs outs) (r : LRow w v xs) {k : Nat} (hk : v.ownBlock = some k) : ¬ sfp u ov gs k := by
  rintro (hf | hf | hf)
  · exact un_apart h.un r (by decide) (by decide) hk hf
  · exact own_neq r h.row (by decide) hk hf
  · subst hf; exact own_ne r h.blk (by decide) hk
theorem SAt.lt (h : SAt W gs g n EA len c w u ov hs outs) {k : Nat} (hk : sfp u ov gs k) : k < w.heap.size := by
  rcases hk with hk | hk | hk
  · exact h.un.lt hk
  · exact own_lt h.row hk
  · subst hk; exact h.blk.lt
theorem SAt.base (h : SAt W gs g n EA len c w u ov hs outs) {k : Nat} (hk : sfp u ov gs k) : W.heap.size ≤ k := by
  rcases hk with hk | hk | hk
  · exact h.ub k hk
  · exact h.ob k hk
  · subst hk; exact h.gb
theorem SAt.union_ (h : SAt W gs g n EA len c w u ov hs outs) (h1 : UAt w' u' n hs') (hm : Moved w u u' w') : SAt W gs g n EA len c w' u' ov hs' outs :=
  ⟨h1, hm.1.trans h.ug, own_chg h.row hm.2.1 (fun k hk => h.oapart hk), h.blk.chg hm.2.1 h.gapart, ((Chg.of_below h.bel).trans hm.2.1 (fun i _ hi => h.ub i hi)).below (Nat.le_refl _) (fun _ _ h => h),
   fun k hk => by rcases hm.2.2 k hk with h1 | h1; exact h.ub k h1; have := h.bel.size; omega, h.ob, h.gb⟩
theorem SAt.ext (h : SAt W gs g n EA len c w u ov hs outs) (hb : Below w.heap.size w w') : SAt W gs g n EA len c w' u ov hs outs :=
  ⟨h.un.new hb, h.ug, own_chg h.row (Chg.of_below hb) (fun k hk => by have := own_lt h.row hk; omega), h.blk.chg (Chg.of_below hb) (by have := h.blk.lt; omega), h.bel.trans (Below.mono hb h.bel.size), h.ub, h.ob, h.gb⟩
/-- Only the solver's own blocks have turned. -/
def SMv (gs : Nat) (w : World) (u : Uni) (ov : Value) (u' : Uni) (ov' : Value) (w' : World) : Prop := Chg (sfp u ov gs) w w' ∧ ∀ k, sfp u' ov' gs k → sfp u ov gs k ∨ w.heap.size ≤ k
theorem SMv.refl (gs : Nat) (w : World) (u : Uni) (ov : Value) : SMv gs w u ov u ov w := ⟨Chg.refl _ _, fun _ h => .inl h⟩
theorem SMv.trans (h : SMv gs w u ov u' ov' w') (h2 : SMv gs w' u' ov' u2 ov2 w2) : SMv gs w u ov u2 ov2 w2 := by
  refine ⟨?_, fun k hk => ?_⟩
  · refine ⟨h2.1.os.trans h.1.os, h2.1.tape.trans h.1.tape, h2.1.output.trans h.1.output, Nat.le_trans h.1.size h2.1.size, fun i hi hn => (h2.1.block i (Nat.lt_of_lt_of_le hi h.1.size) fun hS => ?_).trans (h.1.block i hi hn)⟩
    rcases h.2 i hS with h3 | h3
    · exact hn h3
    · omega
  · rcases h2.2 k hk with h3 | h3
    · exact h.2 k h3
    · have := h.1.size; exact .inr (by omega)
theorem SMv.ext (h : SMv gs w u ov u' ov' w') (hb : Below w'.heap.size w' w2) : SMv gs w u ov u' ov' w2 := ⟨h.1.trans (Chg.new hb (sfp u ov gs)) (fun _ _ h => h), h.2⟩
theorem SMv.union_ (hm : Moved w u u' w') : SMv gs w u ov u' ov w' := ⟨hm.2.1.mono (fun _ _ h => .inl h), fun k hk => by
  rcases hk with hk | hk
  · rcases hm.2.2 k hk with h | h
    · exact .inl (.inl h)
    · exact .inr h
  · exact .inl (.inr hk)⟩
/-- One answer more. -/
theorem SAt.push {g5 c5 : Nat} {o : Obj} {w5 : World} {b : Bool} (h : SAt W gs g n EA len c w u ov hs outs) (ho : w5.ownsRow 0 4 1 (.slice (some ⟨g5, 0, none⟩) (outs.length + 1) c5) (outs.length + 1) (outs.map Value.bool ++ [.bool b])) (hc : Chg (fun k => ov.ownBlock = some k) (w.alloc o) w5) (hat : ov.ownBlock = some g5 ∨ g5 = (w.alloc o).heap.size) :
    SAt W gs g n EA len c (w5.setCell ⟨gs, 2, none⟩ (.slice (some ⟨g5, 0, none⟩) (outs.length + 1) c5)) u (.slice (some ⟨g5, 0, none⟩) (outs.length + 1) c5) hs (outs ++ [b]) ∧
      SMv gs w u ov u (.slice (some ⟨g5, 0, none⟩) (outs.length + 1) c5) (w5.setCell ⟨gs, 2, none⟩ (.slice (some ⟨g5, 0, none⟩) (outs.length + 1) c5)) := by
  have h1 := h.ext ((Below.refl _ _).alloc (Nat.le_refl _) o)
  have u5 : UAt w5 u n hs := h1.un.chg hc (fun k hk hk2 => h.oapart hk2 hk)
  have b5 := h1.blk.chg hc h.ogapart
  have hg5 : g5 ≠ gs := by
    rcases hat with hat | hat
    · intro e; subst e; exact h.ogapart hat
    · have := h.blk.lt; simp at hat; omega
  have cc : Chg (sfp u ov gs) w (w5.setCell ⟨gs, 2, none⟩ (.slice (some ⟨g5, 0, none⟩) (outs.length + 1) c5)) :=
    ((((Chg.refl _ w).alloc o).trans (S := sfp u ov gs) hc (fun _ _ h => .inr (.inl h))).trans (chg_at w5 gs 2 _) (fun _ _ h => .inr (.inr h)))
  refine ⟨⟨u5.chg (chg_at _ _ _ _) (fun k hk e => h.gapart (e ▸ hk)), h.ug, ?_, ?_, ((Chg.of_below h.bel).trans cc (fun i _ hi => h.base hi)).below (Nat.le_refl _) (fun _ _ h => h), h.ub, fun k hk => ?_, h.gb⟩, cc, fun k hk => ?_⟩
  · have := own_far ho (p := ⟨gs, 2, none⟩) (by simp [Value.ownBlock, hg5]) (.slice (some ⟨g5, 0, none⟩) (outs.length + 1) c5)
    simpa using this
  · simpa using b5.set_ 2 (.slice (some ⟨g5, 0, none⟩) (outs.length + 1) c5)
  · have hk : g5 = k := by simpa [Value.ownBlock] using hk
    subst hk
    rcases hat with hat | hat
    · exact h.ob _ hat
    · have := h.bel.size; simp at hat; omega
  · rcases hk with hk | hk | hk
    · exact .inl (.inl hk)
    · have hk : g5 = k := by simpa [Value.ownBlock] using hk
      subst hk
      rcases hat with hat | hat
      · exact .inl (.inr (.inl hat))
      · right; simp at hat; omega
    · exact .inl (.inr (.inr hk))
end
/-- In the loop: what has been joined, what is handed on. -/
structure LpRel (W : World) (gs g n : Nat) (EA : Option Addr) (len c : Nat) (w : World) (u : Uni) (ov : Value) (hs : UF.Hs) (outs : List Bool) (low high k : Nat) (xs : List AK.Lf) (vx rv : Value) (u' : Uni) (wr : World) : Prop where
  at_ : SAt W gs g n EA len c wr u' ov (AK.joinTo low high hs (xs.take k)) outs
  mv : SMv gs w u ov u' ov wr
  rest : LRow wr rv (AK.rest low high (xs.take k))
  rnew : ∀ j, rv.ownBlock = some j → w.heap.size ≤ j
  lrow : LRow wr vx xs
section
variable {W w wr w' w2 : World} {gs g n len c low high k : Nat} {EA : Option Addr} {u u' u2 : Uni} {ov : Value} {hs : UF.Hs} {outs : List Bool} {xs : List AK.Lf} {vx rv : Value} {x : AK.Lf}
theorem LpRel.ext (h : LpRel W gs g n EA len c w u ov hs outs low high k xs vx rv u' wr) (hb : Below wr.heap.size wr w') : LpRel W gs g n EA len c w u ov hs outs low high k xs vx rv u' w' :=
  ⟨h.at_.ext hb, h.mv.ext hb, own_chg h.rest (Chg.of_below hb) (fun j hj => by have := own_lt h.rest hj; omega), h.rnew, own_chg h.lrow (Chg.of_below hb) (fun j hj => by have := own_lt h.lrow hj; omega)⟩
theorem LpRel.join (h : LpRel W gs g n EA len c w u ov hs outs low high k xs vx rv u' wr) (hx : xs[k]? = some x) (hcv : AK.cov low high x = true)
    (h1 : UAt w' u2 n (UF.join (AK.joinTo low high hs (xs.take k)) x.ed.1.toNat x.ed.2.toNat)) (hm : Moved wr u' u2 w') : LpRel W gs g n EA len c w u ov hs outs low high (k + 1) xs vx rv u2 w' := by
  have e1 : AK.joinTo low high hs (xs.take (k + 1)) = UF.join (AK.joinTo low high hs (xs.take k)) x.ed.1.toNat x.ed.2.toNat := by rw [AK.take_next hx, AK.joinTo_snoc, if_pos hcv]; rfl
  have e2 : AK.rest low high (xs.take (k + 1)) = AK.rest low high (xs.take k) := by rw [AK.take_next hx, AK.rest_snoc, if_neg (by simp [AK.cut, hcv])]
  refine ⟨by rw [e1]; exact h.at_.union_ h1 hm, h.mv.trans (SMv.union_ hm), ?_, h.rnew, own_chg h.lrow hm.2.1 (fun j hj hf => h.at_.lapart h.lrow hj (.inl hf))⟩
  rw [e2]
  exact own_chg h.rest hm.2.1 (fun j hj hf => h.at_.lapart h.rest hj (.inl hf))
theorem LpRel.skip (h : LpRel W gs g n EA len c w u ov hs outs low high k xs vx rv u' wr) (hx : xs[k]? = some x) (hcv : AK.cov low high x = false) (hct : AK.cut low high x = false) : LpRel W gs g n EA len c w u ov hs outs low high (k + 1) xs vx rv u' wr := by
  have e1 : AK.joinTo low high hs (xs.take (k + 1)) = AK.joinTo low high hs (xs.take k) := by rw [AK.take_next hx, AK.joinTo_snoc, hcv]; rfl
  have e2 : AK.rest low high (xs.take (k + 1)) = AK.rest low high (xs.take k) := by rw [AK.take_next hx, AK.rest_snoc, hct]; rfl
  exact ⟨by rw [e1]; exact h.at_, h.mv, by rw [e2]; exact h.rest, h.rnew, h.lrow⟩
theorem LpRel.len_cut (hx : xs[k]? = some x) (hct : AK.cut low high x = true) : (AK.rest low high (xs.take (k + 1))).length = (AK.rest low high (xs.take k)).length + 1 := by rw [AK.take_next hx, AK.rest_snoc, if_pos hct]; simp
theorem LpRel.push {g5 c5 : Nat} {o : Obj} {w5 : World} (h : LpRel W gs g n EA len c w u ov hs outs low high k xs vx rv u' wr) (hx : xs[k]? = some x) (hcv : AK.cov low high x = false) (hct : AK.cut low high x = true) (hlx : ∀ j, vx.ownBlock = some j → j < w.heap.size) (hW : W.heap.size ≤ w.heap.size)
    (ho : w5.ownsRow 0 154 4 (.slice (some ⟨g5, 0, none⟩) ((AK.rest low high (xs.take k)).length + 1) c5) ((AK.rest low high (xs.take k)).length + 1) (rowsOf lfV (AK.rest low high (xs.take k)) ++ lfV x))
    (hc : Chg (fun j => rv.ownBlock = some j) (wr.alloc o) w5) (hat : rv.ownBlock = some g5 ∨ g5 = (wr.alloc o).heap.size) : LpRel W gs g n EA len c w u ov hs outs low high (k + 1) xs vx (.slice (some ⟨g5, 0, none⟩) ((AK.rest low high (xs.take k)).length + 1) c5) u' w5 := by
  have e1 : AK.joinTo low high hs (xs.take (k + 1)) = AK.joinTo low high hs (xs.take k) := by rw [AK.take_next hx, AK.joinTo_snoc, hcv]; rfl
  have e2 : AK.rest low high (xs.take (k + 1)) = AK.rest low high (xs.take k) ++ [x] := by rw [AK.take_next hx, AK.rest_snoc, if_pos hct]
  have h1 := h.ext ((Below.refl _ _).alloc (Nat.le_refl _) o)
  have hap : ∀ j, sfp u' ov gs j → ¬ rv.ownBlock = some j := fun j hj hr => h.at_.lapart h.rest hr hj
  have hA := h1.at_
  have hmv : Chg (sfp u ov gs) w w5 := h1.mv.1.trans (hc.mono (S' := fun j => rv.ownBlock = some j) (fun _ _ h => h)) (fun i hi hr => by have := h.rnew i hr; omega)
  refine ⟨?_, ⟨hmv, h1.mv.2⟩, ?_, fun j hj => ?_, own_chg h1.lrow hc (fun j hj hr => by have := h.rnew j hr; have := hlx j hj; omega)⟩
  · rw [e1]
    refine ⟨hA.un.chg hc (fun j hj => hap j (.inl hj)), hA.ug, own_chg hA.row hc (fun j hj => hap j (.inr (.inl hj))), hA.blk.chg hc (hap gs (.inr (.inr rfl))), ?_, hA.ub, hA.ob, hA.gb⟩
    refine ((Chg.of_below hA.bel).trans hc (fun i hi hr => ?_)).below (Nat.le_refl _) (fun _ _ h => h)
    have := h.rnew i hr; omega
  · rw [e2]; unfold LRow
    simp only [List.length_append, List.length_singleton, rowsOf_app, rowsOf_one]
    exact ho
  · have hj : g5 = j := by simpa [Value.ownBlock] using hj
    subst hj
    rcases hat with hat | hat
    · exact h.rnew _ hat
    · have := h.mv.1.size; simp at hat; omega
end
end Go.Proofs.YtenjblonepegfaaDoor
