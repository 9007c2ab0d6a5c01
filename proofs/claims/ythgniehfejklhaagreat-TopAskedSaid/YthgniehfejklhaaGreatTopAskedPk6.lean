/-
  The solver as it lies in memory; walk of its solve. Conditions: the events lie in memory as 'EvsAt' says, nothing is wrong of them, and the lives at hand tell what is there at each time.
  Walk of (*solver).solve. Conditions: the events lie in memory as 'EvsAt' says, nothing is wrong of them, and the lives at hand tell what is there at each time.
  Walk of asks.Answers. Condition: the events lie in memory as 'EvsAt' says.
  Events that came in; rows of events; lists of truths compared; a node that there is. No conditions beyond what each says.
-/
import Derived.Test.YthgniehfejklhaaGreatBs6
import Derived.Test.YthgniehfejklhaaGreatTopAskedPk3
import Derived.Test.YthgniehfejklhaaGreatTopAskedPk1
import Derived.Test.YthgniehfejklhaaGreatTopAskedPk5
import Derived.Deep.RegionHeld3
import Derived.Test.YthgniehfejklhaaGreatBs43
import Derived.Laws.AppendOwnNone
namespace Go.Proofs.YthgniehfejklhaaGreat
open Go Go.RowKit
set_option linter.unusedVariables false

theorem infoBool1 : (Tryz.prog.info? 4).map (fun i => (i.zero, i.size, i.bytes)) = some (some (.bool false), 1, 1) := by kernel_rfl
def sfp (u : Uni) (ov : Value) (gs k : Nat) : Prop := u.fp k ∨ ov.ownBlock = some k ∨ k = gs
structure SAt (W : World) (gs g n : Nat) (EA : Option Addr) (len c : Nat) (w : World) (u : Uni) (ov : Value) (hs : UF.Hs) (outs : List Bool) : Prop where
  un : UAt w u n hs
  ug : u.g = g
  row : w.ownsRow 0 4 1 ov outs.length (outs.map Value.bool)
  blk : Blk w gs 116 #[.pointer (some ⟨g, 0, none⟩), .slice EA len c, ov]
  bel : Below W.heap.size W w
  ub : ∀ k, u.fp k → W.heap.size ≤ k
  ob : ∀ k, ov.ownBlock = some k → W.heap.size ≤ k
  gb : W.heap.size ≤ gs
section
variable {W w w' w2 : World} {gs g n len c : Nat} {EA : Option Addr} {u u' u2 : Uni} {ov ov' ov2 : Value} {hs hs' : UF.Hs} {outs outs' : List Bool} {xs : List AK.Lf} {v : Value}
/-- A row of another kind is no part of a union. -/
theorem un_apart {e : TypeId} {size m : Nat} {ys : List Value} (h : UAt w u n hs) (r : w.ownsRow 0 e size v m ys) (h1 : e ≠ 3) (h2 : e ≠ 135) {k : Nat} (hk : v.ownBlock = some k) : ¬ u.fp k := by
  rintro (hf | hf | hf | hf)
  · subst hf; exact own_ne r h.blk h2 hk
  · subst hf; exact own_neq r h.rup h1 hk rfl
  · subst hf; exact own_neq r h.rsz h1 hk rfl
  · exact own_neq r h.rdn h1 hk hf
theorem SAt.oapart (h : SAt W gs g n EA len c w u ov hs outs) {k : Nat} (hk : ov.ownBlock = some k) : ¬ u.fp k := un_apart h.un h.row (by decide) (by decide) hk
theorem SAt.gapart (h : SAt W gs g n EA len c w u ov hs outs) : ¬ u.fp gs := by
  rintro (hf | hf | hf | hf)
  · exact h.blk.ne_ h.un.blk (by decide) hf
  · exact own_ne h.un.rup h.blk (by decide) (by rw [hf]; rfl)
  · exact own_ne h.un.rsz h.blk (by decide) (by rw [hf]; rfl)
  · exact own_ne h.un.rdn h.blk (by decide) hf
theorem SAt.ogapart (h : SAt W gs g n EA len c w u ov hs outs) : ov.ownBlock ≠ some gs := own_ne h.row h.blk (by decide)
theorem SAt.lapart (h : SAt W gs g n EA len c w u ov hs outs) (r : LRow w v xs) {k : Nat} (hk : v.ownBlock = some k) : ¬ sfp u ov gs k := by
  rintro (hf | hf | hf)
  · exact un_apart h.un r (by decide) (by decide) hk hf
  · exact own_neq r h.row (by decide) hk hf
  · subst hf; exact own_ne r h.blk (by decide) hk
theorem SAt.lt (h : SAt W gs g n EA len c w u ov hs outs) {k : Nat} (hk : sfp u ov gs k) : k < w.heap.size := by
  rcases hk with hk | hk | hk
  · exact h.un.lt hk
  · exact own_lt h.row hk
  · subst hk; exact h.blk.lt
theorem SAt.base (h : SAt W gs g n EA len c w u ov hs outs) {k : Nat} (hk : sfp u ov gs k) : W.heap.size ≤ k := by
  rcases hk with hk | hk | hk
  · exact h.ub k hk
  · exact h.ob k hk
  · subst hk; exact h.gb
theorem SAt.union_ (h : SAt W gs g n EA len c w u ov hs outs) (h1 : UAt w' u' n hs') (hm : Moved w u u' w') : SAt W gs g n EA len c w' u' ov hs' outs :=
  ⟨h1, hm.1.trans h.ug, own_chg h.row hm.2.1 (fun k hk => h.oapart hk), h.blk.chg hm.2.1 h.gapart, ((Chg.of_below h.bel).trans hm.2.1 (fun i _ hi => h.ub i hi)).below (Nat.le_refl _) (fun _ _ h => h),
   fun k hk => by rcases hm.2.2 k hk with h1 | h1; exact h.ub k h1; have := h.bel.size; omega, h.ob, h.gb⟩
theorem SAt.ext (h : SAt W gs g n EA len c w u ov hs outs) (hb : Below w.heap.size w w') : SAt W gs g n EA len c w' u ov hs outs :=
  ⟨h.un.new hb, h.ug, own_chg h.row (Chg.of_below hb) (fun k hk => by have := own_lt h.row hk; omega), h.blk.chg (Chg.of_below hb) (by have := h.blk.lt; omega), h.bel.trans (Below.mono hb h.bel.size), h.ub, h.ob, h.gb⟩
/-- Only the solver's own blocks have turned. -/
def SMv (gs : Nat) (w : World) (u : Uni) (ov : Value) (u' : Uni) (ov' : Value) (w' : World) : Prop := Chg (sfp u ov gs) w w' ∧ ∀ k, sfp u' ov' gs k → sfp u ov gs k ∨ w.heap.size ≤ k
theorem SMv.refl (gs : Nat) (w : World) (u : Uni) (ov : Value) : SMv gs w u ov u ov w := ⟨Chg.refl _ _, fun _ h => .inl h⟩
theorem SMv.trans (h : SMv gs w u ov u' ov' w') (h2 : SMv gs w' u' ov' u2 ov2 w2) : SMv gs w u ov u2 ov2 w2 := by
  refine ⟨?_, fun k hk => ?_⟩
  · refine ⟨h2.1.os.trans h.1.os, h2.1.tape.trans h.1.tape, h2.1.output.trans h.1.output, Nat.le_trans h.1.size h2.1.size, fun i hi hn => (h2.1.block i (Nat.lt_of_lt_of_le hi h.1.size) fun hS => ?_).trans (h.1.block i hi hn)⟩
    rcases h.2 i hS with h3 | h3
    · exact hn h3
    · omega
  · rcases h2.2 k hk with h3 | h3
    · exact h.2 k h3
    · have := h.1.size; exact .inr (by omega)
theorem SMv.ext (h : SMv gs w u ov u' ov' w') (hb : Below w'.heap.size w' w2) : SMv gs w u ov u' ov' w2 := ⟨h.1.trans (Chg.new hb (sfp u ov gs)) (fun _ _ h => h), h.2⟩
theorem SMv.union_ (hm : Moved w u u' w') : SMv gs w u ov u' ov w' := ⟨hm.2.1.mono (fun _ _ h => .inl h), fun k hk => by
  rcases hk with hk | hk
  · rcases hm.2.2 k hk with h | h
    · exact .inl (.inl h)
    · exact .inr h
  · exact .inl (.inr hk)⟩
/-- One answer more. -/
theorem SAt.push {g5 c5 : Nat} {o : Obj} {w5 : World} {b : Bool} (h : SAt W gs g n EA len c w u ov hs outs) (ho : w5.ownsRow 0 4 1 (.slice (some ⟨g5, 0, none⟩) (outs.length + 1) c5) (outs.length + 1) (outs.map Value.bool ++ [.bool b])) (hc : Chg (fun k => ov.ownBlock = some k) (w.alloc o) w5) (hat : ov.ownBlock = some g5 ∨ g5 = (w.alloc o).heap.size) :
    SAt W gs g n EA len c (w5.setCell ⟨gs, 2, none⟩ (.slice (some ⟨g5, 0, none⟩) (outs.length + 1) c5)) u (.slice (some ⟨g5, 0, none⟩) (outs.length + 1) c5) hs (outs ++ [b]) ∧
      SMv gs w u ov u (.slice (some ⟨g5, 0, none⟩) (outs.length + 1) c5) (w5.setCell ⟨gs, 2, none⟩ (.slice (some ⟨g5, 0, none⟩) (outs.length + 1) c5)) := by
  have h1 := h.ext ((Below.refl _ _).alloc (Nat.le_refl _) o)
  have u5 : UAt w5 u n hs := h1.un.chg hc (fun k hk hk2 => h.oapart hk2 hk)
  have b5 := h1.blk.chg hc h.ogapart
  have hg5 : g5 ≠ gs := by
    rcases hat with hat | hat
    · intro e; subst e; exact h.ogapart hat
    · have := h.blk.lt; simp at hat; omega
  have cc : Chg (sfp u ov gs) w (w5.setCell ⟨gs, 2, none⟩ (.slice (some ⟨g5, 0, none⟩) (outs.length + 1) c5)) :=
    ((((Chg.refl _ w).alloc o).trans (S := sfp u ov gs) hc (fun _ _ h => .inr (.inl h))).trans (chg_at w5 gs 2 _) (fun _ _ h => .inr (.inr h)))
  refine ⟨⟨u5.chg (chg_at _ _ _ _) (fun k hk e => h.gapart (e ▸ hk)), h.ug, ?_, ?_, ((Chg.of_below h.bel).trans cc (fun i _ hi => h.base hi)).below (Nat.le_refl _) (fun _ _ h => h), h.ub, fun k hk => ?_, h.gb⟩, cc, fun k hk => ?_⟩
  · have := own_far ho (p := ⟨gs, 2, none⟩) (by simp [Value.ownBlock, hg5]) (.slice (some ⟨g5, 0, none⟩) (outs.length + 1) c5)
    simpa using this
  · simpa using b5.set_ 2 (.slice (some ⟨g5, 0, none⟩) (outs.length + 1) c5)
  · have hk : g5 = k := by simpa [Value.ownBlock] using hk
    subst hk
    rcases hat with hat | hat
    · exact h.ob _ hat
    · have := h.bel.size; simp at hat; omega
  · rcases hk with hk | hk | hk
    · exact .inl (.inl hk)
    · have hk : g5 = k := by simpa [Value.ownBlock] using hk
      subst hk
      rcases hat with hat | hat
      · exact .inl (.inr (.inl hat))
      · right; simp at hat; omega
    · exact .inl (.inr (.inr hk))
end
/-- In the loop: what has been joined, what is handed on. -/
structure LpRel (W : World) (gs g n : Nat) (EA : Option Addr) (len c : Nat) (w : World) (u : Uni) (ov : Value) (hs : UF.Hs) (outs : List Bool) (low high k : Nat) (xs : List AK.Lf) (vx rv : Value) (u' : Uni) (wr : World) : Prop where
  at_ : SAt W gs g n EA len c wr u' ov (AK.joinTo low high hs (xs.take k)) outs
  mv : SMv gs w u ov u' ov wr
  rest : LRow wr rv (AK.rest low high (xs.take k))
  rnew : ∀ j, rv.ownBlock = some j → w.heap.size ≤ j
  lrow : LRow wr vx xs
section
variable {W w wr w' w2 : World} {gs g n len c low high k : Nat} {EA : Option Addr} {u u' u2 : Uni} {ov : Value} {hs : UF.Hs} {outs : List Bool} {xs : List AK.Lf} {vx rv : Value} {x : AK.Lf}
theorem LpRel.ext (h : LpRel W gs g n EA len c w u ov hs outs low high k xs vx rv u' wr) (hb : Below wr.heap.size wr w') : LpRel W gs g n EA len c w u ov hs outs low high k xs vx rv u' w' :=
  ⟨h.at_.ext hb, h.mv.ext hb, own_chg h.rest (Chg.of_below hb) (fun j hj => by have := own_lt h.rest hj; omega), h.rnew, own_chg h.lrow (Chg.of_below hb) (fun j hj => by have := own_lt h.lrow hj; omega)⟩
theorem LpRel.join (h : LpRel W gs g n EA len c w u ov hs outs low high k xs vx rv u' wr) (hx : xs[k]? = some x) (hcv : AK.cov low high x = true)
    (h1 : UAt w' u2 n (UF.join (AK.joinTo low high hs (xs.take k)) x.ed.1.toNat x.ed.2.toNat)) (hm : Moved wr u' u2 w') : LpRel W gs g n EA len c w u ov hs outs low high (k + 1) xs vx rv u2 w' := by
  have e1 : AK.joinTo low high hs (xs.take (k + 1)) = UF.join (AK.joinTo low high hs (xs.take k)) x.ed.1.toNat x.ed.2.toNat := by rw [AK.take_next hx, AK.joinTo_snoc, if_pos hcv]; rfl
  have e2 : AK.rest low high (xs.take (k + 1)) = AK.rest low high (xs.take k) := by rw [AK.take_next hx, AK.rest_snoc, if_neg (by simp [AK.cut, hcv])]
  refine ⟨by rw [e1]; exact h.at_.union_ h1 hm, h.mv.trans (SMv.union_ hm), ?_, h.rnew, own_chg h.lrow hm.2.1 (fun j hj hf => h.at_.lapart h.lrow hj (.inl hf))⟩
  rw [e2]
  exact own_chg h.rest hm.2.1 (fun j hj hf => h.at_.lapart h.rest hj (.inl hf))
theorem LpRel.skip (h : LpRel W gs g n EA len c w u ov hs outs low high k xs vx rv u' wr) (hx : xs[k]? = some x) (hcv : AK.cov low high x = false) (hct : AK.cut low high x = false) : LpRel W gs g n EA len c w u ov hs outs low high (k + 1) xs vx rv u' wr := by
  have e1 : AK.joinTo low high hs (xs.take (k + 1)) = AK.joinTo low high hs (xs.take k) := by rw [AK.take_next hx, AK.joinTo_snoc, hcv]; rfl
  have e2 : AK.rest low high (xs.take (k + 1)) = AK.rest low high (xs.take k) := by rw [AK.take_next hx, AK.rest_snoc, hct]; rfl
  exact ⟨by rw [e1]; exact h.at_, h.mv, by rw [e2]; exact h.rest, h.rnew, h.lrow⟩
theorem LpRel.len_cut (hx : xs[k]? = some x) (hct : AK.cut low high x = true) : (AK.rest low high (xs.take (k + 1))).length = (AK.rest low high (xs.take k)).length + 1 := by rw [AK.take_next hx, AK.rest_snoc, if_pos hct]; simp
theorem LpRel.push {g5 c5 : Nat} {o : Obj} {w5 : World} (h : LpRel W gs g n EA len c w u ov hs outs low high k xs vx rv u' wr) (hx : xs[k]? = some x) (hcv : AK.cov low high x = false) (hct : AK.cut low high x = true) (hlx : ∀ j, vx.ownBlock = some j → j < w.heap.size) (hW : W.heap.size ≤ w.heap.size)
    (ho : w5.ownsRow 0 162 4 (.slice (some ⟨g5, 0, none⟩) ((AK.rest low high (xs.take k)).length + 1) c5) ((AK.rest low high (xs.take k)).length + 1) (rowsOf lfV (AK.rest low high (xs.take k)) ++ lfV x))
    (hc : Chg (fun j => rv.ownBlock = some j) (wr.alloc o) w5) (hat : rv.ownBlock = some g5 ∨ g5 = (wr.alloc o).heap.size) : LpRel W gs g n EA len c w u ov hs outs low high (k + 1) xs vx (.slice (some ⟨g5, 0, none⟩) ((AK.rest low high (xs.take k)).length + 1) c5) u' w5 := by
  have e1 : AK.joinTo low high hs (xs.take (k + 1)) = AK.joinTo low high hs (xs.take k) := by rw [AK.take_next hx, AK.joinTo_snoc, hcv]; rfl
  have e2 : AK.rest low high (xs.take (k + 1)) = AK.rest low high (xs.take k) ++ [x] := by rw [AK.take_next hx, AK.rest_snoc, if_pos hct]
  have h1 := h.ext ((Below.refl _ _).alloc (Nat.le_refl _) o)
  have hap : ∀ j, sfp u' ov gs j → ¬ rv.ownBlock = some j := fun j hj hr => h.at_.lapart h.rest hr hj
  have hA := h1.at_
  have hmv : Chg (sfp u ov gs) w w5 := h1.mv.1.trans (hc.mono (S' := fun j => rv.ownBlock = some j) (fun _ _ h => h)) (fun i hi hr => by have := h.rnew i hr; omega)
  refine ⟨?_, ⟨hmv, h1.mv.2⟩, ?_, fun j hj => ?_, own_chg h1.lrow hc (fun j hj hr => by have := h.rnew j hr; have := hlx j hj; omega)⟩
  · rw [e1]
    refine ⟨hA.un.chg hc (fun j hj => hap j (.inl hj)), hA.ug, own_chg hA.row hc (fun j hj => hap j (.inr (.inl hj))), hA.blk.chg hc (hap gs (.inr (.inr rfl))), ?_, hA.ub, hA.ob, hA.gb⟩
    refine ((Chg.of_below hA.bel).trans hc (fun i hi hr => ?_)).below (Nat.le_refl _) (fun _ _ h => h)
    have := h.rnew i hr; omega
  · rw [e2]; unfold LRow
    simp only [List.length_append, List.length_singleton, rowsOf_app, rowsOf_one]
    exact ho
  · have hj : g5 = j := by simpa [Value.ownBlock] using hj
    subst hj
    rcases hat with hat | hat
    · exact h.rnew _ hat
    · have := h.mv.1.size; simp at hat; omega
end
end Go.Proofs.YthgniehfejklhaaGreat
namespace Go.Proofs.YthgniehfejklhaaGreat
open Go Go.RowKit
set_option linter.unusedVariables false

def SvPost (W : World) (gs g n : Nat) (EA : Option Addr) (len c : Nat) (w : World) (u : Uni) (ov : Value) (hs : UF.Hs) (outs : List Bool) (e : Ending) (w' : World) : Prop :=
  ∃ u' ov', e = .returned .nilIface ∧ SAt W gs g n EA len c w' u' ov' hs outs ∧ SMv gs w u ov u' ov' w'
def SvAsks (W : World) (gs g n : Nat) (EA : Option Addr) (len c : Nat) (l : List AK.Ev) (d : Nat) : Prop :=
  ∀ (low high : Nat) (w : World) (u : Uni) (ov : Value) (hs : UF.Hs) (outs : List Bool) (A : Option Addr) (m cx : Nat) (xs : List AK.Lf) (es : List (Nat × Nat)),
    high - low < d → low ≤ high → high ≤ len → outs.length ≤ low → xs.length = m → m ≤ 120 → SAt W gs g n EA len c w u ov hs outs → LRow w (.slice A m cx) xs →
    (∀ x ∈ xs, (0 ≤ x.ed.1 ∧ x.ed.1 < n ∧ 0 ≤ x.ed.2 ∧ x.ed.2 < n) ∧ x.fr ≤ 120 ∧ x.til ≤ 120) → UF.Tells hs es → AK.Fits l es xs low high →
    Calls Tryz.prog 57 #[.pointer (some ⟨gs, 0, none⟩), .int .i64 low, .int .i64 high, .slice A m cx] w (SvPost W gs g n EA len c w u ov hs (outs ++ AK.asked l low (high - low)))

set_option maxHeartbeats 4000000 in
set_option maxRecDepth 100000 in
theorem solve_step (W : World) (gs g n : Nat) (EA : Option Addr) (len c : Nat) (l : List AK.Ev) (hl : l.length = len) (hev : EvsAt W EA l) (hgd : AK.Good (n : Int) l) (d : Nat) (ih : SvAsks W gs g n EA len c l d) : SvAsks W gs g n EA len c l (d + 1) := by
  intro low high w u ov hs outs A m cx xs es hd hlh hh hol hxm hm hS hX hin hT hF
  have HL := Lib.hid hl
  have HEV := Lib.hid hev
  have HGD := Lib.hid hgd
  have IH := Lib.hid ih
  have HS := Lib.hid hS
  have HX := Lib.hid hX
  have HIN := Lib.hid hin
  have HT := Lib.hid hT
  have HF := Lib.hid hF
  have HXM := Lib.hid hxm
  have HWW := Lib.hid hS.bel.size
  have HLX : Hid (∀ j, (Value.slice A m cx).ownBlock = some j → j < w.heap.size) := fun j hj => own_lt hX hj
  have hlm : len ≤ 120 := by have := hgd.2.2.1; omega
  have c0 : w.cell? ⟨gs, 0, none⟩ = some (.pointer (some ⟨g, 0, none⟩)) := hS.blk.cell 0
  clear hl hev hgd ih hS hX hin hT hF hxm
  by_cases h0 : low = high
  · have e0 : ((low : Int) == (high : Int)) = true := by simp [h0]
    have hp : Hid (outs ++ AK.asked l low (high - low) = outs) := by unfold Hid; rw [h0, Nat.sub_self, AK.asked, List.append_nil]
    clear h0
    go_enter Tryz.func57, Tryz.ntmps57
    go_wp2
    go_ret
    rw [hp.out]
    exact ⟨u, ov, rfl, HS.out, SMv.refl _ _ _ _⟩
  · have e0 : ((low : Int) == (high : Int)) = false := by rw [beq_eq_false_iff_ne]; omega
    have hlt : low < high := by omega
    clear h0
    go_enter Tryz.func57, Tryz.ntmps57
    go_wp2_with fail
    refine (mark_in HS.out.un HS.out.ug).mono ?_
    rintro e w' ⟨rfl, rfl⟩
    go_wp2
    go_loopw [31, 10] (fun v s wr => ∃ (k nr : Nat) (A' : Option Addr) (c' : Nat) (u' : Uni), k ≤ m ∧ v = .int .i64 k ∧ s = .slice A' nr c' ∧ nr = (AK.rest low high (xs.take k)).length ∧ LpRel W gs g n EA len c w u ov hs outs low high k xs (.slice A m cx) s u' wr) (fun v _ _ => m - (intOf v).toNat)
    case atStart =>
      exact ⟨0, 0, none, 0, u, by omega, rfl, rfl, rfl, by simpa [AK.joinTo] using HS.out, SMv.refl _ _ _ _, World.ownsRow_nil _ _ _ _, by simp [Value.ownBlock], HX.out⟩
    case round =>
      obtain ⟨k, nr, A', c', u', hk, rfl, rfl, hnr, hR⟩ := hrel
      have HR := Lib.hid hR
      have HNR := Lib.hid hnr
      have hnr120 : nr ≤ 120 := by rw [hnr]; unfold AK.rest; have h1 := List.length_filter_le (AK.cut low high) (xs.take k); have h2 : (xs.take k).length ≤ k := List.length_take_le _ _; omega
      clear hR hnr
      by_cases hkm : k < m
      · obtain ⟨x, hx⟩ : ∃ x, xs[k]? = some x := ⟨_, List.getElem?_eq_getElem (by have := HXM.out; omega)⟩
        have hxin := HIN.out x (List.mem_of_getElem? hx)
        have hrow : wr.ownsRow 0 162 4 (.slice A m cx) m (rowsOf lfV xs) := by have := HR.out.lrow; unfold LRow at this; rwa [HXM.out] at this
        obtain ⟨gx, cg, hv, hcg, _⟩ := own_form hrow (by omega)
        simp only [Value.slice.injEq] at hv
        obtain ⟨rfl, _, rfl⟩ := hv
        have y0 := (World.ownsRow.cellAt hrow (k * 4 + 0) (by omega)).trans (rowsOf_get (f := lfV) (S := 4) (fun a _ => lfV_len a) hx (j := 0) rfl)
        have y1 := (World.ownsRow.cellAt hrow (k * 4 + 1) (by omega)).trans (rowsOf_get (f := lfV) (S := 4) (fun a _ => lfV_len a) hx (j := 1) rfl)
        have y2 := (World.ownsRow.cellAt hrow (k * 4 + 2) (by omega)).trans (rowsOf_get (f := lfV) (S := 4) (fun a _ => lfV_len a) hx (j := 2) rfl)
        have y3 := (World.ownsRow.cellAt hrow (k * 4 + 3) (by omega)).trans (rowsOf_get (f := lfV) (S := 4) (fun a _ => lfV_len a) hx (j := 3) rfl)
        simp only [Nat.add_zero] at y0
        obtain ⟨⟨xa, xb⟩, fr, tl⟩ := x
        simp only at y0 y1 y2 y3 hxin
        have HXK := Lib.hid hx
        have c0' : wr.cell? ⟨gs, 0, none⟩ = some (.pointer (some ⟨g, 0, none⟩)) := HR.out.at_.blk.cell 0
        have lgs := HR.out.at_.blk.lt
        have HA := Lib.hid (HR.out.ext ((Below.refl _ _).alloc (Nat.le_refl _) (.cells #[.int .i64 xa, .int .i64 xb, .int .i64 (fr : Nat), .int .i64 (tl : Nat)] 162)))
        obtain ⟨⟨q1, q2, q3, q4⟩, q5, q6⟩ := hxin
        clear hx hrow
        by_cases hcv : fr ≤ low ∧ high ≤ tl
        · obtain ⟨v1, v2⟩ := hcv
          have HCV : Hid (AK.cov low high ⟨(xa, xb), fr, tl⟩ = true) := by simp [AK.cov, Hid, v1, v2]
          go_wp2
          have d0 : (wr.alloc (.cells #[.int .i64 xa, .int .i64 xb, .int .i64 (fr : Nat), .int .i64 (tl : Nat)] 162)).cell? ⟨wr.heap.size, 0, none⟩ = some (.int .i64 xa) := (Blk.new wr 162 #[.int .i64 xa, .int .i64 xb, .int .i64 (fr : Nat), .int .i64 (tl : Nat)]).cell 0
          have d1 : (wr.alloc (.cells #[.int .i64 xa, .int .i64 xb, .int .i64 (fr : Nat), .int .i64 (tl : Nat)] 162)).cell? ⟨wr.heap.size, 1, none⟩ = some (.int .i64 xb) := (Blk.new wr 162 #[.int .i64 xa, .int .i64 xb, .int .i64 (fr : Nat), .int .i64 (tl : Nat)]).cell 1
          have c0'' : (wr.alloc (.cells #[.int .i64 xa, .int .i64 xb, .int .i64 (fr : Nat), .int .i64 (tl : Nat)] 162)).cell? ⟨gs, 0, none⟩ = some (.pointer (some ⟨g, 0, none⟩)) := HA.out.at_.blk.cell 0
          have DD := Lib.hid (Blk.new wr 162 #[.int .i64 xa, .int .i64 xb, .int .i64 (fr : Nat), .int .i64 (tl : Nat)])
          have NF : Hid (¬ u'.fp wr.heap.size) := fun hf => by have := HR.out.at_.un.lt hf; omega
          generalize wr.alloc (.cells #[.int .i64 xa, .int .i64 xb, .int .i64 (fr : Nat), .int .i64 (tl : Nat)] 162) = w9 at HA d0 d1 c0'' DD ⊢
          go_region_held3 (fun w' => w'.cell? ⟨gs, 0, none⟩ = some (.pointer (some ⟨g, 0, none⟩)) ∧ w'.cell? ⟨wr.heap.size, 0, none⟩ = some (.int .i64 xa) ∧ w'.cell? ⟨wr.heap.size, 1, none⟩ = some (.int .i64 xb)) (go_keep)
            ((go_at_call 36; refine (join_in (HA.out.at_.un.drew) HA.out.at_.ug xa xb ⟨q1, q2⟩ ⟨q3, q4⟩).mono ?_; rintro e w' ⟨u2, rfl, hu2, hm2⟩; have HZ := Lib.hid ((HA.out.ext (Below.refl _ _).drew).join HXK.out HCV.out hu2 hm2); have p0 : w'.cell? ⟨gs, 0, none⟩ = some (.pointer (some ⟨g, 0, none⟩)) := HZ.out.at_.blk.cell 0; have p1 : w'.cell? ⟨wr.heap.size, 0, none⟩ = some (.int .i64 xa) := (DD.out.drew.chg hm2.2.1 NF.out).cell 0; have p2 : w'.cell? ⟨wr.heap.size, 1, none⟩ = some (.int .i64 xb) := (DD.out.drew.chg hm2.2.1 NF.out).cell 1; clear hu2 hm2))
          have HLN : Hid ((AK.rest low high (xs.take (k + 1))).length = nr) := by rw [HNR.out, AK.take_next HXK.out, AK.rest_snoc, if_neg (by simp [AK.cut, HCV.out])]; rfl
          go_wp2
          go_roundw
          case rel => exact ⟨k + 1, nr, A', c', u2, by omega, by go_num, rfl, HLN.out.symm, HZ.out⟩
          case measure => simp [intOf]; omega
        · have HCV : Hid (AK.cov low high ⟨(xa, xb), fr, tl⟩ = false) := by simp [AK.cov, Hid]; omega
          rcases (show ¬ fr ≤ low ∨ (fr ≤ low ∧ ¬ high ≤ tl) by omega) with v1 | ⟨v1, v2⟩
          all_goals
            clear hcv
            by_cases hct : fr < high ∧ low < tl
            · obtain ⟨v3, v4⟩ := hct
              have HCT : Hid (AK.cut low high ⟨(xa, xb), fr, tl⟩ = true) := by have := HCV.out; simp [AK.cut, Hid, this, v3, v4]
              have hown : (wr.alloc (.cells #[.int .i64 xa, .int .i64 xb, .int .i64 (fr : Nat), .int .i64 (tl : Nat)] 162)).ownsRow 0 162 4 (.slice A' nr c') nr (rowsOf lfV (AK.rest low high (xs.take k))) := by
                have := HA.out.rest; unfold LRow at this; rwa [← HNR.out] at this
              have HOWN := Lib.hid (hown.alloc (.cells (lfV ⟨(xa, xb), fr, tl⟩).toArray 162))
              clear hown
              go_wp2_with (first
                | (at_builtin; refine wpList_pushS _ rfl (.tmp 74) (.tmp 76) 118 rfl 162 _ 4 32 Tryz.underlying118 infoLife rfl (by decide) _ _ _ rfl HOWN.out ⟨by omega, by omega⟩ (lfV ⟨(xa, xb), fr, tl⟩) (wr.heap.size + 1) rfl rfl (news_cells (by simp) _ _) (by simp [lfV, Value.oneCell']) ?_; intro g5 c5 w5 ho5 hc5 hat5 _; have HZ := Lib.hid (HA.out.push HXK.out HCV.out HCT.out HLX.out HWW.out (by rw [← HNR.out]; exact ho5) hc5 hat5); clear ho5 hc5 hat5))
              have HLN : Hid ((AK.rest low high (xs.take (k + 1))).length = nr + 1) := by rw [HNR.out]; exact LpRel.len_cut HXK.out HCT.out
              have HZZ : Hid (LpRel W gs g n EA len c w u ov hs outs low high (k + 1) xs (.slice (some ⟨gx, 0, none⟩) m cx) (.slice (some ⟨g5, 0, none⟩) (nr + 1) c5) u' w5) := by have := HZ.out; rwa [← HNR.out] at this
              go_roundw
              case rel => exact ⟨k + 1, nr + 1, some ⟨g5, 0, none⟩, c5, u', by omega, by go_num, rfl, HLN.out.symm, HZZ.out⟩
              case measure => simp [intOf]; omega
            · have HCT : Hid (AK.cut low high ⟨(xa, xb), fr, tl⟩ = false) := by have := HCV.out; simp [AK.cut, Hid, this]; omega
              have HZ := Lib.hid (HA.out.skip HXK.out HCV.out HCT.out)
              have HLN : Hid ((AK.rest low high (xs.take (k + 1))).length = nr) := by rw [HNR.out, AK.take_next HXK.out, AK.rest_snoc, HCT.out]; rfl
              rcases (show ¬ fr < high ∨ (fr < high ∧ ¬ low < tl) by omega) with v3 | ⟨v3, v4⟩
              all_goals first
                | (exfalso; omega)
                | (clear hct
                   go_wp2
                   go_roundw
                   case rel => exact ⟨k + 1, nr, A', c', u', by omega, by go_num, rfl, HLN.out.symm, HZ.out⟩
                   case measure => simp [intOf]; omega)
      · have hkk : k = m := by omega
        have hR := HR.out
        have hnr' := HNR.out
        rw [hkk] at hR hnr'
        have htk : xs.take m = xs := List.take_of_length_le (by rw [HXM.out]; exact Nat.le_refl _)
        rw [htk] at hnr'
        have HR' : Hid (LpRel W gs g n EA len c w u ov hs outs low high m xs (.slice A m cx) (.slice A' nr c') u' wr) := hR
        have HTK := Lib.hid htk
        clear htk
        have HNR' := Lib.hid hnr'
        have ok' : UF.Tells (AK.joinTo low high hs xs) _ := AK.tells_joinTo low high xs hs es HT.out
        have HT' := Lib.hid ok'
        obtain ⟨bk1, bk2⟩ := AK.joinTo_back low high xs hs
        have BK1 := Lib.hid bk1
        have BK2 := Lib.hid bk2
        have c0' : wr.cell? ⟨gs, 0, none⟩ = some (.pointer (some ⟨g, 0, none⟩)) := hR.at_.blk.cell 0
        have c1' : wr.cell? ⟨gs, 1, none⟩ = some (.slice EA len c) := hR.at_.blk.cell 1
        have c2' : wr.cell? ⟨gs, 2, none⟩ = some ov := hR.at_.blk.cell 2
        have lgs := hR.at_.blk.lt
        have fz2 := hR.at_.blk.frozen 2
        clear hR hnr' hkk HR HNR ok' bk1 bk2
        by_cases h1 : high = low + 1
        · subst h1
          have e1 : (((low + 1 : Nat) : Int) - (low : Int) == 1) = true := by simp; omega
          obtain ⟨e, he⟩ : ∃ e, l[low]? = some e := ⟨_, List.getElem?_eq_getElem (by have := HL.out; omega)⟩
          have hbad := HGD.out.2.2.2 low e he
          rcases (HEV.out.ext (HR'.out.at_.bel)) with h0 | ⟨b, off, rfl, hbl, hev⟩
          · rw [h0] at he; simp at he
          obtain ⟨x1, x2, x3⟩ := hev low e he
          obtain ⟨ew, ea, eb⟩ := e
          simp only at x1 x2 x3
          have hin := AK.good_in hbad
          have HE := Lib.hid he
          have z0 : (0 : Int) ≤ (low : Int) := by omega
          have z1 : (low : Int) < (len : Int) := by omega
          clear hev he hbad
          have hSA : SAt W gs g n (some ⟨b, off, none⟩) len c wr u' ov (AK.joinTo low (low + 1) hs xs) outs := by have := HR'.out.at_; rwa [HTK.out] at this
          have HSA := Lib.hid (hSA.ext ((Below.refl _ _).alloc (Nat.le_refl _) (.cells #[.int .i64 ew, .int .i64 ea, .int .i64 eb] 51)))
          have HMV := Lib.hid (HR'.out.mv.ext ((Below.refl _ _).alloc (Nat.le_refl _) (.cells #[.int .i64 ew, .int .i64 ea, .int .i64 eb] 51)))
          have d1 : (wr.alloc (.cells #[.int .i64 ew, .int .i64 ea, .int .i64 eb] 51)).cell? ⟨wr.heap.size, 1, none⟩ = some (.int .i64 ea) := (Blk.new wr 51 #[.int .i64 ew, .int .i64 ea, .int .i64 eb]).cell 1
          have d2 : (wr.alloc (.cells #[.int .i64 ew, .int .i64 ea, .int .i64 eb] 51)).cell? ⟨wr.heap.size, 2, none⟩ = some (.int .i64 eb) := (Blk.new wr 51 #[.int .i64 ew, .int .i64 ea, .int .i64 eb]).cell 2
          have d0 : (wr.alloc (.cells #[.int .i64 ew, .int .i64 ea, .int .i64 eb] 51)).cell? ⟨gs, 0, none⟩ = some (.pointer (some ⟨g, 0, none⟩)) := HSA.out.blk.cell 0
          have DD := Lib.hid (Blk.new wr 51 #[.int .i64 ew, .int .i64 ea, .int .i64 eb])
          have ZW := Lib.hid (show wr.heap.size < (wr.alloc (.cells #[.int .i64 ew, .int .i64 ea, .int .i64 eb] 51)).heap.size by simp)
          clear hSA
          by_cases hw : ew = 3
          · have W3 := Lib.hid hw
            have hw' : (ew == 3) = true := by simpa using hw
            have hlf : Hid ((UF.rt (AK.joinTo low (low + 1) hs xs) ea.toNat == UF.rt (AK.joinTo low (low + 1) hs xs) eb.toNat) = AK.ansAt l low) := by
              have := AK.Fits.leaf HF.out HT.out
              rwa [List.getD_eq_getElem?_getD, HE.out] at this
            have hask : Hid (AK.asked l low (low + 1 - low) = [AK.ansAt l low]) := by
              unfold Hid
              rw [show low + 1 - low = 1 by omega, AK.asked, AK.asked, Nat.add_zero, List.getD_eq_getElem?_getD, HE.out, Option.getD_some, if_pos W3.out]; rfl
            clear hw
            go_wp2
            generalize wr.alloc (.cells #[.int .i64 ew, .int .i64 ea, .int .i64 eb] 51) = w9 at HSA HMV d0 d1 d2 DD ZW ⊢
            go_region_held3 (fun w' => w'.cell? ⟨gs, 0, none⟩ = some (.pointer (some ⟨g, 0, none⟩)) ∧ w'.cell? ⟨wr.heap.size, 1, none⟩ = some (.int .i64 ea) ∧ w'.cell? ⟨wr.heap.size, 2, none⟩ = some (.int .i64 eb)) (go_keep)
              ((go_at_call 38; refine (same_in (HSA.out.un.drew) HSA.out.ug ea eb ⟨hin.2.2.1, hin.2.2.2.1⟩ ⟨hin.2.2.2.2.1, hin.2.2.2.2.2⟩).mono ?_; rintro e w' ⟨rfl, hb⟩; have HS2 := Lib.hid (HSA.out.ext ((Below.refl _ _).drew.trans hb)); have HM2 := Lib.hid (HMV.out.ext ((Below.refl _ _).drew.trans hb)); have p0 : w'.cell? ⟨gs, 0, none⟩ = some (.pointer (some ⟨g, 0, none⟩)) := HS2.out.blk.cell 0; have p1 : w'.cell? ⟨wr.heap.size, 1, none⟩ = some (.int .i64 ea) := (DD.out.drew.chg (Chg.of_below hb) (by have := ZW.out; simp; omega)).cell 1; have p2 : w'.cell? ⟨wr.heap.size, 2, none⟩ = some (.int .i64 eb) := (DD.out.drew.chg (Chg.of_below hb) (by have := ZW.out; simp; omega)).cell 2; clear hb))
            rw [hlf.out]
            have p3 : w'.cell? ⟨gs, 2, none⟩ = some ov := HS2.out.blk.cell 2
            have f3 := HS2.out.blk.frozen 2
            clear p1 p2
            go_wp2_with (first
              | (at_builtin; refine wpList_push _ rfl (.tmp 112) (.tmp 114) 45 rfl 4 (.bool false) 1 Tryz.underlying45 infoBool1 rfl _ _ _ rfl (HS2.out.row.alloc _) ⟨by omega, by omega⟩ (.bool (AK.ansAt l low)) w'.heap.size rfl (cell_new1 rfl _ _) rfl ?_; intro g5 c5 w5 ho5 hc5 hat5 _; have b5 := (HS2.out.blk.alloc (.cells #[.bool (AK.ansAt l low)] 4)).chg hc5 HS2.out.ogapart; have q3 : w5.cell? ⟨gs, 2, none⟩ = some ov := b5.cell 2; have q4 := b5.frozen 2; have q5 : w5.cell? ⟨gs, 0, none⟩ = some (.pointer (some ⟨g, 0, none⟩)) := b5.cell 0; have HP := Lib.hid (HS2.out.push ho5 hc5 hat5); clear b5 ho5 hc5 hat5))
            refine (back_in HP.out.1.un HP.out.1.ug hs.length BK2.out).mono ?_
            rintro e w8 ⟨u4, rfl, hu4, hm4⟩
            rw [BK1.out] at hu4
            have HZ := Lib.hid (HP.out.1.union_ hu4 hm4)
            have HMZ := Lib.hid ((HM2.out.trans HP.out.2).trans (SMv.union_ hm4))
            clear hu4 hm4
            go_wp2
            go_ret
            rw [hask.out]
            exact ⟨u4, _, rfl, HZ.out, HMZ.out⟩
          · have W3 := Lib.hid hw
            have hw' : (ew == 3) = false := by simpa using hw
            have hask : Hid (AK.asked l low (low + 1 - low) = []) := by
              unfold Hid
              rw [show low + 1 - low = 1 by omega, AK.asked, AK.asked, Nat.add_zero, List.getD_eq_getElem?_getD, HE.out, Option.getD_some, if_neg W3.out]; rfl
            clear hw
            go_wp2_with fail
            refine (back_in HSA.out.un HSA.out.ug hs.length BK2.out).mono ?_
            rintro e w' ⟨u4, rfl, hu4, hm4⟩
            rw [BK1.out] at hu4
            have HZ := Lib.hid (HSA.out.union_ hu4 hm4)
            have HMZ := Lib.hid (HMV.out.trans (SMv.union_ hm4))
            clear hu4 hm4
            go_wp2
            go_ret
            rw [hask.out, List.append_nil]
            exact ⟨u4, ov, rfl, HZ.out, HMZ.out⟩
        · have e1 : ((high : Int) - (low : Int) == 1) = false := by rw [beq_eq_false_iff_ne]; omega
          obtain ⟨mid, hmid⟩ : ∃ mid, mid = (low + high) / 2 := ⟨_, rfl⟩
          have hm1 : low < mid := by omega
          have hm2 : mid < high := by omega
          have hme : ((low : Int) + (high : Int)) / 2 = (mid : Int) := by omega
          have HME := Lib.hid hme
          have HMID := Lib.hid hmid
          have hSA : SAt W gs g n EA len c wr u' ov (AK.joinTo low high hs xs) outs := by have := HR'.out.at_; rwa [HTK.out] at this
          have HSA := Lib.hid hSA
          have HMV := Lib.hid HR'.out.mv
          have hRW : LRow wr (.slice A' nr c') (AK.rest low high xs) := by have := HR'.out.rest; rwa [HTK.out] at this
          have HRW := Lib.hid hRW
          have hin' : ∀ x ∈ AK.rest low high xs, (0 ≤ x.ed.1 ∧ x.ed.1 < n ∧ 0 ≤ x.ed.2 ∧ x.ed.2 < n) ∧ x.fr ≤ 120 ∧ x.til ≤ 120 := fun x hx => HIN.out x (List.mem_filter.1 hx).1
          have HIN' := Lib.hid hin'
          have HFA := Lib.hid (HF.out.sub (a := low) (b := mid) (Nat.le_refl _) (by omega))
          have HFB := Lib.hid (HF.out.sub (a := mid) (b := high) (by omega) (Nat.le_refl _))
          have halen := AK.asked_len l low (mid - low)
          have hsum : Hid (outs ++ AK.asked l low (mid - low) ++ AK.asked l mid (high - mid) = outs ++ AK.asked l low (high - low)) := by
            unfold Hid
            have := AK.asked_add l low (mid - low) (high - mid)
            rw [show mid - low + (high - mid) = high - low by omega, show low + (mid - low) = mid by omega] at this
            rw [this, List.append_assoc]
          clear hmid hme hSA hRW hin'
          go_wp2_with fail
          rw [HME.out]
          refine (IH.out low mid wr u' ov _ outs A' nr c' (AK.rest low high xs) _ (by omega) (by omega) (by omega) hol HNR'.out.symm (by omega) HSA.out HRW.out HIN'.out HT'.out HFA.out).mono ?_
          rintro e w2 ⟨u2, ov2, rfl, hs2, hv2⟩
          have HS2 := Lib.hid hs2
          have HM2 := Lib.hid (HMV.out.trans hv2)
          have HRW2 : Hid (LRow w2 (.slice A' nr c') (AK.rest low high xs)) := own_chg HRW.out hv2.1 (fun j hj hf => HSA.out.lapart HRW.out hj hf)
          clear hs2 hv2
          go_wp2_with fail
          refine (IH.out mid high w2 u2 ov2 _ _ A' nr c' (AK.rest low high xs) _ (by omega) (by omega) (by omega) (by rw [List.length_append]; omega) HNR'.out.symm (by omega) HS2.out HRW2.out HIN'.out HT'.out HFB.out).mono ?_
          rintro e w3 ⟨u3, ov3, rfl, hs3, hv3⟩
          rw [hsum.out] at hs3
          have HS3 := Lib.hid hs3
          have HM3 := Lib.hid (HM2.out.trans hv3)
          have c03 : w3.cell? ⟨gs, 0, none⟩ = some (.pointer (some ⟨g, 0, none⟩)) := HS3.out.blk.cell 0
          clear hs3 hv3
          go_wp2_with fail
          refine (back_in HS3.out.un HS3.out.ug hs.length BK2.out).mono ?_
          rintro e w8 ⟨u4, rfl, hu4, hm4⟩
          rw [BK1.out] at hu4
          have HZ := Lib.hid (HS3.out.union_ hu4 hm4)
          have HMZ := Lib.hid (HM3.out.trans (SMv.union_ hm4))
          clear hu4 hm4
          go_wp2
          go_ret
          exact ⟨u4, ov3, rfl, HZ.out, HMZ.out⟩
theorem solve_any (W : World) (gs g n : Nat) (EA : Option Addr) (len c : Nat) (l : List AK.Ev) (hl : l.length = len) (hev : EvsAt W EA l) (hgd : AK.Good (n : Int) l) : ∀ d, SvAsks W gs g n EA len c l d
  | 0 => fun low high w u ov hs outs A m cx xs es h1 => absurd h1 (Nat.not_lt_zero _)
  | d + 1 => solve_step W gs g n EA len c l hl hev hgd d (solve_any W gs g n EA len c l hl hev hgd d)
end Go.Proofs.YthgniehfejklhaaGreat
namespace Go.Proofs.YthgniehfejklhaaGreat
open Go Go.RowKit
set_option linter.unusedVariables false

/-- What Answers answers where something is wrong, and where nothing is. -/
def AnsNo (w : World) (n : Int) (l : List AK.Ev) (x : Int) (e : Ending) (w' : World) : Prop := e = .returned (.tuple #[.slice none 0 0, aerrV x]) ∧ Below w.heap.size w w'
def AnsYes (w : World) (l : List AK.Ev) (e : Ending) (w' : World) : Prop :=
  ∃ A c, e = .returned (.tuple #[.slice A (AK.answers l).length c, .nilIface]) ∧ w'.ownsRow 0 4 1 (.slice A (AK.answers l).length c) (AK.answers l).length ((AK.answers l).map Value.bool) ∧ Below w.heap.size w w' ∧ ∀ j, (Value.slice A (AK.answers l).length c).ownBlock = some j → w.heap.size ≤ j
set_option maxHeartbeats 1000000 in
theorem answers_no (w : World) (n : Int) (A : Option Addr) (len c : Nat) (l : List AK.Ev) (hl : l.length = len) (hlm : len ≤ 9223372036854775807) (h : EvsAt w A l) (x : Int) (hx : (AK.chk n l).2 = some x) :
    Calls Tryz.prog 23 #[.int .i64 n, .slice A len c] w (AnsNo w n l x) := by
  have H := Lib.hid h
  have HL := Lib.hid hl
  have HX := Lib.hid hx
  clear h hl hx
  go_enter Tryz.func23, Tryz.ntmps23
  go_wp2_with fail
  refine (chk_any _ n A len c l HL.out hlm H.out).mono ?_
  rintro e w2 ⟨rfl, hb⟩
  rw [HX.out, show oErr (some x) = aerrV x from rfl]
  go_wp2
  go_ret2
  exact ⟨rfl, hb⟩
theorem pr_in {n : Nat} {l : List AK.Ev} (h : AK.Good (n : Int) l) : ∀ x ∈ AK.lives l, (0 ≤ x.ed.1 ∧ x.ed.1 < n ∧ 0 ≤ x.ed.2 ∧ x.ed.2 < n) ∧ x.fr ≤ 120 ∧ x.til ≤ 120 := by
  intro x hx
  obtain ⟨j, hj⟩ := List.mem_iff_getElem?.1 hx
  obtain ⟨h1, h2, h3, e, he, _, hed⟩ := (AK.lives_ok h).each j x hj
  have hb := AK.good_in (h.2.2.2 _ e he)
  have h4 := h.2.2.1
  rw [hed]
  refine ⟨?_, by omega, by omega⟩
  unfold AK.Ev.ed AK.ek
  simp only
  omega
set_option maxHeartbeats 2000000 in
set_option maxRecDepth 100000 in
theorem answers_yes (w : World) (n : Int) (A : Option Addr) (len c : Nat) (l : List AK.Ev) (hl : l.length = len) (h : EvsAt w A l) (hg : AK.Good n l) :
    Calls Tryz.prog 23 #[.int .i64 n, .slice A len c] w (AnsYes w l) := by
  obtain ⟨n, rfl⟩ := Int.eq_ofNat_of_zero_le (show 0 ≤ n by have := hg.1; omega)
  have hn1 : 0 < n := by have := hg.1; omega
  have hn2 : n ≤ 60 := by have := hg.2.1; omega
  have hlm : len ≤ 120 := by have := hg.2.2.1; omega
  have H := Lib.hid h
  have HL := Lib.hid hl
  have HG := Lib.hid hg
  clear h hl hg
  go_enter Tryz.func23, Tryz.ntmps23
  go_wp2_with fail
  refine (chk_any _ n A len c l HL.out (by omega) H.out).mono ?_
  rintro e w2 ⟨rfl, hb2⟩
  have HB2 := Lib.hid hb2
  rw [HG.out.fst, show oErr none = .nilIface from rfl]
  clear hb2
  go_wp2_with fail
  refine (new_yes _ n hn1 hn2).mono ?_
  rintro e w3 ⟨u, rfl, hu, hb3, hun⟩
  have HU := Lib.hid hu
  have HB3 := Lib.hid hb3
  have HUN := Lib.hid hun
  clear hu hb3 hun
  go_wp2_with fail
  refine (lives_any _ n A len c l HL.out ((((H.out.ext HB2.out).ext HB3.out).ext ((Below.refl _ _).alloc (Nat.le_refl _) _))) HG.out).mono ?_
  rintro e w4 ⟨LA, lc, rfl, hlr, hb4, hln⟩
  have hsz3 := HB3.out.size
  have hsz2 := HB2.out.size
  have hS : SAt w w3.heap.size u.g n A len c w4 u (.slice none 0 0) [] [] := by
    have hbb : Below w3.heap.size w3 w4 := ((Below.refl _ _).alloc (Nat.le_refl _) _).trans (Below.mono hb4 (by simp))
    refine ⟨HU.out.new hbb, rfl, World.ownsRow_nil _ _ _ _, ?_, (HB2.out.trans (Below.mono HB3.out hsz2)).trans (Below.mono hbb (by omega)), fun k hk => by have := HUN.out k hk; omega, by simp [Value.ownBlock], by omega⟩
    exact (Blk.new w3 _ _).chg (Chg.of_below hb4) (by simp)
  have HS := Lib.hid hS
  have HLR := Lib.hid hlr
  have hll : (AK.lives l).length ≤ 120 := by have := (AK.lives_ok HG.out).cnt; have := HL.out; unfold AK.lives; omega
  clear hS hlr hb4 hln
  go_wp2_with fail
  refine (solve_any w w3.heap.size u.g n A len c l HL.out H.out HG.out (len + 1) 0 len w4 u (.slice none 0 0) [] [] LA (AK.lives l).length lc (AK.lives l) [] (by omega) (by omega) (Nat.le_refl _) (Nat.le_refl _) rfl hll HS.out HLR.out (pr_in HG.out) UF.tells_nil (by have := AK.Fits.start l; rwa [HL.out] at this)).mono ?_
  rintro e w5 ⟨u5, ov5, rfl, hs5, hv5⟩
  have he : [] ++ AK.asked l 0 (len - 0) = AK.answers l := by rw [← HL.out]; rfl
  rw [he] at hs5
  obtain ⟨oA, oc, hov, _⟩ := own_slice hs5.row
  subst hov
  have hc2 : w5.cell? ⟨w3.heap.size, 2, none⟩ = some (.slice oA (AK.answers l).length oc) := hs5.blk.cell 2
  have HS5 := Lib.hid hs5
  clear hs5 hv5 he
  go_wp2
  go_ret2
  exact ⟨oA, oc, rfl, HS5.out.row, HS5.out.bel, HS5.out.ob⟩
end Go.Proofs.YthgniehfejklhaaGreat
namespace Go.Proofs.YthgniehfejklhaaGreat
open Go Go.RowKit Go.ChangeShapes Go.WideShapes
set_option linter.unusedVariables false

theorem open_none {H : Type} {enc : TypeId × Value → H} {P : Program} {w : World} {spare : Nat → Bool} {held : Bool} {t e : TypeId} {fuel : Nat} {a : Option Addr} {len cap : Nat} {x : DataW H × List MemPlace} (ht : P.underlying t = some (.slice e))
    (h : DataW.trod enc P w 0 spare held fuel t [.slice a len cap] = some x) : a = none → len = 0 ∧ cap = 0 := by
  rcases Deep.open_slice ht h with ⟨hc, _⟩ | ⟨ad, len', cap', m, n, D, Pl, hc, _⟩
  · simp at hc; obtain ⟨rfl, rfl, rfl⟩ := hc; exact fun _ => ⟨rfl, rfl⟩
  · simp at hc; obtain ⟨rfl, _, _⟩ := hc; intro h; cases h
theorem open_evs {H : Type} {enc : TypeId × Value → H} {w : World} {spare : Nat → Bool} {held : Bool} {a : Option Addr} {len cap : Nat} {d : DataW H} {p : List MemPlace} (h : DataW.Trod enc Tryz.prog w 0 spare held 22 (.slice a len cap) d p) :
    ∃ l : List AK.Ev, EvsAt w a l ∧ l.length = len ∧ len ≤ cap ∧ cap ≤ maxLen ∧ (a = none → len = 0 ∧ cap = 0) := by
  obtain ⟨fuel, hf⟩ := h
  have hno := open_none Tryz.underlying22 (show DataW.trod enc Tryz.prog w 0 spare held fuel 22 [.slice a len cap] = _ from hf)
  obtain ⟨hl, hm, h0 | ⟨b, off, rfl, hlt, n, hx⟩⟩ := open_structs Tryz.underlying22 Tryz.underlying51 (show Tryz.prog.cellsOf 51 = 3 by kernel_rfl) (by decide) (show DataW.trod enc Tryz.prog w 0 spare held fuel 22 [.slice a len cap] = _ from hf)
  · exact ⟨[], .inl rfl, h0.symm, hl, hm, hno⟩
  · have each : ∀ i, i < len → ∃ q : AK.Ev, EvAt w b (off + i * 3) q := by
      intro i hi
      obtain ⟨cs, h1, h2, h3⟩ := hx i hi
      obtain ⟨c0, c1, c2, rfl⟩ := list3 h1
      obtain ⟨y0, g0⟩ := h3 0 _ rfl
      obtain ⟨y1, g1⟩ := h3 1 _ rfl
      obtain ⟨y2, g2⟩ := h3 2 _ rfl
      simp [cellsInt] at g0 g1 g2
      obtain ⟨x0, e0, _⟩ := DataW.trod_int Tryz.underlying3 g0
      obtain ⟨x1, e1, _⟩ := DataW.trod_int Tryz.underlying3 g1
      obtain ⟨x2, e2, _⟩ := DataW.trod_int Tryz.underlying3 g2
      simp at e0 e1 e2
      subst e0; subst e1; subst e2
      exact ⟨⟨x0, x1, x2⟩, h2 0 _ rfl, h2 1 _ rfl, h2 2 _ rfl⟩
    obtain ⟨s, hs⟩ := Deep.choose_lt each
    refine ⟨(List.range len).map s, .inr ⟨b, off, rfl, hlt, fun i e he => ?_⟩, by simp, hl, hm, hno⟩
    obtain ⟨hi, rfl⟩ := List.getElem?_eq_some_iff.1 he
    simp at hi ⊢
    exact hs i hi

def evV (e : AK.Ev) : List Value := [.int .i64 e.w, .int .i64 e.a, .int .i64 e.b]
theorem evV_len (e : AK.Ev) : (evV e).length = 3 := rfl
theorem infoEvent : (Tryz.prog.info? 51).map (fun i => (i.zero, i.size, i.bytes)) = some (some (.agg #[.int .i64 0, .int .i64 0, .int .i64 0]), 3, 24) := by kernel_rfl
def ERow (w : World) (v : Value) (n : Nat) (l : List AK.Ev) : Prop := w.ownsRow 0 51 3 v n (rowsOf evV l)
theorem ERow.evs {w : World} {A : Option Addr} {n c : Nat} {l : List AK.Ev} (h : ERow w (.slice A n c) n l) (hl : l.length = n) : EvsAt w A l := by
  rcases Nat.eq_zero_or_pos n with h0 | h0
  · exact .inl (List.eq_nil_of_length_eq_zero (by omega))
  obtain ⟨g, cap, hv, _, _⟩ := own_form h h0
  simp only [Value.slice.injEq, true_and] at hv
  obtain ⟨rfl, rfl⟩ := hv
  refine .inr ⟨g, 0, rfl, own_lt h (by simp [Value.ownBlock]), fun i e he => ?_⟩
  have hi : i < n := by have := (List.getElem?_eq_some_iff.1 he).1; omega
  have key : ∀ j v, (evV e)[j]? = some v → w.cell? ⟨g, i * 3 + j, none⟩ = some v := fun j v hv => by
    have hj : j < 3 := (List.getElem?_eq_some_iff.1 hv).1
    rw [World.ownsRow.cellAt h (i * 3 + j) (by omega)]
    exact rowsOf_get (f := evV) (S := 3) (fun a _ => evV_len a) he hv
  refine ⟨?_, ?_, ?_⟩
  · have := key 0 _ rfl; simpa using this
  · have := key 1 _ rfl; simpa [Nat.add_assoc] using this
  · have := key 2 _ rfl; simpa [Nat.add_assoc] using this
theorem EvsAt.take {w : World} {A : Option Addr} {l : List AK.Ev} (h : EvsAt w A l) (k : Nat) : EvsAt w A (l.take k) := by
  rcases h with h | ⟨b, off, rfl, hl, he⟩
  · exact .inl (by rw [h]; simp)
  · refine .inr ⟨b, off, rfl, hl, fun i e hi => he i e ?_⟩
    rw [List.getElem?_take] at hi
    split at hi
    · exact hi
    · cases hi
/-- The cells of events from a place on. -/
theorem EvsAt.cells {w : World} {b off : Nat} {l : List AK.Ev} (he : ∀ (i : Nat) (e : AK.Ev), l[i]? = some e → EvAt w b (off + i * 3) e) (k d : Nat) : ∀ j u, (rowsOf evV ((l.drop k).take d))[j]? = some u → w.cell? ((⟨b, off + k * 3, none⟩ : Addr).add j) = some u := by
  intro j u hj
  rw [Addr.add_mid]
  have hlt := (List.getElem?_eq_some_iff.1 hj).1
  rw [rowsOf_len (f := evV) (S := 3) (fun a _ => evV_len a)] at hlt
  have hi : j / 3 < ((l.drop k).take d).length := by omega
  obtain ⟨e, hee⟩ : ∃ e, ((l.drop k).take d)[j / 3]? = some e := ⟨_, List.getElem?_eq_getElem hi⟩
  have hee' : l[k + j / 3]? = some e := by
    rw [List.getElem?_take] at hee
    split at hee
    · rwa [List.getElem?_drop] at hee
    · cases hee
  obtain ⟨h0, h1, h2⟩ := he _ _ hee'
  have hm : j = j / 3 * 3 + j % 3 := by omega
  have key : ∀ v, (evV e)[j % 3]? = some v → u = v := fun v hv => by
    have := rowsOf_get (f := evV) (S := 3) (fun a _ => evV_len a) hee hv
    rw [← hm, hj] at this
    exact Option.some.inj this
  have hr : j % 3 = 0 ∨ j % 3 = 1 ∨ j % 3 = 2 := by omega
  rcases hr with hr | hr | hr
  · rw [key (.int .i64 e.w) (by rw [hr]; rfl), ← h0]; congr 2; omega
  · rw [key (.int .i64 e.a) (by rw [hr]; rfl), ← h1]; congr 2; omega
  · rw [key (.int .i64 e.b) (by rw [hr]; rfl), ← h2]; congr 2; omega
theorem evV_one {l : List AK.Ev} : ∀ u ∈ rowsOf evV l, u.oneCell' = true := by
  intro u hu
  unfold rowsOf at hu
  rw [List.mem_flatMap] at hu
  obtain ⟨e, _, h⟩ := hu
  simp [evV] at h
  rcases h with rfl | rfl | rfl <;> rfl
/-! ### Truths -/
end Go.Proofs.YthgniehfejklhaaGreat
