/-
  Maps from edges to numbers that lie in memory: what they hold as a function; made, asked, written. No conditions.
-/
import Derived.Test.YtenjblonepegfaaDoorRows
import Derived.Test.YtenjblonepegfaaDoorMem
import Derived.Test.YtenjblonepegfaaDoorAk
import Derived.Maps.Own
import Derived.Maps.Views
import Derived.DeepKeys4
import Derived.WalkKit
namespace Go.Proofs.YtenjblonepegfaaDoor
open Go Go.RowKit
set_option linter.unusedVariables false

theorem laidOutE : laidOutB Tryd.prog = true := by kernel_rfl
theorem wideE : (match Tryd.prog.underlying 100 with | some (.array _ _) | some (.struct _) => true | _ => false) = true := by rw [Tryd.underlying100]
theorem keyTypeE : Tryd.prog.keyType 100 = true := by kernel_rfl
theorem cellsE : Tryd.prog.cellsOf 100 = 2 := by kernel_rfl
theorem cellsI : Tryd.prog.cellsOf 3 = 1 := by kernel_rfl
theorem rowE : (100 : TypeId) < Tryd.prog.types.size := of_decide_eq_true (by kernel_rfl)
theorem keyTypeE2 : Tryd.prog.keyTypeAt 2 100 = true := by kernel_rfl
theorem keyedE : Maps.Keyed Tryd.prog 100 := Maps.Keyed.of_law (deep_law_laid laidOutE (m := 2) (by omega) rowE keyTypeE2 (by rw [Tryd.underlying100]))
theorem someTypes : 0 < Tryd.prog.types.size := of_decide_eq_true (by kernel_rfl)
theorem formedE {a b : Value} : (Value.agg #[a, b]).formed Tryd.prog 100 = true := by simp [Value.formed, Tryd.underlying100, cellsE]
abbrev edV (x : AK.Ed) : Value := .agg #[.int .i64 x.1, .int .i64 x.2]
def okE (x : AK.Ed) : Prop := (Lit.int .i64 x.1).wf = true ∧ (Lit.int .i64 x.2).wf = true
theorem okE_of {x : AK.Ed} (h1 : -1000 ≤ x.1 ∧ x.1 ≤ 1000000) (h2 : -1000 ≤ x.2 ∧ x.2 ≤ 1000000) : okE x := ⟨WalkArith.wf_i64 (by omega), WalkArith.wf_i64 (by omega)⟩
theorem keyOfE (x : AK.Ed) (h : okE x) : ∃ l, keyOf Tryd.prog 100 (edV x) = some l := by
  obtain ⟨n, hn⟩ : ∃ n, Tryd.prog.types.size = n + 1 := ⟨Tryd.prog.types.size - 1, by have := someTypes; omega⟩
  unfold keyOf
  rw [Tryd.underlying100]
  simp only [keyTypeE, formedE, Bool.and_self, if_true]
  refine ⟨.string (keyBytes [.int .i64 x.1, .int .i64 x.2]), ?_⟩
  rw [hn]
  simp [Program.keyLits, Tryd.underlying100, cellsE, cellsI, Value.cells, h.1, h.2]
noncomputable def litE (x : AK.Ed) : Lit := (keyOf Tryd.prog 100 (edV x)).getD (.bool false)
theorem litE_eq {x : AK.Ed} (h : okE x) : keyOf Tryd.prog 100 (edV x) = some (litE x) := by
  obtain ⟨l, hl⟩ := keyOfE x h
  unfold litE; rw [hl]; rfl
theorem keyE_ok {v : Value} {l : Lit} (h : keyOf Tryd.prog 100 v = some l) : WideAt.IsKeyLit l := keyedE.key h
theorem litE_all {x : AK.Ed} (h : okE x) : ∃ l, litE x = l ∧ WideAt.IsKeyLit l := by
  obtain ⟨l, hl⟩ := keyOfE x h
  exact ⟨l, by unfold litE; rw [hl]; rfl, keyE_ok hl⟩
theorem litE_ne {x y : AK.Ed} (hx : okE x) (hy : okE y) (h : x ≠ y) : litE x ≠ litE y := by
  intro e
  have h1 := litE_eq hx
  rw [e] at h1
  have := keyedE.inj h1 (litE_eq hy)
  simp at this
  exact h (Prod.ext this.1 this.2)

/-- Block b is a map from edges to numbers: what it answers is m. -/
def MapAt (w : World) (b N : Nat) (m : AK.Ed → Int) : Prop :=
  ∃ D : DataW Unit, w.ownsMap Tryd.prog 100 (plainElem Tryd.prog 3) b N D ∧ Maps.IsMap D ∧ ∀ x, okE x → D.atKey (litE x) (.lit (.int .i64 0)) = .lit (.int .i64 (m x))
theorem MapAt.made (w : World) : MapAt (w.alloc (.map #[] 0)) w.heap.size 0 (fun _ => 0) := ⟨.map [], World.ownsMap_made _ _ _ _, Maps.isMap_empty, fun x _ => rfl⟩
theorem MapAt.lt {w : World} {b N : Nat} {m : AK.Ed → Int} (h : MapAt w b N m) : b < w.heap.size := by obtain ⟨D, h, _⟩ := h; exact h.lt
theorem MapAt.chg {S : Nat → Prop} {w w' : World} {b N : Nat} {m : AK.Ed → Int} (h : MapAt w b N m) (hc : Chg S w w') (hn : ¬ S b) : MapAt w' b N m := by
  obtain ⟨D, h1, r⟩ := h
  have hlt := h1.lt
  obtain ⟨es, clock, hb, r1⟩ := h1
  exact ⟨D, ⟨es, clock, (hc.block b hlt hn).trans hb, r1⟩, r⟩
theorem MapAt.ext {w w' : World} {b N : Nat} {m : AK.Ed → Int} (h : MapAt w b N m) (hb : Below w.heap.size w w') : MapAt w' b N m := h.chg (Chg.of_below hb) (by have := h.lt; omega)
theorem MapAt.mono {w : World} {b N N' : Nat} {m : AK.Ed → Int} (h : MapAt w b N m) (hn : N ≤ N') : MapAt w b N' m := by
  obtain ⟨D, h1, r⟩ := h
  exact ⟨D, h1.mono hn, r⟩
theorem zeroI (w : World) : (zeroValue 3).run Tryd.prog w = .ok (.int .i64 0) w := by kernel_rfl
theorem MapAt.look {w : World} {b N : Nat} {m : AK.Ed → Int} (h : MapAt w b N m) (x : AK.Ed) (hx : okE x) :
    (Instr.lookup 141 (.map (some b)) (edV x) false).run Tryd.prog w = .ok (.int .i64 (m x)) w := by
  obtain ⟨D, h1, h2, h3⟩ := h
  obtain ⟨c, hr, hat, _⟩ := h1.lookup_int keyedE Tryd.underlying141 Tryd.underlying3 (zeroI w) (litE_eq hx)
  rw [h3 x hx] at hat
  have h5 := (Lit.int.inj (DataW.lit.inj hat)).2
  rw [hr, h5]
def updI (m : AK.Ed → Int) (x : AK.Ed) (v : Int) : AK.Ed → Int := fun y => if y = x then v else m y
theorem MapAt.put {w : World} {b N : Nat} {m : AK.Ed → Int} (h : MapAt w b N m) (hN : N < 1000000) (x : AK.Ed) (hx : okE x) (v : Int) (hv : (Lit.int .i64 v).wf = true) :
    ∃ w', (Instr.mapUpdate 141 (.map (some b)) (edV x) (.int .i64 v)).run Tryd.prog w = .ok () w' ∧ MapAt w' b (N + 1) (updI m x v) ∧ Chg (fun k => k = b) w w' := by
  obtain ⟨D, h1, h2, h3⟩ := h
  obtain ⟨w', hr, ho, hg⟩ := h1.update keyedE Tryd.underlying141 (by unfold maxLen; omega) (litE_eq hx) (plainElem_int Tryd.underlying3 hv)
  refine ⟨w', hr, ⟨_, ho, h2.put _ _, fun y hy => ?_⟩, (Chg.of_grown hg).mono (fun k _ hk => by simpa using hk)⟩
  by_cases e : y = x
  · subst e
    obtain ⟨l, hl, hk⟩ := litE_all hy
    rw [hl, Maps.atKey_put_same h2 hk]; simp [updI]
  · rw [Maps.atKey_put_other (litE_ne hy hx e), h3 y hy]; simp [updI, e]
end Go.Proofs.YtenjblonepegfaaDoor
