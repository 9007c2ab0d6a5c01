/-
  Maps from edges to numbers that lie in memory: what they hold as a function; made, asked, written. No conditions.
-/
import Derived.Test.YtlcnoihmhaaekaaRows
import Derived.Test.YtlcnoihmhaaekaaMem
import Derived.Test.YtlcnoihmhaaekaaEb
import Derived.Maps.Own
import Derived.Maps.Views
import Derived.DeepKeys4
import Derived.WalkKit
namespace Go.Proofs.Ytlcnoihmhaaekaa
open Go Go.RowKit
set_option linter.unusedVariables false

theorem laidOutE : laidOutB Try.prog = true := by kernel_rfl
theorem wideE : (match Try.prog.underlying 38 with | some (.array _ _) | some (.struct _) => true | _ => false) = true := by rw [Try.underlying38]
theorem keyTypeE : Try.prog.keyType 38 = true := by kernel_rfl
theorem cellsE : Try.prog.cellsOf 38 = 2 := by kernel_rfl
theorem cellsI : Try.prog.cellsOf 3 = 1 := by kernel_rfl
theorem rowE : (38 : TypeId) < Try.prog.types.size := of_decide_eq_true (by kernel_rfl)
theorem keyTypeE2 : Try.prog.keyTypeAt 2 38 = true := by kernel_rfl
theorem keyedE : Maps.Keyed Try.prog 38 := Maps.Keyed.of_law (deep_law_laid laidOutE (m := 2) (by omega) rowE keyTypeE2 (by rw [Try.underlying38]))
theorem someTypes : 0 < Try.prog.types.size := of_decide_eq_true (by kernel_rfl)
theorem formedE {a b : Value} : (Value.agg #[a, b]).formed Try.prog 38 = true := by simp [Value.formed, Try.underlying38, cellsE]
def okEA (x : AK.Ed) : Prop := (Lit.int .i64 x.1).wf = true ∧ (Lit.int .i64 x.2).wf = true
theorem okE_ofA {x : AK.Ed} (h1 : -1000 ≤ x.1 ∧ x.1 ≤ 1000000) (h2 : -1000 ≤ x.2 ∧ x.2 ≤ 1000000) : okEA x := ⟨WalkArith.wf_i64 (by omega), WalkArith.wf_i64 (by omega)⟩
theorem keyOfEA (x : AK.Ed) (h : okEA x) : ∃ l, keyOf Try.prog 38 (edV x) = some l := by
  obtain ⟨n, hn⟩ : ∃ n, Try.prog.types.size = n + 1 := ⟨Try.prog.types.size - 1, by have := someTypes; omega⟩
  unfold keyOf
  rw [Try.underlying38]
  simp only [keyTypeE, formedE, Bool.and_self, if_true]
  refine ⟨.string (keyBytes [.int .i64 x.1, .int .i64 x.2]), ?_⟩
  rw [hn]
  simp [Program.keyLits, Try.underlying38, cellsE, cellsI, Value.cells, h.1, h.2]
noncomputable def litEA (x : AK.Ed) : Lit := (keyOf Try.prog 38 (edV x)).getD (.bool false)
theorem litE_eqA {x : AK.Ed} (h : okEA x) : keyOf Try.prog 38 (edV x) = some (litEA x) := by
  obtain ⟨l, hl⟩ := keyOfEA x h
  unfold litEA; rw [hl]; rfl
theorem keyE_ok {v : Value} {l : Lit} (h : keyOf Try.prog 38 v = some l) : WideAt.IsKeyLit l := keyedE.key h
theorem litE_all {x : AK.Ed} (h : okEA x) : ∃ l, litEA x = l ∧ WideAt.IsKeyLit l := by
  obtain ⟨l, hl⟩ := keyOfEA x h
  exact ⟨l, by unfold litEA; rw [hl]; rfl, keyE_ok hl⟩
theorem litE_ne {x y : AK.Ed} (hx : okEA x) (hy : okEA y) (h : x ≠ y) : litEA x ≠ litEA y := by
  intro e
  have h1 := litE_eqA hx
  rw [e] at h1
  have := keyedE.inj h1 (litE_eqA hy)
  simp at this
  exact h (Prod.ext this.1 this.2)

/-- Block b is a map from edges to numbers: what it answers is m. -/
def MapAt (w : World) (b N : Nat) (m : AK.Ed → Int) : Prop :=
  ∃ D : DataW Unit, w.ownsMap Try.prog 38 (plainElem Try.prog 3) b N D ∧ Maps.IsMap D ∧ ∀ x, okEA x → D.atKey (litEA x) (.lit (.int .i64 0)) = .lit (.int .i64 (m x))
theorem MapAt.made (w : World) : MapAt (w.alloc (.map #[] 0)) w.heap.size 0 (fun _ => 0) := ⟨.map [], World.ownsMap_made _ _ _ _, Maps.isMap_empty, fun x _ => rfl⟩
theorem MapAt.lt {w : World} {b N : Nat} {m : AK.Ed → Int} (h : MapAt w b N m) : b < w.heap.size := by obtain ⟨D, h, _⟩ := h; exact h.lt
theorem MapAt.chg {S : Nat → Prop} {w w' : World} {b N : Nat} {m : AK.Ed → Int} (h : MapAt w b N m) (hc : Chg S w w') (hn : ¬ S b) : MapAt w' b N m := by
  obtain ⟨D, h1, r⟩ := h
  have hlt := h1.lt
  obtain ⟨es, clock, hb, r1⟩ := h1
  exact ⟨D, ⟨es, clock, (hc.block b hlt hn).trans hb, r1⟩, r⟩
theorem MapAt.ext {w w' : World} {b N : Nat} {m : AK.Ed → Int} (h : MapAt w b N m) (hb : Below w.heap.size w w') : MapAt w' b N m := h.chg (Chg.of_below hb) (by have := h.lt; omega)
theorem MapAt.mono {w : World} {b N N' : Nat} {m : AK.Ed → Int} (h : MapAt w b N m) (hn : N ≤ N') : MapAt w b N' m := by
  obtain ⟨D, h1, r⟩ := h
  exact ⟨D, h1.mono hn, r⟩
theorem zeroI (w : World) : (zeroValue 3).run Try.prog w = .ok (.int .i64 0) w := by kernel_rfl
theorem MapAt.look {w : World} {b N : Nat} {m : AK.Ed → Int} (h : MapAt w b N m) (x : AK.Ed) (hx : okEA x) :
    (Instr.lookup 65 (.map (some b)) (edV x) false).run Try.prog w = .ok (.int .i64 (m x)) w := by
  obtain ⟨D, h1, h2, h3⟩ := h
  obtain ⟨c, hr, hat, _⟩ := h1.lookup_int keyedE Try.underlying65 Try.underlying3 (zeroI w) (litE_eqA hx)
  rw [h3 x hx] at hat
  have h5 := (Lit.int.inj (DataW.lit.inj hat)).2
  rw [hr, h5]
def updI (m : AK.Ed → Int) (x : AK.Ed) (v : Int) : AK.Ed → Int := fun y => if y = x then v else m y
theorem MapAt.put {w : World} {b N : Nat} {m : AK.Ed → Int} (h : MapAt w b N m) (hN : N < 1000000) (x : AK.Ed) (hx : okEA x) (v : Int) (hv : (Lit.int .i64 v).wf = true) :
    ∃ w', (Instr.mapUpdate 65 (.map (some b)) (edV x) (.int .i64 v)).run Try.prog w = .ok () w' ∧ MapAt w' b (N + 1) (updI m x v) ∧ Chg (fun k => k = b) w w' := by
  obtain ⟨D, h1, h2, h3⟩ := h
  obtain ⟨w', hr, ho, hg⟩ := h1.update keyedE Try.underlying65 (by unfold maxLen; omega) (litE_eqA hx) (plainElem_int Try.underlying3 hv)
  refine ⟨w', hr, ⟨_, ho, h2.put _ _, fun y hy => ?_⟩, (Chg.of_grown hg).mono (fun k _ hk => by simpa using hk)⟩
  by_cases e : y = x
  · subst e
    obtain ⟨l, hl, hk⟩ := litE_all hy
    rw [hl, Maps.atKey_put_same h2 hk]; simp [updI]
  · rw [Maps.atKey_put_other (litE_ne hy hx e), h3 y hy]; simp [updI, e]
theorem own_ne_map {w : World} {base : Nat} {e : TypeId} {size : Nat} {v : Value} {n : Nat} {xs : List Value} (h : w.ownsRow base e size v n xs) {b N : Nat} {m : AK.Ed → Int} (hm : MapAt w b N m) : v.ownBlock ≠ some b := by
  rcases h.2 with ⟨rfl, _⟩ | ⟨g, cap, cur, rfl, _, hh, _⟩
  · simp [Value.ownBlock]
  · intro he
    have : g = b := by simpa [Value.ownBlock] using he
    subst this
    obtain ⟨D, ⟨es, clock, hb, _⟩, _⟩ := hm
    rw [hh] at hb
    cases hb
end Go.Proofs.Ytlcnoihmhaaekaa
