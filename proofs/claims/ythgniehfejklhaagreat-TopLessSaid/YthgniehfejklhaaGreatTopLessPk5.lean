/-
  slices.SortFunc at rows of edges, by bridge.Bridges' own closure, beside tour.Rising's. Condition: the edges' nodes are below 60.
-/
import Derived.Test.YthgniehfejklhaaGreatBs15
namespace Go.Proofs.YthgniehfejklhaaGreat
open Go Go.RowKit Go.Shelf Go.Sort Go.Lib
set_option linter.unusedVariables false
def cfPb (x y : Pr) : Int := ((x.1.val : Int) - (y.1.val : Int)) * 60 + (x.2.val : Int) - (y.2.val : Int)
theorem ltPb (x y : Pr) : ltOf cfPb x y = decide (kyP x < kyP y) := by
  unfold ltOf cfPb kyP
  congr 1
  apply propext
  omega
theorem swoPb : SWO (ltOf cfPb) where
  irrefl x := by rw [ltPb]; simp
  trans x y z h1 h2 := by rw [ltPb] at *; simp at *; omega
  ntrans x y z h1 h2 := by rw [ltPb] at *; simp at *; omega
theorem totPb (x y : Pr) (h1 : ltOf cfPb x y = false) (h2 : ltOf cfPb y x = false) : x = y := by
  rw [ltPb] at h1 h2
  obtain ⟨a, b⟩ := x
  obtain ⟨c, d⟩ := y
  have := a.isLt; have := b.isLt; have := c.isLt; have := d.isLt
  have h1 : ¬ ((a.val : Int) * 60 + (b.val : Int) < (c.val : Int) * 60 + (d.val : Int)) := of_decide_eq_false h1
  have h2 : ¬ ((c.val : Int) * 60 + (d.val : Int) < (a.val : Int) * 60 + (b.val : Int)) := of_decide_eq_false h2
  have e1 : a = c := Fin.ext (by omega)
  have e2 : b = d := Fin.ext (by omega)
  rw [e1, e2]
theorem unpb_sort (d : List Pr) : (d.mergeSort fun x y => !(ltOf cfPb) y x).map unp = sortedE (d.map unp) := by
  unfold sortedE
  refine List.map_mergeSort fun a _ b _ => ?_
  rw [ltPb]
  show (!decide (kyP b < kyP a)) = decide (¬ (kyP b < kyP a))
  rw [decide_not]
set_option maxHeartbeats 1000000 in
/-- The closure: below nought just if the first edge comes first. -/
theorem cmpb_any (x1 x2 y1 y2 : Int) (h1 : 0 ≤ x1 ∧ x1 < 60) (h2 : 0 ≤ x2 ∧ x2 < 60) (h3 : 0 ≤ y1 ∧ y1 < 60) (h4 : 0 ≤ y2 ∧ y2 < 60) (W : World) :
    Calls Tryz.prog 61 #[.agg #[.int .i64 x1, .int .i64 x2], .agg #[.int .i64 y1, .int .i64 y2]] W fun e w' => e = .returned (.int .i64 ((x1 - y1) * 60 + x2 - y2)) ∧ ∃ q os', w' = grow (W.drewN q) os' := by
  have e1 : IntKind.i64.wrap (x1 - y1) = x1 - y1 := IntWalk.i64_in _ (by omega)
  have e2 : IntKind.i64.wrap ((x1 - y1) * 60) = (x1 - y1) * 60 := IntWalk.i64_in _ (by omega)
  have e3 : IntKind.i64.wrap ((x1 - y1) * 60 + x2) = (x1 - y1) * 60 + x2 := IntWalk.i64_in _ (by omega)
  have e4 : IntKind.i64.wrap ((x1 - y1) * 60 + x2 - y2) = (x1 - y1) * 60 + x2 - y2 := IntWalk.i64_in _ (by omega)
  go_enter Tryz.func61, Tryz.ntmps61
  go_wp2
  go_ret
  exact ⟨rfl, 0, _, by rw [alloc_eq_grow, alloc_eq_grow, grow_grow]; rfl⟩
theorem cmpLaysPb (blk off size : Nat) (w : World) : CmpLays Tryz.prog 61 #[] encP 2 cfPb blk off size w :=
  fun _ _ _ _ x y => cmpb_any (x.1.val : Int) (x.2.val : Int) (y.1.val : Int) (y.2.val : Int) (by have := x.1.isLt; omega) (by have := x.2.isLt; omega) (by have := y.1.isLt; omega) (by have := y.2.isLt; omega) _
theorem sortEb_any (w : World) (v : Value) (l : List AK.Ed) (hf : ∀ x ∈ l, 0 ≤ x.1 ∧ x.1 < 60 ∧ 0 ≤ x.2 ∧ x.2 < 60) (hn : l.length ≤ 100000) (h : DRow w v l) :
    Calls Tryz.prog 60 #[v, .func (.func 61) #[] #[]] w fun e w' => e = .returned (.tuple #[]) ∧ DRow w' v (sortedE l) ∧ Chg (fun k => v.ownBlock = some k) w w' := by
  obtain ⟨d, rfl⟩ := pairs_of hf
  unfold DRow at h ⊢
  rcases h.2 with ⟨rfl, h0⟩ | ⟨g, c, cur, rfl, hbase, hb, h1, h2, h3, h4⟩
  · have hz : d = [] := List.eq_nil_of_length_eq_zero (by simpa using h0)
    subst hz
    refine (AnyF.slices_SortFunc_none laysSf none 0 _ w).mono ?_
    rintro e w' ⟨rfl, rfl⟩
    exact ⟨rfl, by simpa [sortedE] using h, Chg.refl _ _⟩
  · have hlt : g < w.heap.size := (Array.getElem?_eq_some_iff.1 hb).1
    have hsz : (rowsOf edC (d.map unp)).length = (d.map unp).length * 2 := h.1
    have hH : HoldsK encP 2 w g 0 d.toArray := by
      unfold HoldsK
      rw [flat_rows]
      exact holds_own hb (by rw [hsz]; exact h4)
    have eg : ∀ args w, (callFunc 61 args).run Tryz.prog w = .ok (.enter 61 args) w := enters_of Tryz.func61 (by kernel_rfl) rfl
    have hds : d.toArray.size = (d.map unp).length := by simp
    have hsm : d.toArray.size < 4611686018427387904 := by rw [hds]; omega
    have hcon := AnyQ.slices_SortFunc_total laysSf 2 Tryz.isAgg49 Tryz.sizeOf49 encP (fun _ => rfl) (fun x v hv => by simp [encP, edC] at hv; rcases hv with rfl | rfl <;> rfl) cfPb swoPb 61 #[] g 0 c d.toArray w eg (cmpLaysPb g 0 _ w) hH hlt hsm totPb
    rw [hds] at hcon
    refine Calls.mono hcon ?_
    rintro e w' ⟨rfl, n, os, rfl⟩
    unfold sortWorldK putRowK
    rw [List.toList_toArray, flat_rows, unpb_sort]
    have hrl : (rowsOf edC (sortedE (d.map unp))).length = (rowsOf edC (d.map unp)).length := by
      rw [rowsOf_len (f := edC) (S := 2) (fun a _ => edC_len a), rowsOf_len (f := edC) (S := 2) (fun a _ => edC_len a), sortedE_length]
    refine ⟨rfl, ⟨by rw [hrl, hsz, sortedE_length], .inr ⟨g, c, _, by rw [sortedE_length], hbase, heap_laid _ hb, by rw [sortedE_length]; exact h1, h2, by simp [putCells, h3], ?_⟩⟩, (Chg.of_grown (grown_laid _)).mono (fun k _ hk => by simp [Value.ownBlock]; injection hk with hk; exact hk.symm)⟩
    rw [sortedE_length, ← hsz, ← hrl]
    refine take_laid cur _ ?_
    rw [hrl, hsz, h3]
    exact Nat.mul_le_mul_right _ h1
end Go.Proofs.YthgniehfejklhaaGreat
