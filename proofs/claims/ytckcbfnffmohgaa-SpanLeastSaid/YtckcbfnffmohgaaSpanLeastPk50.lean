/-
  slices.SortFunc at rows of edges, by tour.Rising's own closure, by the library's contract: a row of the call's own is sorted. Condition: the edges' nodes are below 60.
-/
import Derived.Test.YtckcbfnffmohgaaSpanLeastPk19
import Derived.Shelf.SlSortCmp.NoneTotal
import Derived.Sort.EveryDepth
namespace Go.Proofs.Ytckcbfnffmohgaa
open Go Go.RowKit Go.Shelf Go.Sort Go.Lib
set_option linter.unusedVariables false

/-- A pair of nodes. -/
abbrev Pr := Fin 60 × Fin 60
def unp (x : Pr) : AK.Ed := ((x.1.val : Int), (x.2.val : Int))
def encP (x : Pr) : List Value := edC (unp x)
def cfP (x y : Pr) : Int := if (x.1.val : Int) = (y.1.val : Int) then (x.2.val : Int) - (y.2.val : Int) else (x.1.val : Int) - (y.1.val : Int)
def kyP (x : Pr) : Int := (x.1.val : Int) * 60 + (x.2.val : Int)
theorem ltP (x y : Pr) : ltOf cfP x y = decide (kyP x < kyP y) := by
  unfold ltOf cfP kyP
  congr 1
  apply propext
  have := x.1.isLt; have := x.2.isLt; have := y.1.isLt; have := y.2.isLt
  split <;> omega
theorem swoP : SWO (ltOf cfP) where
  irrefl x := by rw [ltP]; simp
  trans x y z h1 h2 := by rw [ltP] at *; simp at *; omega
  ntrans x y z h1 h2 := by rw [ltP] at *; simp at *; omega
theorem totP (x y : Pr) (h1 : ltOf cfP x y = false) (h2 : ltOf cfP y x = false) : x = y := by
  rw [ltP] at h1 h2
  obtain ⟨a, b⟩ := x
  obtain ⟨c, d⟩ := y
  have := a.isLt; have := b.isLt; have := c.isLt; have := d.isLt
  have h1 : ¬ ((a.val : Int) * 60 + (b.val : Int) < (c.val : Int) * 60 + (d.val : Int)) := of_decide_eq_false h1
  have h2 : ¬ ((c.val : Int) * 60 + (d.val : Int) < (a.val : Int) * 60 + (b.val : Int)) := of_decide_eq_false h2
  have e1 : a = c := Fin.ext (by omega)
  have e2 : b = d := Fin.ext (by omega)
  rw [e1, e2]
/-- Edges in order. -/
def leE (x y : AK.Ed) : Bool := decide (¬ (y.1 * 60 + y.2 < x.1 * 60 + x.2))
def sortedE (l : List AK.Ed) : List AK.Ed := l.mergeSort leE
theorem sortedE_mem {l : List AK.Ed} {x : AK.Ed} : x ∈ sortedE l ↔ x ∈ l := (List.mergeSort_perm l _).mem_iff
theorem sortedE_length (l : List AK.Ed) : (sortedE l).length = l.length := List.length_mergeSort l
theorem sortedE_nodup {l : List AK.Ed} (h : l.Nodup) : (sortedE l).Nodup := (List.mergeSort_perm l _).nodup_iff.2 h
theorem sortedE_rises (l : List AK.Ed) : (sortedE l).Pairwise (fun x y => x.1 * 60 + x.2 ≤ y.1 * 60 + y.2) := by
  have := List.pairwise_mergeSort (le := leE) (fun a b c h1 h2 => by simp [leE] at *; omega) (fun a b => by simp [leE]; omega) l
  exact this.imp (fun h => by simpa [leE] using h)
theorem unp_sort (d : List Pr) : (d.mergeSort fun x y => !(ltOf cfP) y x).map unp = sortedE (d.map unp) := by
  unfold sortedE
  refine List.map_mergeSort fun a _ b _ => ?_
  rw [ltP]
  show (!decide (kyP b < kyP a)) = decide (¬ (kyP b < kyP a))
  rw [decide_not]
theorem pairs_of {l : List AK.Ed} (h : ∀ x ∈ l, 0 ≤ x.1 ∧ x.1 < 60 ∧ 0 ≤ x.2 ∧ x.2 < 60) : ∃ d : List Pr, l = d.map unp := by
  induction l with
  | nil => exact ⟨[], rfl⟩
  | cons x l ih =>
    obtain ⟨d, hd⟩ := ih fun y hy => h y (List.mem_cons_of_mem _ hy)
    obtain ⟨h1, h2, h3, h4⟩ := h x (List.mem_cons_self ..)
    refine ⟨(⟨x.1.toNat, by omega⟩, ⟨x.2.toNat, by omega⟩) :: d, ?_⟩
    rw [List.map_cons, ← hd]
    congr 1
    obtain ⟨a, b⟩ := x
    simp only [unp] at *
    rw [Int.toNat_of_nonneg h1, Int.toNat_of_nonneg h3]
theorem flat_rows (d : List Pr) : flatK encP 2 d.toArray = (rowsOf edC (d.map unp)).toArray := by
  have hl : (rowsOf edC (d.map unp)).length = d.length * 2 := by rw [rowsOf_len (f := edC) (S := 2) (fun a _ => edC_len a), List.length_map]
  refine ext_get! (by simp [hl]) fun t ht => ?_
  have ht' : t < d.toArray.size * 2 := by simpa using ht
  have ht2 : t < d.length * 2 := by simpa using ht'
  rw [get_flatK _ _ _ t ht']
  obtain ⟨x, hx⟩ : ∃ x, d[t / 2]? = some x := ⟨_, List.getElem?_eq_getElem (by omega)⟩
  have e1 : d.toArray[t / 2]! = x := by
    rw [getElem!_pos d.toArray (t / 2) (by simp; omega)]
    rw [List.getElem?_eq_getElem (by omega)] at hx
    simpa using hx
  have hx2 : (d.map unp)[t / 2]? = some (unp x) := by rw [List.getElem?_map, hx]; rfl
  have key : ∀ v, (edC (unp x))[t % 2]? = some v → (rowsOf edC (d.map unp)).toArray[t]! = v := fun v hv => by
    have h1 := rowsOf_get (f := edC) (S := 2) (fun a _ => edC_len a) hx2 hv
    rw [show t / 2 * 2 + t % 2 = t by omega] at h1
    rw [getElem!_pos _ t (by simpa [hl] using ht2)]
    rw [List.getElem?_eq_getElem (by omega)] at h1
    simpa using h1
  rw [e1]
  have hm : t % 2 = 0 ∨ t % 2 = 1 := by omega
  rcases hm with hm | hm
  · rw [key (.int .i64 (unp x).1) (by rw [hm]; rfl), hm]; rfl
  · rw [key (.int .i64 (unp x).2) (by rw [hm]; rfl), hm]; rfl
/-- Behind the sort the same slice owns what was laid. -/
theorem heap_laid {w : World} {g n : Nat} {os : Array Obj} {cur : Array Value} {e : TypeId} {fr : Nat × Nat} (d : Array Value) (hb : w.heap[g]? = some (.cells cur e fr)) :
    (grow (putRow id (Sort.ahead w n) g 0 d) os).heap[g]? = some (.cells (putCells id 0 d cur) e fr) := by
  have hg : g < w.heap.size := (Array.getElem?_eq_some_iff.1 hb).1
  rw [heap_grow_old _ _ (by simpa using hg)]
  simp [putRow, mapBlock, Sort.ahead, Array.getElem?_modify, hb, onCells]
theorem grown_laid {w : World} {g n : Nat} {os : Array Obj} (d : Array Value) : w.grownBy (grow (putRow id (Sort.ahead w n) g 0 d) os) (some g) := by
  refine ⟨rfl, rfl, rfl, by simp, fun k hk hne => ?_⟩
  rw [heap_grow_old _ _ (by simpa using hk)]
  have : g ≠ k := fun e => hne (by rw [e])
  simp [putRow, mapBlock, Sort.ahead, Array.getElem?_modify, this]
theorem take_laid (cur : Array Value) (ts : List Value) (h : ts.length ≤ cur.size) : (putCells id 0 ts.toArray cur).toList.take ts.length = ts := by
  apply List.ext_getElem?
  intro j
  by_cases hj : j < ts.length
  · rw [List.getElem?_take_of_lt hj, Array.getElem?_toList]
    simp [putCells, hj, show j < cur.size by omega]
  · rw [List.getElem?_take_eq_none (by omega), List.getElem?_eq_none (by omega)]
theorem holds_own {w : World} {g : Nat} {cur : Array Value} {e : TypeId} {xs : List Value} (hb : w.heap[g]? = some (.cells cur e (0, 0))) (ht : cur.toList.take xs.length = xs) : Holds id w g 0 xs.toArray := by
  intro j hj
  have hj' : j < xs.length := by simpa using hj
  refine ⟨?_, by simp [World.frozen?, hb]⟩
  have h1 : (cur.toList.take xs.length)[j]? = xs[j]? := by rw [ht]
  rw [List.getElem?_take_of_lt hj'] at h1
  simp only [World.cell?, hb, Nat.zero_add]
  simp only [Option.isSome_none, Bool.false_eq_true, if_false]
  rw [← Array.getElem?_toList, h1]
  simp [hj']
end Go.Proofs.Ytckcbfnffmohgaa
