/-
  slices.SortFunc at rows of edges, by tour.Rising's own closure, by the library's contract: a row of the call's own is sorted. Condition: the edges' nodes are below 60.
-/
import Derived.Test.YtckcbfnffmohgaaGreatTt6
import Derived.Shelf.SlSortCmp.NoneTotal
import Derived.Sort.EveryDepth
namespace Go.Proofs.YtckcbfnffmohgaaGreat
open Go Go.RowKit Go.Shelf Go.Sort Go.Lib
set_option linter.unusedVariables false

def laysSf_ren : Go.Shelf.Ren := ⟨fun | 6 => 35 | 14 => 62 | 15 => 63 | 20 => 94 | 21 => 95 | 22 => 96 | 23 => 97 | 24 => 98 | 25 => 99 | 26 => 100 | 27 => 101 | 28 => 102 | 29 => 103 | 46 => 124 | 47 => 125 | 48 => 126 | 49 => 127 | 50 => 128 | 57 => 141 | n => n, fun | 0 => 0 | 3 => 3 | 4 => 4 | 5 => 5 | 9 => 9 | 22 => 43 | 24 => 32 | 25 => 87 | 39 => 130 | 45 => 163 | 46 => 164 | 50 => 168 | 53 => 171 | 55 => 173 | 66 => 196 | 70 => 200 | 76 => 209 | 77 => 210 | n => n, fun | n => n⟩
theorem laysSf : Go.Proofs.SlLaysF0.n6 Tryz.prog laysSf_ren := {
  mixed := by kernel_rfl,
  f6 := ⟨ "slices.SortFunc[[]footbridge/api.Edge,footbridge/api.Edge]", by decide, Tryz.func35.trans (congrArg some (by kernel_rfl))⟩,
  f14 := ⟨ "slices.pdqsortCmpFunc[footbridge/api.Edge]", by decide, Tryz.func62.trans (congrArg some (by kernel_rfl))⟩,
  f15 := Tryz.func63.trans (congrArg some (by kernel_rfl)),
  f20 := ⟨ "slices.insertionSortCmpFunc[footbridge/api.Edge]", by decide, Tryz.func94.trans (congrArg some (by kernel_rfl))⟩,
  f21 := ⟨ "slices.heapSortCmpFunc[footbridge/api.Edge]", by decide, Tryz.func95.trans (congrArg some (by kernel_rfl))⟩,
  f22 := ⟨ "slices.breakPatternsCmpFunc[footbridge/api.Edge]", by decide, Tryz.func96.trans (congrArg some (by kernel_rfl))⟩,
  f23 := ⟨ "slices.choosePivotCmpFunc[footbridge/api.Edge]", by decide, Tryz.func97.trans (congrArg some (by kernel_rfl))⟩,
  f24 := ⟨ "slices.reverseRangeCmpFunc[footbridge/api.Edge]", by decide, Tryz.func98.trans (congrArg some (by kernel_rfl))⟩,
  f25 := ⟨ "slices.partialInsertionSortCmpFunc[footbridge/api.Edge]", by decide, Tryz.func99.trans (congrArg some (by kernel_rfl))⟩,
  f26 := ⟨ "slices.partitionEqualCmpFunc[footbridge/api.Edge]", by decide, Tryz.func100.trans (congrArg some (by kernel_rfl))⟩,
  f27 := ⟨ "slices.partitionCmpFunc[footbridge/api.Edge]", by decide, Tryz.func101.trans (congrArg some (by kernel_rfl))⟩,
  f28 := Tryz.func102.trans (congrArg some (by kernel_rfl)),
  f29 := Tryz.func103.trans (congrArg some (by kernel_rfl)),
  f46 := ⟨ "slices.siftDownCmpFunc[footbridge/api.Edge]", by decide, Tryz.func124.trans (congrArg some (by kernel_rfl))⟩,
  f47 := Tryz.func125.trans (congrArg some (by kernel_rfl)),
  f48 := Tryz.func126.trans (congrArg some (by kernel_rfl)),
  f49 := ⟨ "slices.medianAdjacentCmpFunc[footbridge/api.Edge]", by decide, Tryz.func127.trans (congrArg some (by kernel_rfl))⟩,
  f50 := ⟨ "slices.medianCmpFunc[footbridge/api.Edge]", by decide, Tryz.func128.trans (congrArg some (by kernel_rfl))⟩,
  f57 := ⟨ "slices.order2CmpFunc[footbridge/api.Edge]", by decide, Tryz.func141.trans (congrArg some (by kernel_rfl))⟩,
  t0 := Tryz.underlying0,
  a0 := Tryz.isAgg0,
  z0 := Tryz.sizeOf0,
  v0 := Tryz.zeroValue0,
  t3 := Tryz.underlying3,
  a3 := Tryz.isAgg3,
  z3 := Tryz.sizeOf3,
  v3 := Tryz.zeroValue3,
  t4 := Tryz.underlying4,
  a4 := Tryz.isAgg4,
  z4 := Tryz.sizeOf4,
  v4 := Tryz.zeroValue4,
  t5 := Tryz.underlying5,
  a5 := Tryz.isAgg5,
  z5 := Tryz.sizeOf5,
  v5 := Tryz.zeroValue5,
  t9 := Tryz.underlying9,
  a9 := Tryz.isAgg9,
  z9 := Tryz.sizeOf9,
  v9 := Tryz.zeroValue9,
  t22 := Tryz.underlying43,
  a22 := Tryz.isAgg43,
  z22 := Tryz.sizeOf43,
  v22 := Tryz.zeroValue43,
  t25 := Tryz.underlying87,
  a25 := Tryz.isAgg87,
  z25 := Tryz.sizeOf87,
  v25 := Tryz.zeroValue87,
  t39 := Tryz.underlying130,
  a39 := Tryz.isAgg130,
  z39 := Tryz.sizeOf130,
  v39 := Tryz.zeroValue130,
  t45 := Tryz.underlying163,
  a45 := Tryz.isAgg163,
  z45 := Tryz.sizeOf163,
  v45 := Tryz.zeroValue163,
  t46 := Tryz.underlying164,
  a46 := Tryz.isAgg164,
  z46 := Tryz.sizeOf164,
  v46 := Tryz.zeroValue164,
  t50 := Tryz.underlying168,
  a50 := Tryz.isAgg168,
  z50 := Tryz.sizeOf168,
  v50 := Tryz.zeroValue168,
  t53 := Tryz.underlying171,
  a53 := Tryz.isAgg171,
  z53 := Tryz.sizeOf171,
  v53 := Tryz.zeroValue171,
  t55 := Tryz.underlying173,
  a55 := Tryz.isAgg173,
  z55 := Tryz.sizeOf173,
  v55 := Tryz.zeroValue173,
  t66 := Tryz.underlying196,
  a66 := Tryz.isAgg196,
  z66 := Tryz.sizeOf196,
  v66 := Tryz.zeroValue196,
  t70 := Tryz.underlying200,
  a70 := Tryz.isAgg200,
  z70 := Tryz.sizeOf200,
  v70 := Tryz.zeroValue200,
  t76 := Tryz.underlying209,
  a76 := Tryz.isAgg209,
  z76 := Tryz.sizeOf209,
  v76 := Tryz.zeroValue209,
  t77 := Tryz.underlying210,
  a77 := Tryz.isAgg210,
  z77 := Tryz.sizeOf210,
  v77 := Tryz.zeroValue210 }

/-- A pair of nodes. -/
abbrev Pr := Fin 60 × Fin 60
def unp (x : Pr) : AK.Ed := ((x.1.val : Int), (x.2.val : Int))
def encP (x : Pr) : List Value := edC (unp x)
def cfP (x y : Pr) : Int := if (x.1.val : Int) = (y.1.val : Int) then (x.2.val : Int) - (y.2.val : Int) else (x.1.val : Int) - (y.1.val : Int)
def kyP (x : Pr) : Int := (x.1.val : Int) * 60 + (x.2.val : Int)
theorem ltP (x y : Pr) : ltOf cfP x y = decide (kyP x < kyP y) := by
  unfold ltOf cfP kyP
  congr 1
  apply propext
  have := x.1.isLt; have := x.2.isLt; have := y.1.isLt; have := y.2.isLt
  split <;> omega
theorem swoP : SWO (ltOf cfP) where
  irrefl x := by rw [ltP]; simp
  trans x y z h1 h2 := by rw [ltP] at *; simp at *; omega
  ntrans x y z h1 h2 := by rw [ltP] at *; simp at *; omega
theorem totP (x y : Pr) (h1 : ltOf cfP x y = false) (h2 : ltOf cfP y x = false) : x = y := by
  rw [ltP] at h1 h2
  obtain ⟨a, b⟩ := x
  obtain ⟨c, d⟩ := y
  have := a.isLt; have := b.isLt; have := c.isLt; have := d.isLt
  have h1 : ¬ ((a.val : Int) * 60 + (b.val : Int) < (c.val : Int) * 60 + (d.val : Int)) := of_decide_eq_false h1
  have h2 : ¬ ((c.val : Int) * 60 + (d.val : Int) < (a.val : Int) * 60 + (b.val : Int)) := of_decide_eq_false h2
  have e1 : a = c := Fin.ext (by omega)
  have e2 : b = d := Fin.ext (by omega)
  rw [e1, e2]
/-- Edges in order. -/
def leE (x y : AK.Ed) : Bool := decide (¬ (y.1 * 60 + y.2 < x.1 * 60 + x.2))
def sortedE (l : List AK.Ed) : List AK.Ed := l.mergeSort leE
theorem sortedE_mem {l : List AK.Ed} {x : AK.Ed} : x ∈ sortedE l ↔ x ∈ l := (List.mergeSort_perm l _).mem_iff
theorem sortedE_length (l : List AK.Ed) : (sortedE l).length = l.length := List.length_mergeSort l
theorem sortedE_nodup {l : List AK.Ed} (h : l.Nodup) : (sortedE l).Nodup := (List.mergeSort_perm l _).nodup_iff.2 h
theorem sortedE_rises (l : List AK.Ed) : (sortedE l).Pairwise (fun x y => x.1 * 60 + x.2 ≤ y.1 * 60 + y.2) := by
  have := List.pairwise_mergeSort (le := leE) (fun a b c h1 h2 => by simp [leE] at *; omega) (fun a b => by simp [leE]; omega) l
  exact this.imp (fun h => by simpa [leE] using h)
theorem unp_sort (d : List Pr) : (d.mergeSort fun x y => !(ltOf cfP) y x).map unp = sortedE (d.map unp) := by
  unfold sortedE
  refine List.map_mergeSort fun a _ b _ => ?_
  rw [ltP]
  show (!decide (kyP b < kyP a)) = decide (¬ (kyP b < kyP a))
  rw [decide_not]
theorem pairs_of {l : List AK.Ed} (h : ∀ x ∈ l, 0 ≤ x.1 ∧ x.1 < 60 ∧ 0 ≤ x.2 ∧ x.2 < 60) : ∃ d : List Pr, l = d.map unp := by
  induction l with
  | nil => exact ⟨[], rfl⟩
  | cons x l ih =>
    obtain ⟨d, hd⟩ := ih fun y hy => h y (List.mem_cons_of_mem _ hy)
    obtain ⟨h1, h2, h3, h4⟩ := h x (List.mem_cons_self ..)
    refine ⟨(⟨x.1.toNat, by omega⟩, ⟨x.2.toNat, by omega⟩) :: d, ?_⟩
    rw [List.map_cons, ← hd]
    congr 1
    obtain ⟨a, b⟩ := x
    simp only [unp] at *
    rw [Int.toNat_of_nonneg h1, Int.toNat_of_nonneg h3]
theorem flat_rows (d : List Pr) : flatK encP 2 d.toArray = (rowsOf edC (d.map unp)).toArray := by
  have hl : (rowsOf edC (d.map unp)).length = d.length * 2 := by rw [rowsOf_len (f := edC) (S := 2) (fun a _ => edC_len a), List.length_map]
  refine ext_get! (by simp [hl]) fun t ht => ?_
  have ht' : t < d.toArray.size * 2 := by simpa using ht
  have ht2 : t < d.length * 2 := by simpa using ht'
  rw [get_flatK _ _ _ t ht']
  obtain ⟨x, hx⟩ : ∃ x, d[t / 2]? = some x := ⟨_, List.getElem?_eq_getElem (by omega)⟩
  have e1 : d.toArray[t / 2]! = x := by
    rw [getElem!_pos d.toArray (t / 2) (by simp; omega)]
    rw [List.getElem?_eq_getElem (by omega)] at hx
    simpa using hx
  have hx2 : (d.map unp)[t / 2]? = some (unp x) := by rw [List.getElem?_map, hx]; rfl
  have key : ∀ v, (edC (unp x))[t % 2]? = some v → (rowsOf edC (d.map unp)).toArray[t]! = v := fun v hv => by
    have h1 := rowsOf_get (f := edC) (S := 2) (fun a _ => edC_len a) hx2 hv
    rw [show t / 2 * 2 + t % 2 = t by omega] at h1
    rw [getElem!_pos _ t (by simpa [hl] using ht2)]
    rw [List.getElem?_eq_getElem (by omega)] at h1
    simpa using h1
  rw [e1]
  have hm : t % 2 = 0 ∨ t % 2 = 1 := by omega
  rcases hm with hm | hm
  · rw [key (.int .i64 (unp x).1) (by rw [hm]; rfl), hm]; rfl
  · rw [key (.int .i64 (unp x).2) (by rw [hm]; rfl), hm]; rfl
/-- Behind the sort the same slice owns what was laid. -/
theorem heap_laid {w : World} {g n : Nat} {os : Array Obj} {cur : Array Value} {e : TypeId} {fr : Nat × Nat} (d : Array Value) (hb : w.heap[g]? = some (.cells cur e fr)) :
    (grow (putRow id (Sort.ahead w n) g 0 d) os).heap[g]? = some (.cells (putCells id 0 d cur) e fr) := by
  have hg : g < w.heap.size := (Array.getElem?_eq_some_iff.1 hb).1
  rw [heap_grow_old _ _ (by simpa using hg)]
  simp [putRow, mapBlock, Sort.ahead, Array.getElem?_modify, hb, onCells]
theorem grown_laid {w : World} {g n : Nat} {os : Array Obj} (d : Array Value) : w.grownBy (grow (putRow id (Sort.ahead w n) g 0 d) os) (some g) := by
  refine ⟨rfl, rfl, rfl, by simp, fun k hk hne => ?_⟩
  rw [heap_grow_old _ _ (by simpa using hk)]
  have : g ≠ k := fun e => hne (by rw [e])
  simp [putRow, mapBlock, Sort.ahead, Array.getElem?_modify, this]
theorem take_laid (cur : Array Value) (ts : List Value) (h : ts.length ≤ cur.size) : (putCells id 0 ts.toArray cur).toList.take ts.length = ts := by
  apply List.ext_getElem?
  intro j
  by_cases hj : j < ts.length
  · rw [List.getElem?_take_of_lt hj, Array.getElem?_toList]
    simp [putCells, hj, show j < cur.size by omega]
  · rw [List.getElem?_take_eq_none (by omega), List.getElem?_eq_none (by omega)]
theorem holds_own {w : World} {g : Nat} {cur : Array Value} {e : TypeId} {xs : List Value} (hb : w.heap[g]? = some (.cells cur e (0, 0))) (ht : cur.toList.take xs.length = xs) : Holds id w g 0 xs.toArray := by
  intro j hj
  have hj' : j < xs.length := by simpa using hj
  refine ⟨?_, by simp [World.frozen?, hb]⟩
  have h1 : (cur.toList.take xs.length)[j]? = xs[j]? := by rw [ht]
  rw [List.getElem?_take_of_lt hj'] at h1
  simp only [World.cell?, hb, Nat.zero_add]
  simp only [Option.isSome_none, Bool.false_eq_true, if_false]
  rw [← Array.getElem?_toList, h1]
  simp [hj']
set_option maxHeartbeats 1000000 in
/-- The closure: below nought just if the first edge comes first. -/
theorem cmp_any (x1 x2 y1 y2 : Int) (h1 : 0 ≤ x1 ∧ x1 < 60) (h2 : 0 ≤ x2 ∧ x2 < 60) (h3 : 0 ≤ y1 ∧ y1 < 60) (h4 : 0 ≤ y2 ∧ y2 < 60) (W : World) :
    Calls Tryz.prog 93 #[.agg #[.int .i64 x1, .int .i64 x2], .agg #[.int .i64 y1, .int .i64 y2]] W fun e w' => e = .returned (.int .i64 (if x1 = y1 then x2 - y2 else x1 - y1)) ∧ ∃ q os', w' = grow (W.drewN q) os' := by
  have e1 : IntKind.i64.wrap (x1 - y1) = x1 - y1 := IntWalk.i64_in _ (by omega)
  have e4 : IntKind.i64.wrap (x2 - y2) = x2 - y2 := IntWalk.i64_in _ (by omega)
  by_cases hxy : x1 = y1
  · have q : (x1 == y1) = true := by simp [hxy]
    rw [if_pos hxy]
    clear hxy
    go_enter Tryz.func93, Tryz.ntmps93
    go_wp2
    go_ret
    exact ⟨rfl, 0, _, by rw [alloc_eq_grow, alloc_eq_grow, grow_grow]; rfl⟩
  · have q : (x1 == y1) = false := by simp [hxy]
    rw [if_neg hxy]
    clear hxy
    go_enter Tryz.func93, Tryz.ntmps93
    go_wp2
    go_ret
    exact ⟨rfl, 0, _, by rw [alloc_eq_grow, alloc_eq_grow, grow_grow]; rfl⟩
theorem cmpLaysP (blk off size : Nat) (w : World) : CmpLays Tryz.prog 93 #[] encP 2 cfP blk off size w :=
  fun _ _ _ _ x y => cmp_any (x.1.val : Int) (x.2.val : Int) (y.1.val : Int) (y.2.val : Int) (by have := x.1.isLt; omega) (by have := x.2.isLt; omega) (by have := y.1.isLt; omega) (by have := y.2.isLt; omega) _
theorem sortE_any (w : World) (v : Value) (l : List AK.Ed) (hf : ∀ x ∈ l, 0 ≤ x.1 ∧ x.1 < 60 ∧ 0 ≤ x.2 ∧ x.2 < 60) (hn : l.length ≤ 100000) (h : DRow w v l) :
    Calls Tryz.prog 35 #[v, .func (.func 93) #[] #[]] w fun e w' => e = .returned (.tuple #[]) ∧ DRow w' v (sortedE l) ∧ Chg (fun k => v.ownBlock = some k) w w' := by
  obtain ⟨d, rfl⟩ := pairs_of hf
  unfold DRow at h ⊢
  rcases h.2 with ⟨rfl, h0⟩ | ⟨g, c, cur, rfl, hbase, hb, h1, h2, h3, h4⟩
  · have hz : d = [] := List.eq_nil_of_length_eq_zero (by simpa using h0)
    subst hz
    refine (AnyF.slices_SortFunc_none laysSf none 0 _ w).mono ?_
    rintro e w' ⟨rfl, rfl⟩
    exact ⟨rfl, by simpa [sortedE] using h, Chg.refl _ _⟩
  · have hlt : g < w.heap.size := (Array.getElem?_eq_some_iff.1 hb).1
    have hsz : (rowsOf edC (d.map unp)).length = (d.map unp).length * 2 := h.1
    have hH : HoldsK encP 2 w g 0 d.toArray := by
      unfold HoldsK
      rw [flat_rows]
      exact holds_own hb (by rw [hsz]; exact h4)
    have eg : ∀ args w, (callFunc 93 args).run Tryz.prog w = .ok (.enter 93 args) w := enters_of Tryz.func93 (by kernel_rfl) rfl
    have hds : d.toArray.size = (d.map unp).length := by simp
    have hsm : d.toArray.size < 4611686018427387904 := by rw [hds]; omega
    have hcon := AnyQ.slices_SortFunc_total laysSf 2 Tryz.isAgg32 Tryz.sizeOf32 encP (fun _ => rfl) (fun x v hv => by simp [encP, edC] at hv; rcases hv with rfl | rfl <;> rfl) cfP swoP 93 #[] g 0 c d.toArray w eg (cmpLaysP g 0 _ w) hH hlt hsm totP
    rw [hds] at hcon
    refine Calls.mono hcon ?_
    rintro e w' ⟨rfl, n, os, rfl⟩
    unfold sortWorldK putRowK
    rw [List.toList_toArray, flat_rows, unp_sort]
    have hrl : (rowsOf edC (sortedE (d.map unp))).length = (rowsOf edC (d.map unp)).length := by
      rw [rowsOf_len (f := edC) (S := 2) (fun a _ => edC_len a), rowsOf_len (f := edC) (S := 2) (fun a _ => edC_len a), sortedE_length]
    refine ⟨rfl, ⟨by rw [hrl, hsz, sortedE_length], .inr ⟨g, c, _, by rw [sortedE_length], hbase, heap_laid _ hb, by rw [sortedE_length]; exact h1, h2, by simp [putCells, h3], ?_⟩⟩, (Chg.of_grown (grown_laid _)).mono (fun k _ hk => by simp [Value.ownBlock]; injection hk with hk; exact hk.symm)⟩
    rw [sortedE_length, ← hsz, ← hrl]
    refine take_laid cur _ ?_
    rw [hrl, hsz, h3]
    exact Nat.mul_le_mul_right _ h1
end Go.Proofs.YtckcbfnffmohgaaGreat
