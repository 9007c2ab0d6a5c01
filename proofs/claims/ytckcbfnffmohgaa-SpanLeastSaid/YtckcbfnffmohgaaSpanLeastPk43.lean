/-
  slices.Index, Min, DeleteFunc at rows of numbers, by the library's contracts. No conditions.
-/
import Derived.Test.YtckcbfnffmohgaaProg
import Derived.Test.YtckcbfnffmohgaaSpanLeastPk19
import Derived.Test.YtckcbfnffmohgaaSpanLeastPk41
import Derived.Shelf.Slices.Turned
import Derived.Shelf.SlicesE.DeleteFunc
namespace Go.Proofs.Ytckcbfnffmohgaa
open Go Go.RowKit Go.Shelf Go.Sort Go.Lib
set_option linter.unusedVariables false

def laysIx_ren : Go.Shelf.Ren := ⟨fun | 108 => 33 | _ => 0, fun | 0 => 0 | 3 => 3 | 4 => 4 | 28 => 32 | _ => 0, fun | _ => 0⟩
theorem laysIx : Go.Proofs.Lays.n108 Try.prog laysIx_ren := {
  mixed := by kernel_rfl,
  f108 := Try.func33.trans (congrArg some (by kernel_rfl)),
  t0 := Try.underlying0,
  a0 := Try.isAgg0,
  z0 := Try.sizeOf0,
  v0 := Try.zeroValue0,
  t3 := Try.underlying3,
  a3 := Try.isAgg3,
  z3 := Try.sizeOf3,
  v3 := Try.zeroValue3,
  t4 := Try.underlying4,
  a4 := Try.isAgg4,
  z4 := Try.sizeOf4,
  v4 := Try.zeroValue4,
  t28 := Try.underlying32,
  a28 := Try.isAgg32,
  z28 := Try.sizeOf32,
  v28 := Try.zeroValue32 }
def laysMn_ren : Go.Shelf.Ren := ⟨fun | 114 => 37 | _ => 0, fun | 0 => 0 | 3 => 3 | 4 => 4 | 9 => 9 | 20 => 20 | 28 => 32 | _ => 0, fun | _ => 0⟩
theorem laysMn : Go.Proofs.Lays.n114 Try.prog laysMn_ren := {
  mixed := by kernel_rfl,
  f114 := Try.func37.trans (congrArg some (by kernel_rfl)),
  t0 := Try.underlying0,
  a0 := Try.isAgg0,
  z0 := Try.sizeOf0,
  v0 := Try.zeroValue0,
  t3 := Try.underlying3,
  a3 := Try.isAgg3,
  z3 := Try.sizeOf3,
  v3 := Try.zeroValue3,
  t4 := Try.underlying4,
  a4 := Try.isAgg4,
  z4 := Try.sizeOf4,
  v4 := Try.zeroValue4,
  t9 := Try.underlying9,
  a9 := Try.isAgg9,
  z9 := Try.sizeOf9,
  v9 := Try.zeroValue9,
  t20 := Try.underlying20,
  a20 := Try.isAgg20,
  z20 := Try.sizeOf20,
  v20 := Try.zeroValue20,
  t28 := Try.underlying32,
  a28 := Try.isAgg32,
  z28 := Try.sizeOf32,
  v28 := Try.zeroValue32 }
def laysDf_ren : Go.Shelf.Ren := ⟨fun | 6 => 69 | 10 => 58 | _ => 0, fun | 0 => 0 | 3 => 3 | 4 => 4 | 22 => 32 | 23 => 3 | 25 => 56 | _ => 0, fun | _ => 0⟩
theorem laysDf : Go.Proofs.SlLaysH.n10 Try.prog laysDf_ren := {
  mixed := by kernel_rfl,
  f6 := ⟨ "slices.IndexFunc[[]int,int]", by decide, Try.func69.trans (congrArg some (by kernel_rfl))⟩,
  f10 := ⟨ "slices.DeleteFunc[[]int,int]", by decide, Try.func58.trans (congrArg some (by kernel_rfl))⟩,
  t0 := Try.underlying0,
  a0 := Try.isAgg0,
  z0 := Try.sizeOf0,
  v0 := Try.zeroValue0,
  t3 := Try.underlying3,
  a3 := Try.isAgg3,
  z3 := Try.sizeOf3,
  v3 := Try.zeroValue3,
  t4 := Try.underlying4,
  a4 := Try.isAgg4,
  z4 := Try.sizeOf4,
  v4 := Try.zeroValue4,
  t22 := Try.underlying32,
  a22 := Try.isAgg32,
  z22 := Try.sizeOf32,
  v22 := Try.zeroValue32,
  a23 := Try.isAgg3,
  z23 := Try.sizeOf3,
  t25 := Try.underlying56,
  a25 := Try.isAgg56,
  z25 := Try.sizeOf56,
  v25 := Try.zeroValue56 }

theorem holds_ints {w : World} {g c n : Nat} {xs : List Int} (h : w.ownsRow 0 3 1 (.slice (some ⟨g, 0, none⟩) n c) n (intsV xs)) : Holds (Value.int .i64) w g 0 xs.toArray := by
  have hl : xs.length = n := by have := h.1; simpa [intsV] using this
  intro j hj
  have hj' : j < xs.length := by simpa using hj
  rw [Nat.zero_add]
  refine ⟨?_, h.frozenAt j⟩
  rw [h.cellAt j (by omega), intsV, List.getElem?_map, List.getElem?_eq_getElem hj', getElem!_pos xs.toArray j (by simpa using hj')]
  simp
theorem cells_ints {w : World} {g c n : Nat} {xs : List Int} (h : w.ownsRow 0 3 1 (.slice (some ⟨g, 0, none⟩) n c) n (intsV xs)) : ∀ j, j < xs.length → w.cell? ⟨g, 0 + j, none⟩ = some (.int .i64 (xs.getD j 0)) := by
  intro j hj
  have hl : xs.length = n := by have := h.1; simpa [intsV] using this
  rw [Nat.zero_add, h.cellAt j (by omega), intsV, List.getElem?_map, List.getElem?_eq_getElem hj]
  simp [List.getD, List.getElem?_eq_getElem hj]
theorem index_any (w : World) (A : Option Addr) (c : Nat) (xs : List Int) (k : Nat) (x : Int) (h : w.ownsRow 0 3 1 (.slice A xs.length c) xs.length (intsV xs)) (hk : xs[k]? = some x) (hnd : xs.Nodup) (hz : xs.length ≤ 1000) :
    Calls Try.prog 33 #[.slice A xs.length c, .int .i64 x] w fun e w' => e = .returned (.int .i64 (k : Nat)) ∧ w' = w := by
  have hkl : k < xs.length := (List.getElem?_eq_some_iff.1 hk).1
  obtain ⟨g, cap, hv, _, _⟩ := own_form h (by omega)
  simp only [Value.slice.injEq, true_and] at hv
  obtain ⟨rfl, rfl⟩ := hv
  refine (Any.slices_Index_int laysIx g 0 xs.length c xs x w (Nat.le_refl _) (by omega) (cells_ints h)).mono ?_
  rintro e w' ⟨rfl, rfl⟩
  refine ⟨?_, rfl⟩
  rw [idxOf_hit xs xs.length k x hkl (Nat.le_refl _) (by simp [List.getD, hk]) fun j hj e => ?_]
  have hj' : j < xs.length := by omega
  have e2 : xs[j] = xs[k] := by
    rw [List.getElem?_eq_getElem hkl] at hk
    simp [List.getD, List.getElem?_eq_getElem hj'] at e
    rw [e]; exact (Option.some.inj hk).symm
  have := (List.getElem_inj hnd).1 e2
  omega
theorem minOf_least (xs : List Int) (h : 0 < xs.length) : minOf xs ∈ xs ∧ ∀ y ∈ xs, minOf xs ≤ y := by
  obtain ⟨x, r, rfl⟩ : ∃ x r, xs = x :: r := by
    cases xs with
    | nil => simp at h
    | cons x r => exact ⟨x, r, rfl⟩
  have key : ∀ (r : List Int) (a : Int), (r.foldl min a = a ∨ r.foldl min a ∈ r) ∧ r.foldl min a ≤ a ∧ ∀ y ∈ r, r.foldl min a ≤ y := by
    intro r
    induction r with
    | nil => intro a; exact ⟨.inl rfl, Int.le_refl _, by simp⟩
    | cons b r ih =>
      intro a
      obtain ⟨h1, h2, h3⟩ := ih (min a b)
      rw [List.foldl_cons]
      refine ⟨?_, by omega, fun y hy => ?_⟩
      · rcases h1 with h1 | h1
        · rw [h1]
          rcases Int.le_total a b with q | q
          · left; omega
          · right; rw [Int.min_eq_right q]; exact List.mem_cons_self ..
        · exact .inr (List.mem_cons_of_mem _ h1)
      · rcases List.mem_cons.1 hy with rfl | hy
        · omega
        · exact h3 y hy
  unfold minOf
  rw [List.headD_cons, List.foldl_cons, Int.min_self]
  obtain ⟨h1, h2, h3⟩ := key r x
  refine ⟨?_, fun y hy => ?_⟩
  · rcases h1 with h1 | h1
    · rw [h1]; exact List.mem_cons_self ..
    · exact List.mem_cons_of_mem _ h1
  · rcases List.mem_cons.1 hy with rfl | hy
    · exact h2
    · exact h3 y hy
theorem min_any (w : World) (A : Option Addr) (c : Nat) (xs : List Int) (h : w.ownsRow 0 3 1 (.slice A xs.length c) xs.length (intsV xs)) (h0 : 0 < xs.length) (hz : xs.length ≤ 1000) :
    Calls Try.prog 37 #[.slice A xs.length c] w fun e w' => e = .returned (.int .i64 (minOf xs)) ∧ w' = w := by
  obtain ⟨g, cap, hv, _, _⟩ := own_form h h0
  simp only [Value.slice.injEq, true_and] at hv
  obtain ⟨rfl, rfl⟩ := hv
  refine (Any.slices_Min_int laysMn g 0 xs.length c xs w h0 (Nat.le_refl _) (by omega) (cells_ints h)).mono ?_
  rintro e w' ⟨rfl, rfl⟩
  rw [List.take_length]
  exact ⟨rfl, rfl⟩

/-- The closure of nodes. -/
theorem gives_nodes (x : Int) (W : World) : FnGives Try.prog 59 #[] #[.int .i64 x] (.bool (decide (60 ≤ x))) W := by
  show Calls Try.prog 59 #[.int .i64 x] W _
  go_enter Try.func59, Try.ntmps59
  go_wp2
  all_goals (go_ret; exact ⟨by first | rfl | simp_all, 0, rfl⟩)
theorem delf_any (w : World) (A : Option Addr) (c : Nat) (xs : List Int) (h : w.ownsRow 0 3 1 (.slice A xs.length c) xs.length (intsV xs)) (h0 : 0 < xs.length) (hz : xs.length ≤ 1000) :
    Calls Try.prog 58 #[.slice A xs.length c, .func (.func 59) #[] #[]] w fun e w' => e = .returned (.slice A (TR.mks xs).length c) ∧ w'.ownsRow 0 3 1 (.slice A (TR.mks xs).length c) (TR.mks xs).length (intsV (TR.mks xs)) ∧ Chg (fun k => (Value.slice A xs.length c).ownBlock = some k) w w' := by
  obtain ⟨g, cap, hv, hcap, hcm⟩ := own_form h h0
  simp only [Value.slice.injEq, true_and] at hv
  obtain ⟨rfl, rfl⟩ := hv
  have eg : ∀ args w, (callFunc 59 args).run Try.prog w = .ok (.enter 59 args) w := enters_of Try.func59 (by kernel_rfl) rfl
  have hcon := AnyE.slices_DeleteFunc laysDf (Value.int .i64) (fun _ => rfl) (fun x => decide (60 ≤ x)) 59 #[] eg 0 Try.zeroValue3 g 0 c xs.toArray w (fun W x _ => gives_nodes x W) (fun n os dk x _ => gives_nodes x _) (holds_ints h) (by simp; omega) (by simpa using hcap)
  rw [show xs.toArray.size = xs.length by simp] at hcon
  refine Calls.mono hcon ?_
  rintro e w' ⟨rfl, q, rfl⟩
  rw [List.toList_toArray]
  have em : (xs.filter fun x => !decide (60 ≤ x)) = TR.mks xs := rfl
  rw [em]
  have hml : (TR.mks xs).length ≤ xs.length := List.length_filter_le _ _
  rcases h.2 with ⟨hv, _⟩ | ⟨g', c', cur, hv, hbase, hb, h1, h2, h3, h4⟩
  · simp at hv
  · simp only [Value.slice.injEq, Option.some.injEq, Addr.mk.injEq, and_true, true_and] at hv
    obtain ⟨rfl, rfl⟩ := hv
    refine ⟨rfl, ⟨by simp [intsV], .inr ⟨g, c, putCells (Value.int .i64) 0 (TR.mks xs ++ List.replicate (xs.length - (TR.mks xs).length) 0).toArray cur, rfl, hbase, ?_, by omega, h2, by simp [putCells, h3], ?_⟩⟩, ?_⟩
    · simp [putRow, mapBlock, Sort.ahead, Array.getElem?_modify, hb, onCells]
    · apply List.ext_getElem?
      intro j
      by_cases hj : j < (TR.mks xs).length
      · rw [List.getElem?_take_of_lt (by simpa using hj), Array.getElem?_toList]
        have hc : j < cur.size := by omega
        simp only [putCells, Array.getElem?_mapIdx]
        rw [Array.getElem?_eq_getElem hc]
        simp [intsV, hj]
        rw [if_pos (by omega), List.getElem?_append_left hj, List.getElem?_eq_getElem hj]
        rfl
      · rw [List.getElem?_take_eq_none (by simpa using hj), intsV, List.getElem?_map, List.getElem?_eq_none (by omega)]
        rfl
    · refine ⟨rfl, rfl, rfl, by simp [putRow, mapBlock, Sort.ahead], fun k hk hne => ?_⟩
      have : g ≠ k := fun e => hne (by simp [Value.ownBlock, e])
      simp [putRow, mapBlock, Sort.ahead, Array.getElem?_modify, this]
end Go.Proofs.Ytckcbfnffmohgaa
