/-
  slices.Sort at []int by the library's contract: a row of the call's own is sorted.  No conditions.
-/
import Derived.Test.YtakjakglkfhaaaaProg
import Derived.Test.YtakjakglkfhaaaaPf0
import Derived.Shelf.Slices.In.SortNone
import Derived.Sort.OwnSortedInts
import Derived.Sort.EveryDepth
namespace Go.Proofs.Ytakjakglkfhaaaa
open Go Go.RowKit Go.Shelf Go.Sort
set_option linter.unusedVariables false

def laysSort_ren : Go.Shelf.Ren := ⟨fun | 189 => 18 | 125 => 17 | 257 => 29 | 128 => 27 | 129 => 28 | 294 => 35 | 295 => 36 | 296 => 37 | 297 => 38 | 298 => 39 | 299 => 40 | 216 => 41 | 300 => 42 | 301 => 43 | 328 => 45 | 329 => 31 | 330 => 32 | 331 => 46 | 332 => 47 | 215 => 48 | 343 => 49 | n => n, fun | 28 => 23 | 3 => 3 | 46 => 51 | 0 => 0 | 51 => 62 | 53 => 64 | 4 => 4 | 183 => 55 | 182 => 54 | 131 => 59 | 5 => 5 | 9 => 9 | 218 => 66 | 222 => 70 | 228 => 78 | 229 => 79 | n => n, fun | n => n⟩
theorem laysSort : Go.Proofs.Lays.n189 Try.prog laysSort_ren := {
  mixed := by kernel_rfl,
  f125 := Try.func17.trans (congrArg some (by kernel_rfl)),
  f128 := Try.func27.trans (congrArg some (by kernel_rfl)),
  f129 := Try.func28.trans (congrArg some (by kernel_rfl)),
  f189 := Try.func18.trans (congrArg some (by kernel_rfl)),
  f215 := Try.func48.trans (congrArg some (by kernel_rfl)),
  f216 := Try.func41.trans (congrArg some (by kernel_rfl)),
  f257 := Try.func29.trans (congrArg some (by kernel_rfl)),
  f294 := Try.func35.trans (congrArg some (by kernel_rfl)),
  f295 := Try.func36.trans (congrArg some (by kernel_rfl)),
  f296 := Try.func37.trans (congrArg some (by kernel_rfl)),
  f297 := Try.func38.trans (congrArg some (by kernel_rfl)),
  f298 := Try.func39.trans (congrArg some (by kernel_rfl)),
  f299 := Try.func40.trans (congrArg some (by kernel_rfl)),
  f300 := Try.func42.trans (congrArg some (by kernel_rfl)),
  f301 := Try.func43.trans (congrArg some (by kernel_rfl)),
  f328 := Try.func45.trans (congrArg some (by kernel_rfl)),
  f329 := Try.func31.trans (congrArg some (by kernel_rfl)),
  f330 := Try.func32.trans (congrArg some (by kernel_rfl)),
  f331 := Try.func46.trans (congrArg some (by kernel_rfl)),
  f332 := Try.func47.trans (congrArg some (by kernel_rfl)),
  f343 := Try.func49.trans (congrArg some (by kernel_rfl)),
  t0 := Try.underlying0,
  a0 := Try.isAgg0,
  z0 := Try.sizeOf0,
  v0 := Try.zeroValue0,
  t3 := Try.underlying3,
  a3 := Try.isAgg3,
  z3 := Try.sizeOf3,
  v3 := Try.zeroValue3,
  t4 := Try.underlying4,
  a4 := Try.isAgg4,
  z4 := Try.sizeOf4,
  v4 := Try.zeroValue4,
  t5 := Try.underlying5,
  a5 := Try.isAgg5,
  z5 := Try.sizeOf5,
  v5 := Try.zeroValue5,
  t9 := Try.underlying9,
  a9 := Try.isAgg9,
  z9 := Try.sizeOf9,
  v9 := Try.zeroValue9,
  t28 := Try.underlying23,
  a28 := Try.isAgg23,
  z28 := Try.sizeOf23,
  v28 := Try.zeroValue23,
  t46 := Try.underlying51,
  a46 := Try.isAgg51,
  z46 := Try.sizeOf51,
  v46 := Try.zeroValue51,
  t51 := Try.underlying62,
  a51 := Try.isAgg62,
  z51 := Try.sizeOf62,
  v51 := Try.zeroValue62,
  t53 := Try.underlying64,
  a53 := Try.isAgg64,
  z53 := Try.sizeOf64,
  v53 := Try.zeroValue64,
  t131 := Try.underlying59,
  a131 := Try.isAgg59,
  z131 := Try.sizeOf59,
  v131 := Try.zeroValue59,
  t182 := Try.underlying54,
  a182 := Try.isAgg54,
  z182 := Try.sizeOf54,
  v182 := Try.zeroValue54,
  t183 := Try.underlying55,
  a183 := Try.isAgg55,
  z183 := Try.sizeOf55,
  v183 := Try.zeroValue55,
  t218 := Try.underlying66,
  a218 := Try.isAgg66,
  z218 := Try.sizeOf66,
  v218 := Try.zeroValue66,
  t222 := Try.underlying70,
  a222 := Try.isAgg70,
  z222 := Try.sizeOf70,
  v222 := Try.zeroValue70,
  t228 := Try.underlying78,
  a228 := Try.isAgg78,
  z228 := Try.sizeOf78,
  v228 := Try.zeroValue78,
  t229 := Try.underlying79,
  a229 := Try.isAgg79,
  z229 := Try.sizeOf79,
  v229 := Try.zeroValue79 }
def sorted (zs : List Int) : List Int := zs.mergeSort fun x y => decide (x ≤ y)
theorem sort_any (w : World) (v : Value) (n : Nat) (zs : List Int) (h : w.ownsRow 0 3 1 v n (intsV zs)) (hn : n ≤ 1000) :
    Calls Try.prog 18 #[v] w fun e w' => e = .returned (.tuple #[]) ∧ w'.ownsRow 0 3 1 v n (intsV (sorted zs)) ∧ Chg (fun k => v.ownBlock = some k) w w' := by
  have hl : zs.length = n := by have := h.1; simpa [intsV] using this
  rcases h.2 with ⟨rfl, h0⟩ | ⟨g, c, cur, rfl, _, hb, h1, h2, h3, h4⟩
  · have hz : zs = [] := List.eq_nil_of_length_eq_zero (by omega)
    subst hz; subst h0
    refine (calls_of_every_depth fun D => AnyS.slices_Sort_int_none_alone laysSort D none 0 w).mono ?_
    rintro e w' ⟨rfl, rfl⟩
    exact ⟨rfl, by simpa [sorted] using h, Chg.refl _ _⟩
  · subst hl
    have hlt : g < w.heap.size := (Array.getElem?_eq_some_iff.1 hb).1
    have hH : Holds (Value.int .i64) w g 0 zs.toArray := holds_of_blockI hb (by simpa [intsV] using h4)
    refine (calls_of_every_depth fun D => AnyS.slices_Sort_int_alone laysSort D g 0 c zs w hH hlt (by omega)).mono ?_
    rintro e w' ⟨rfl, q, os, rfl⟩
    refine ⟨rfl, ?_, (Chg.of_grown (grownBy_sortedI _)).mono (fun k _ hk => by simp [Value.ownBlock]; injection hk with hk; exact hk.symm)⟩
    exact ownsRow_sortedI (ss := zs) (List.length_mergeSort zs) (Nat.zero_le _) hb h1 h2 (by simpa using h3)
theorem sorted_mem {zs : List Int} {x : Int} : x ∈ sorted zs ↔ x ∈ zs := (List.mergeSort_perm zs _).mem_iff
theorem sorted_length (zs : List Int) : (sorted zs).length = zs.length := List.length_mergeSort zs
theorem sorted_rises (zs : List Int) : (sorted zs).Pairwise (fun x y => x ≤ y) := by
  have := List.pairwise_mergeSort (le := fun (x y : Int) => decide (x ≤ y)) (fun a b c h1 h2 => by simp at *; omega) (fun a b => by simp; omega) zs
  exact this.imp (fun h => by simpa using h)
end Go.Proofs.Ytakjakglkfhaaaa
