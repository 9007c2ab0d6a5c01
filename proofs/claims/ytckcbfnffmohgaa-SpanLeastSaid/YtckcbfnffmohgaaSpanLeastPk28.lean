/-
  slices.Sort at []int by the library's contract: a row of the call's own is sorted.  No conditions.
-/
import Derived.Test.YtckcbfnffmohgaaProg
import Derived.Test.YtckcbfnffmohgaaSpanLeastPk19
import Derived.Shelf.Slices.In.SortNone
import Derived.Sort.OwnSortedInts
import Derived.Sort.EveryDepth
namespace Go.Proofs.Ytckcbfnffmohgaa
open Go Go.RowKit Go.Shelf Go.Sort
set_option linter.unusedVariables false

def laysSort_ren : Go.Shelf.Ren := ⟨fun | 189 => 16 | 125 => 30 | 257 => 29 | 128 => 49 | 129 => 50 | 294 => 40 | 295 => 41 | 296 => 42 | 297 => 43 | 298 => 44 | 299 => 45 | 216 => 46 | 300 => 47 | 301 => 48 | 328 => 61 | 329 => 62 | 330 => 63 | 331 => 64 | 332 => 65 | 215 => 66 | 343 => 72 | n => n, fun | 28 => 32 | 3 => 3 | 46 => 69 | 0 => 0 | 51 => 92 | 53 => 94 | 4 => 4 | 183 => 84 | 182 => 83 | 131 => 89 | 5 => 5 | 9 => 9 | 218 => 104 | 222 => 108 | 228 => 115 | 229 => 116 | n => n, fun | n => n⟩
theorem laysSort : Go.Proofs.Lays.n189 Try.prog laysSort_ren := {
  mixed := by kernel_rfl,
  f125 := Try.func30.trans (congrArg some (by kernel_rfl)),
  f128 := Try.func49.trans (congrArg some (by kernel_rfl)),
  f129 := Try.func50.trans (congrArg some (by kernel_rfl)),
  f189 := Try.func16.trans (congrArg some (by kernel_rfl)),
  f215 := Try.func66.trans (congrArg some (by kernel_rfl)),
  f216 := Try.func46.trans (congrArg some (by kernel_rfl)),
  f257 := Try.func29.trans (congrArg some (by kernel_rfl)),
  f294 := Try.func40.trans (congrArg some (by kernel_rfl)),
  f295 := Try.func41.trans (congrArg some (by kernel_rfl)),
  f296 := Try.func42.trans (congrArg some (by kernel_rfl)),
  f297 := Try.func43.trans (congrArg some (by kernel_rfl)),
  f298 := Try.func44.trans (congrArg some (by kernel_rfl)),
  f299 := Try.func45.trans (congrArg some (by kernel_rfl)),
  f300 := Try.func47.trans (congrArg some (by kernel_rfl)),
  f301 := Try.func48.trans (congrArg some (by kernel_rfl)),
  f328 := Try.func61.trans (congrArg some (by kernel_rfl)),
  f329 := Try.func62.trans (congrArg some (by kernel_rfl)),
  f330 := Try.func63.trans (congrArg some (by kernel_rfl)),
  f331 := Try.func64.trans (congrArg some (by kernel_rfl)),
  f332 := Try.func65.trans (congrArg some (by kernel_rfl)),
  f343 := Try.func72.trans (congrArg some (by kernel_rfl)),
  t0 := Try.underlying0,
  a0 := Try.isAgg0,
  z0 := Try.sizeOf0,
  v0 := Try.zeroValue0,
  t3 := Try.underlying3,
  a3 := Try.isAgg3,
  z3 := Try.sizeOf3,
  v3 := Try.zeroValue3,
  t4 := Try.underlying4,
  a4 := Try.isAgg4,
  z4 := Try.sizeOf4,
  v4 := Try.zeroValue4,
  t5 := Try.underlying5,
  a5 := Try.isAgg5,
  z5 := Try.sizeOf5,
  v5 := Try.zeroValue5,
  t9 := Try.underlying9,
  a9 := Try.isAgg9,
  z9 := Try.sizeOf9,
  v9 := Try.zeroValue9,
  t28 := Try.underlying32,
  a28 := Try.isAgg32,
  z28 := Try.sizeOf32,
  v28 := Try.zeroValue32,
  t46 := Try.underlying69,
  a46 := Try.isAgg69,
  z46 := Try.sizeOf69,
  v46 := Try.zeroValue69,
  t51 := Try.underlying92,
  a51 := Try.isAgg92,
  z51 := Try.sizeOf92,
  v51 := Try.zeroValue92,
  t53 := Try.underlying94,
  a53 := Try.isAgg94,
  z53 := Try.sizeOf94,
  v53 := Try.zeroValue94,
  t131 := Try.underlying89,
  a131 := Try.isAgg89,
  z131 := Try.sizeOf89,
  v131 := Try.zeroValue89,
  t182 := Try.underlying83,
  a182 := Try.isAgg83,
  z182 := Try.sizeOf83,
  v182 := Try.zeroValue83,
  t183 := Try.underlying84,
  a183 := Try.isAgg84,
  z183 := Try.sizeOf84,
  v183 := Try.zeroValue84,
  t218 := Try.underlying104,
  a218 := Try.isAgg104,
  z218 := Try.sizeOf104,
  v218 := Try.zeroValue104,
  t222 := Try.underlying108,
  a222 := Try.isAgg108,
  z222 := Try.sizeOf108,
  v222 := Try.zeroValue108,
  t228 := Try.underlying115,
  a228 := Try.isAgg115,
  z228 := Try.sizeOf115,
  v228 := Try.zeroValue115,
  t229 := Try.underlying116,
  a229 := Try.isAgg116,
  z229 := Try.sizeOf116,
  v229 := Try.zeroValue116 }
def sorted (zs : List Int) : List Int := zs.mergeSort fun x y => decide (x ≤ y)
theorem sort_any (w : World) (v : Value) (n : Nat) (zs : List Int) (h : w.ownsRow 0 3 1 v n (intsV zs)) (hn : n ≤ 1000) :
    Calls Try.prog 16 #[v] w fun e w' => e = .returned (.tuple #[]) ∧ w'.ownsRow 0 3 1 v n (intsV (sorted zs)) ∧ Chg (fun k => v.ownBlock = some k) w w' := by
  have hl : zs.length = n := by have := h.1; simpa [intsV] using this
  rcases h.2 with ⟨rfl, h0⟩ | ⟨g, c, cur, rfl, _, hb, h1, h2, h3, h4⟩
  · have hz : zs = [] := List.eq_nil_of_length_eq_zero (by omega)
    subst hz; subst h0
    refine (calls_of_every_depth fun D => AnyS.slices_Sort_int_none_alone laysSort D none 0 w).mono ?_
    rintro e w' ⟨rfl, rfl⟩
    exact ⟨rfl, by simpa [sorted] using h, Chg.refl _ _⟩
  · subst hl
    have hlt : g < w.heap.size := (Array.getElem?_eq_some_iff.1 hb).1
    have hH : Holds (Value.int .i64) w g 0 zs.toArray := holds_of_blockI hb (by simpa [intsV] using h4)
    refine (calls_of_every_depth fun D => AnyS.slices_Sort_int_alone laysSort D g 0 c zs w hH hlt (by omega)).mono ?_
    rintro e w' ⟨rfl, q, os, rfl⟩
    refine ⟨rfl, ?_, (Chg.of_grown (grownBy_sortedI _)).mono (fun k _ hk => by simp [Value.ownBlock]; injection hk with hk; exact hk.symm)⟩
    exact ownsRow_sortedI (ss := zs) (List.length_mergeSort zs) (Nat.zero_le _) hb h1 h2 (by simpa using h3)
theorem sorted_mem {zs : List Int} {x : Int} : x ∈ sorted zs ↔ x ∈ zs := (List.mergeSort_perm zs _).mem_iff
theorem sorted_length (zs : List Int) : (sorted zs).length = zs.length := List.length_mergeSort zs
theorem sorted_rises (zs : List Int) : (sorted zs).Pairwise (fun x y => x ≤ y) := by
  have := List.pairwise_mergeSort (le := fun (x y : Int) => decide (x ≤ y)) (fun a b c h1 h2 => by simp at *; omega) (fun a b => by simp; omega) zs
  exact this.imp (fun h => by simpa using h)
end Go.Proofs.Ytckcbfnffmohgaa
