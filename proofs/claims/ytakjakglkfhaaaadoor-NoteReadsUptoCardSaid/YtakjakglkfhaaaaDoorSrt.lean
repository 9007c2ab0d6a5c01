/-
  slices.Sort at []int by the library's contract: a row of the call's own is sorted.  No conditions.
-/
import Derived.Test.YtakjakglkfhaaaaDoorProg
import Derived.Test.YtakjakglkfhaaaaDoorPf0
import Derived.Shelf.Slices.In.SortNone
import Derived.Sort.OwnSortedInts
import Derived.Sort.EveryDepth
namespace Go.Proofs.YtakjakglkfhaaaaDoor
open Go Go.RowKit Go.Shelf Go.Sort
set_option linter.unusedVariables false

def laysSort_ren : Go.Shelf.Ren := ⟨fun | 189 => 48 | 125 => 61 | 257 => 62 | 128 => 83 | 129 => 84 | 294 => 85 | 295 => 86 | 296 => 87 | 297 => 88 | 298 => 89 | 299 => 90 | 216 => 91 | 300 => 92 | 301 => 93 | 328 => 112 | 329 => 108 | 330 => 109 | 331 => 113 | 332 => 114 | 215 => 115 | 343 => 124 | n => n, fun | 28 => 53 | 3 => 3 | 46 => 98 | 0 => 0 | 51 => 130 | 53 => 132 | 4 => 4 | 183 => 123 | 182 => 122 | 131 => 127 | 5 => 5 | 9 => 9 | 218 => 163 | 222 => 167 | 228 => 183 | 229 => 184 | n => n, fun | n => n⟩
theorem laysSort : Go.Proofs.Lays.n189 Tryd.prog laysSort_ren := {
  mixed := by kernel_rfl,
  f125 := Tryd.func61.trans (congrArg some (by kernel_rfl)),
  f128 := Tryd.func83.trans (congrArg some (by kernel_rfl)),
  f129 := Tryd.func84.trans (congrArg some (by kernel_rfl)),
  f189 := Tryd.func48.trans (congrArg some (by kernel_rfl)),
  f215 := Tryd.func115.trans (congrArg some (by kernel_rfl)),
  f216 := Tryd.func91.trans (congrArg some (by kernel_rfl)),
  f257 := Tryd.func62.trans (congrArg some (by kernel_rfl)),
  f294 := Tryd.func85.trans (congrArg some (by kernel_rfl)),
  f295 := Tryd.func86.trans (congrArg some (by kernel_rfl)),
  f296 := Tryd.func87.trans (congrArg some (by kernel_rfl)),
  f297 := Tryd.func88.trans (congrArg some (by kernel_rfl)),
  f298 := Tryd.func89.trans (congrArg some (by kernel_rfl)),
  f299 := Tryd.func90.trans (congrArg some (by kernel_rfl)),
  f300 := Tryd.func92.trans (congrArg some (by kernel_rfl)),
  f301 := Tryd.func93.trans (congrArg some (by kernel_rfl)),
  f328 := Tryd.func112.trans (congrArg some (by kernel_rfl)),
  f329 := Tryd.func108.trans (congrArg some (by kernel_rfl)),
  f330 := Tryd.func109.trans (congrArg some (by kernel_rfl)),
  f331 := Tryd.func113.trans (congrArg some (by kernel_rfl)),
  f332 := Tryd.func114.trans (congrArg some (by kernel_rfl)),
  f343 := Tryd.func124.trans (congrArg some (by kernel_rfl)),
  t0 := Tryd.underlying0,
  a0 := Tryd.isAgg0,
  z0 := Tryd.sizeOf0,
  v0 := Tryd.zeroValue0,
  t3 := Tryd.underlying3,
  a3 := Tryd.isAgg3,
  z3 := Tryd.sizeOf3,
  v3 := Tryd.zeroValue3,
  t4 := Tryd.underlying4,
  a4 := Tryd.isAgg4,
  z4 := Tryd.sizeOf4,
  v4 := Tryd.zeroValue4,
  t5 := Tryd.underlying5,
  a5 := Tryd.isAgg5,
  z5 := Tryd.sizeOf5,
  v5 := Tryd.zeroValue5,
  t9 := Tryd.underlying9,
  a9 := Tryd.isAgg9,
  z9 := Tryd.sizeOf9,
  v9 := Tryd.zeroValue9,
  t28 := Tryd.underlying53,
  a28 := Tryd.isAgg53,
  z28 := Tryd.sizeOf53,
  v28 := Tryd.zeroValue53,
  t46 := Tryd.underlying98,
  a46 := Tryd.isAgg98,
  z46 := Tryd.sizeOf98,
  v46 := Tryd.zeroValue98,
  t51 := Tryd.underlying130,
  a51 := Tryd.isAgg130,
  z51 := Tryd.sizeOf130,
  v51 := Tryd.zeroValue130,
  t53 := Tryd.underlying132,
  a53 := Tryd.isAgg132,
  z53 := Tryd.sizeOf132,
  v53 := Tryd.zeroValue132,
  t131 := Tryd.underlying127,
  a131 := Tryd.isAgg127,
  z131 := Tryd.sizeOf127,
  v131 := Tryd.zeroValue127,
  t182 := Tryd.underlying122,
  a182 := Tryd.isAgg122,
  z182 := Tryd.sizeOf122,
  v182 := Tryd.zeroValue122,
  t183 := Tryd.underlying123,
  a183 := Tryd.isAgg123,
  z183 := Tryd.sizeOf123,
  v183 := Tryd.zeroValue123,
  t218 := Tryd.underlying163,
  a218 := Tryd.isAgg163,
  z218 := Tryd.sizeOf163,
  v218 := Tryd.zeroValue163,
  t222 := Tryd.underlying167,
  a222 := Tryd.isAgg167,
  z222 := Tryd.sizeOf167,
  v222 := Tryd.zeroValue167,
  t228 := Tryd.underlying183,
  a228 := Tryd.isAgg183,
  z228 := Tryd.sizeOf183,
  v228 := Tryd.zeroValue183,
  t229 := Tryd.underlying184,
  a229 := Tryd.isAgg184,
  z229 := Tryd.sizeOf184,
  v229 := Tryd.zeroValue184 }
def sorted (zs : List Int) : List Int := zs.mergeSort fun x y => decide (x ≤ y)
theorem sort_any (w : World) (v : Value) (n : Nat) (zs : List Int) (h : w.ownsRow 0 3 1 v n (intsV zs)) (hn : n ≤ 1000) :
    Calls Tryd.prog 48 #[v] w fun e w' => e = .returned (.tuple #[]) ∧ w'.ownsRow 0 3 1 v n (intsV (sorted zs)) ∧ Chg (fun k => v.ownBlock = some k) w w' := by
  have hl : zs.length = n := by have := h.1; simpa [intsV] using this
  rcases h.2 with ⟨rfl, h0⟩ | ⟨g, c, cur, rfl, _, hb, h1, h2, h3, h4⟩
  · have hz : zs = [] := List.eq_nil_of_length_eq_zero (by omega)
    subst hz; subst h0
    refine (calls_of_every_depth fun D => AnyS.slices_Sort_int_none_alone laysSort D none 0 w).mono ?_
    rintro e w' ⟨rfl, rfl⟩
    exact ⟨rfl, by simpa [sorted] using h, Chg.refl _ _⟩
  · subst hl
    have hlt : g < w.heap.size := (Array.getElem?_eq_some_iff.1 hb).1
    have hH : Holds (Value.int .i64) w g 0 zs.toArray := holds_of_blockI hb (by simpa [intsV] using h4)
    refine (calls_of_every_depth fun D => AnyS.slices_Sort_int_alone laysSort D g 0 c zs w hH hlt (by omega)).mono ?_
    rintro e w' ⟨rfl, q, os, rfl⟩
    refine ⟨rfl, ?_, (Chg.of_grown (grownBy_sortedI _)).mono (fun k _ hk => by simp [Value.ownBlock]; injection hk with hk; exact hk.symm)⟩
    exact ownsRow_sortedI (ss := zs) (List.length_mergeSort zs) (Nat.zero_le _) hb h1 h2 (by simpa using h3)
theorem sorted_mem {zs : List Int} {x : Int} : x ∈ sorted zs ↔ x ∈ zs := (List.mergeSort_perm zs _).mem_iff
theorem sorted_length (zs : List Int) : (sorted zs).length = zs.length := List.length_mergeSort zs
theorem sorted_rises (zs : List Int) : (sorted zs).Pairwise (fun x y => x ≤ y) := by
  have := List.pairwise_mergeSort (le := fun (x y : Int) => decide (x ≤ y)) (fun a b c h1 h2 => by simp at *; omega) (fun a b => by simp; omega) zs
  exact this.imp (fun h => by simpa using h)
end Go.Proofs.YtakjakglkfhaaaaDoor
