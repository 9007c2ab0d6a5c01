/-
  slices.Sort at []int by the library's contract: a row of the call's own is sorted.  No conditions.
-/
import Derived.Test.YtckcbfnffmohgaaDoorProg
import Derived.Test.YtckcbfnffmohgaaDoorPf0
import Derived.Shelf.Slices.In.SortNone
import Derived.Sort.OwnSortedInts
import Derived.Sort.EveryDepth
namespace Go.Proofs.YtckcbfnffmohgaaDoor
open Go Go.RowKit Go.Shelf Go.Sort
set_option linter.unusedVariables false

def laysSort_ren : Go.Shelf.Ren := ⟨fun | 189 => 19 | 125 => 27 | 257 => 26 | 128 => 45 | 129 => 46 | 294 => 36 | 295 => 37 | 296 => 38 | 297 => 39 | 298 => 40 | 299 => 41 | 216 => 42 | 300 => 43 | 301 => 44 | 328 => 51 | 329 => 52 | 330 => 53 | 331 => 54 | 332 => 55 | 215 => 56 | 343 => 59 | n => n, fun | 28 => 31 | 3 => 3 | 46 => 62 | 0 => 0 | 51 => 90 | 53 => 92 | 4 => 4 | 183 => 84 | 182 => 83 | 131 => 41 | 5 => 5 | 9 => 9 | 218 => 108 | 222 => 112 | 228 => 117 | 229 => 118 | n => n, fun | n => n⟩
theorem laysSort : Go.Proofs.Lays.n189 Tryd.prog laysSort_ren := {
  mixed := by kernel_rfl,
  f125 := Tryd.func27.trans (congrArg some (by kernel_rfl)),
  f128 := Tryd.func45.trans (congrArg some (by kernel_rfl)),
  f129 := Tryd.func46.trans (congrArg some (by kernel_rfl)),
  f189 := Tryd.func19.trans (congrArg some (by kernel_rfl)),
  f215 := Tryd.func56.trans (congrArg some (by kernel_rfl)),
  f216 := Tryd.func42.trans (congrArg some (by kernel_rfl)),
  f257 := Tryd.func26.trans (congrArg some (by kernel_rfl)),
  f294 := Tryd.func36.trans (congrArg some (by kernel_rfl)),
  f295 := Tryd.func37.trans (congrArg some (by kernel_rfl)),
  f296 := Tryd.func38.trans (congrArg some (by kernel_rfl)),
  f297 := Tryd.func39.trans (congrArg some (by kernel_rfl)),
  f298 := Tryd.func40.trans (congrArg some (by kernel_rfl)),
  f299 := Tryd.func41.trans (congrArg some (by kernel_rfl)),
  f300 := Tryd.func43.trans (congrArg some (by kernel_rfl)),
  f301 := Tryd.func44.trans (congrArg some (by kernel_rfl)),
  f328 := Tryd.func51.trans (congrArg some (by kernel_rfl)),
  f329 := Tryd.func52.trans (congrArg some (by kernel_rfl)),
  f330 := Tryd.func53.trans (congrArg some (by kernel_rfl)),
  f331 := Tryd.func54.trans (congrArg some (by kernel_rfl)),
  f332 := Tryd.func55.trans (congrArg some (by kernel_rfl)),
  f343 := Tryd.func59.trans (congrArg some (by kernel_rfl)),
  t0 := Tryd.underlying0,
  a0 := Tryd.isAgg0,
  z0 := Tryd.sizeOf0,
  v0 := Tryd.zeroValue0,
  t3 := Tryd.underlying3,
  a3 := Tryd.isAgg3,
  z3 := Tryd.sizeOf3,
  v3 := Tryd.zeroValue3,
  t4 := Tryd.underlying4,
  a4 := Tryd.isAgg4,
  z4 := Tryd.sizeOf4,
  v4 := Tryd.zeroValue4,
  t5 := Tryd.underlying5,
  a5 := Tryd.isAgg5,
  z5 := Tryd.sizeOf5,
  v5 := Tryd.zeroValue5,
  t9 := Tryd.underlying9,
  a9 := Tryd.isAgg9,
  z9 := Tryd.sizeOf9,
  v9 := Tryd.zeroValue9,
  t28 := Tryd.underlying31,
  a28 := Tryd.isAgg31,
  z28 := Tryd.sizeOf31,
  v28 := Tryd.zeroValue31,
  t46 := Tryd.underlying62,
  a46 := Tryd.isAgg62,
  z46 := Tryd.sizeOf62,
  v46 := Tryd.zeroValue62,
  t51 := Tryd.underlying90,
  a51 := Tryd.isAgg90,
  z51 := Tryd.sizeOf90,
  v51 := Tryd.zeroValue90,
  t53 := Tryd.underlying92,
  a53 := Tryd.isAgg92,
  z53 := Tryd.sizeOf92,
  v53 := Tryd.zeroValue92,
  t131 := Tryd.underlying41,
  a131 := Tryd.isAgg41,
  z131 := Tryd.sizeOf41,
  v131 := Tryd.zeroValue41,
  t182 := Tryd.underlying83,
  a182 := Tryd.isAgg83,
  z182 := Tryd.sizeOf83,
  v182 := Tryd.zeroValue83,
  t183 := Tryd.underlying84,
  a183 := Tryd.isAgg84,
  z183 := Tryd.sizeOf84,
  v183 := Tryd.zeroValue84,
  t218 := Tryd.underlying108,
  a218 := Tryd.isAgg108,
  z218 := Tryd.sizeOf108,
  v218 := Tryd.zeroValue108,
  t222 := Tryd.underlying112,
  a222 := Tryd.isAgg112,
  z222 := Tryd.sizeOf112,
  v222 := Tryd.zeroValue112,
  t228 := Tryd.underlying117,
  a228 := Tryd.isAgg117,
  z228 := Tryd.sizeOf117,
  v228 := Tryd.zeroValue117,
  t229 := Tryd.underlying118,
  a229 := Tryd.isAgg118,
  z229 := Tryd.sizeOf118,
  v229 := Tryd.zeroValue118 }
def sorted (zs : List Int) : List Int := zs.mergeSort fun x y => decide (x ≤ y)
theorem sort_any (w : World) (v : Value) (n : Nat) (zs : List Int) (h : w.ownsRow 0 3 1 v n (intsV zs)) (hn : n ≤ 1000) :
    Calls Tryd.prog 19 #[v] w fun e w' => e = .returned (.tuple #[]) ∧ w'.ownsRow 0 3 1 v n (intsV (sorted zs)) ∧ Chg (fun k => v.ownBlock = some k) w w' := by
  have hl : zs.length = n := by have := h.1; simpa [intsV] using this
  rcases h.2 with ⟨rfl, h0⟩ | ⟨g, c, cur, rfl, _, hb, h1, h2, h3, h4⟩
  · have hz : zs = [] := List.eq_nil_of_length_eq_zero (by omega)
    subst hz; subst h0
    refine (calls_of_every_depth fun D => AnyS.slices_Sort_int_none_alone laysSort D none 0 w).mono ?_
    rintro e w' ⟨rfl, rfl⟩
    exact ⟨rfl, by simpa [sorted] using h, Chg.refl _ _⟩
  · subst hl
    have hlt : g < w.heap.size := (Array.getElem?_eq_some_iff.1 hb).1
    have hH : Holds (Value.int .i64) w g 0 zs.toArray := holds_of_blockI hb (by simpa [intsV] using h4)
    refine (calls_of_every_depth fun D => AnyS.slices_Sort_int_alone laysSort D g 0 c zs w hH hlt (by omega)).mono ?_
    rintro e w' ⟨rfl, q, os, rfl⟩
    refine ⟨rfl, ?_, (Chg.of_grown (grownBy_sortedI _)).mono (fun k _ hk => by simp [Value.ownBlock]; injection hk with hk; exact hk.symm)⟩
    exact ownsRow_sortedI (ss := zs) (List.length_mergeSort zs) (Nat.zero_le _) hb h1 h2 (by simpa using h3)
theorem sorted_mem {zs : List Int} {x : Int} : x ∈ sorted zs ↔ x ∈ zs := (List.mergeSort_perm zs _).mem_iff
theorem sorted_length (zs : List Int) : (sorted zs).length = zs.length := List.length_mergeSort zs
theorem sorted_rises (zs : List Int) : (sorted zs).Pairwise (fun x y => x ≤ y) := by
  have := List.pairwise_mergeSort (le := fun (x y : Int) => decide (x ≤ y)) (fun a b c h1 h2 => by simp at *; omega) (fun a b => by simp; omega) zs
  exact this.imp (fun h => by simpa using h)
end Go.Proofs.YtckcbfnffmohgaaDoor
