/-
  slices.Sort at []int by the library's contract: a row of the call's own is sorted.  No conditions.
-/
import Derived.Test.YthgniehfejklhaaGreatDoorProg
import Derived.Test.YthgniehfejklhaaGreatDoorBs8
import Derived.Shelf.Slices.In.SortNone
import Derived.Sort.OwnSortedInts
import Derived.Sort.EveryDepth
namespace Go.Proofs.YthgniehfejklhaaGreatDoor
open Go Go.RowKit Go.Shelf Go.Sort
set_option linter.unusedVariables false

def laysSort_ren : Go.Shelf.Ren := ⟨fun | 189 => 101 | 125 => 116 | 257 => 115 | 128 => 130 | 129 => 131 | 294 => 121 | 295 => 122 | 296 => 123 | 297 => 124 | 298 => 125 | 299 => 126 | 216 => 127 | 300 => 128 | 301 => 129 | 328 => 140 | 329 => 141 | 330 => 142 | 331 => 143 | 332 => 144 | 215 => 145 | 343 => 149 | n => n, fun | 28 => 32 | 3 => 3 | 46 => 178 | 0 => 0 | 51 => 211 | 53 => 213 | 4 => 4 | 183 => 204 | 182 => 203 | 131 => 208 | 5 => 5 | 9 => 9 | 218 => 219 | 222 => 223 | 228 => 227 | 229 => 228 | n => n, fun | n => n⟩
theorem laysSort : Go.Proofs.Lays.n189 Tryz.prog laysSort_ren := {
  mixed := by kernel_rfl,
  f125 := Tryz.func116.trans (congrArg some (by kernel_rfl)),
  f128 := Tryz.func130.trans (congrArg some (by kernel_rfl)),
  f129 := Tryz.func131.trans (congrArg some (by kernel_rfl)),
  f189 := Tryz.func101.trans (congrArg some (by kernel_rfl)),
  f215 := Tryz.func145.trans (congrArg some (by kernel_rfl)),
  f216 := Tryz.func127.trans (congrArg some (by kernel_rfl)),
  f257 := Tryz.func115.trans (congrArg some (by kernel_rfl)),
  f294 := Tryz.func121.trans (congrArg some (by kernel_rfl)),
  f295 := Tryz.func122.trans (congrArg some (by kernel_rfl)),
  f296 := Tryz.func123.trans (congrArg some (by kernel_rfl)),
  f297 := Tryz.func124.trans (congrArg some (by kernel_rfl)),
  f298 := Tryz.func125.trans (congrArg some (by kernel_rfl)),
  f299 := Tryz.func126.trans (congrArg some (by kernel_rfl)),
  f300 := Tryz.func128.trans (congrArg some (by kernel_rfl)),
  f301 := Tryz.func129.trans (congrArg some (by kernel_rfl)),
  f328 := Tryz.func140.trans (congrArg some (by kernel_rfl)),
  f329 := Tryz.func141.trans (congrArg some (by kernel_rfl)),
  f330 := Tryz.func142.trans (congrArg some (by kernel_rfl)),
  f331 := Tryz.func143.trans (congrArg some (by kernel_rfl)),
  f332 := Tryz.func144.trans (congrArg some (by kernel_rfl)),
  f343 := Tryz.func149.trans (congrArg some (by kernel_rfl)),
  t0 := Tryz.underlying0,
  a0 := Tryz.isAgg0,
  z0 := Tryz.sizeOf0,
  v0 := Tryz.zeroValue0,
  t3 := Tryz.underlying3,
  a3 := Tryz.isAgg3,
  z3 := Tryz.sizeOf3,
  v3 := Tryz.zeroValue3,
  t4 := Tryz.underlying4,
  a4 := Tryz.isAgg4,
  z4 := Tryz.sizeOf4,
  v4 := Tryz.zeroValue4,
  t5 := Tryz.underlying5,
  a5 := Tryz.isAgg5,
  z5 := Tryz.sizeOf5,
  v5 := Tryz.zeroValue5,
  t9 := Tryz.underlying9,
  a9 := Tryz.isAgg9,
  z9 := Tryz.sizeOf9,
  v9 := Tryz.zeroValue9,
  t28 := Tryz.underlying32,
  a28 := Tryz.isAgg32,
  z28 := Tryz.sizeOf32,
  v28 := Tryz.zeroValue32,
  t46 := Tryz.underlying178,
  a46 := Tryz.isAgg178,
  z46 := Tryz.sizeOf178,
  v46 := Tryz.zeroValue178,
  t51 := Tryz.underlying211,
  a51 := Tryz.isAgg211,
  z51 := Tryz.sizeOf211,
  v51 := Tryz.zeroValue211,
  t53 := Tryz.underlying213,
  a53 := Tryz.isAgg213,
  z53 := Tryz.sizeOf213,
  v53 := Tryz.zeroValue213,
  t131 := Tryz.underlying208,
  a131 := Tryz.isAgg208,
  z131 := Tryz.sizeOf208,
  v131 := Tryz.zeroValue208,
  t182 := Tryz.underlying203,
  a182 := Tryz.isAgg203,
  z182 := Tryz.sizeOf203,
  v182 := Tryz.zeroValue203,
  t183 := Tryz.underlying204,
  a183 := Tryz.isAgg204,
  z183 := Tryz.sizeOf204,
  v183 := Tryz.zeroValue204,
  t218 := Tryz.underlying219,
  a218 := Tryz.isAgg219,
  z218 := Tryz.sizeOf219,
  v218 := Tryz.zeroValue219,
  t222 := Tryz.underlying223,
  a222 := Tryz.isAgg223,
  z222 := Tryz.sizeOf223,
  v222 := Tryz.zeroValue223,
  t228 := Tryz.underlying227,
  a228 := Tryz.isAgg227,
  z228 := Tryz.sizeOf227,
  v228 := Tryz.zeroValue227,
  t229 := Tryz.underlying228,
  a229 := Tryz.isAgg228,
  z229 := Tryz.sizeOf228,
  v229 := Tryz.zeroValue228 }
def sorted (zs : List Int) : List Int := zs.mergeSort fun x y => decide (x ≤ y)
theorem sort_any (w : World) (v : Value) (n : Nat) (zs : List Int) (h : w.ownsRow 0 3 1 v n (intsV zs)) (hn : n ≤ 1000) :
    Calls Tryz.prog 101 #[v] w fun e w' => e = .returned (.tuple #[]) ∧ w'.ownsRow 0 3 1 v n (intsV (sorted zs)) ∧ Chg (fun k => v.ownBlock = some k) w w' := by
  have hl : zs.length = n := by have := h.1; simpa [intsV] using this
  rcases h.2 with ⟨rfl, h0⟩ | ⟨g, c, cur, rfl, _, hb, h1, h2, h3, h4⟩
  · have hz : zs = [] := List.eq_nil_of_length_eq_zero (by omega)
    subst hz; subst h0
    refine (calls_of_every_depth fun D => AnyS.slices_Sort_int_none_alone laysSort D none 0 w).mono ?_
    rintro e w' ⟨rfl, rfl⟩
    exact ⟨rfl, by simpa [sorted] using h, Chg.refl _ _⟩
  · subst hl
    have hlt : g < w.heap.size := (Array.getElem?_eq_some_iff.1 hb).1
    have hH : Holds (Value.int .i64) w g 0 zs.toArray := holds_of_blockI hb (by simpa [intsV] using h4)
    refine (calls_of_every_depth fun D => AnyS.slices_Sort_int_alone laysSort D g 0 c zs w hH hlt (by omega)).mono ?_
    rintro e w' ⟨rfl, q, os, rfl⟩
    refine ⟨rfl, ?_, (Chg.of_grown (grownBy_sortedI _)).mono (fun k _ hk => by simp [Value.ownBlock]; injection hk with hk; exact hk.symm)⟩
    exact ownsRow_sortedI (ss := zs) (List.length_mergeSort zs) (Nat.zero_le _) hb h1 h2 (by simpa using h3)
theorem sorted_mem {zs : List Int} {x : Int} : x ∈ sorted zs ↔ x ∈ zs := (List.mergeSort_perm zs _).mem_iff
theorem sorted_length (zs : List Int) : (sorted zs).length = zs.length := List.length_mergeSort zs
theorem sorted_rises (zs : List Int) : (sorted zs).Pairwise (fun x y => x ≤ y) := by
  have := List.pairwise_mergeSort (le := fun (x y : Int) => decide (x ≤ y)) (fun a b c h1 h2 => by simp at *; omega) (fun a b => by simp; omega) zs
  exact this.imp (fun h => by simpa using h)
end Go.Proofs.YthgniehfejklhaaGreatDoor
