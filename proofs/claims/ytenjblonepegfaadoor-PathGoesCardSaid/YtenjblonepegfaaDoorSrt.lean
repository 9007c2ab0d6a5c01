/-
  slices.Sort at []int by the library's contract: a row of the call's own is sorted. The numbers of functions and types are this seat's. No conditions.
-/
import Derived.Test.YtenjblonepegfaaDoorProg
import Derived.Test.YtenjblonepegfaaDoorPf1
import Derived.Shelf.Slices.In.SortNone
import Derived.Sort.OwnSortedInts
import Derived.Sort.EveryDepth
namespace Go.Proofs.YtenjblonepegfaaDoor
open Go Go.RowKit Go.Shelf Go.Sort
set_option linter.unusedVariables false

def laysSort_ren : Go.Shelf.Ren := ⟨fun | 189 => 88 | 125 => 104 | 257 => 103 | 128 => 123 | 129 => 124 | 294 => 114 | 295 => 115 | 296 => 116 | 297 => 117 | 298 => 118 | 299 => 119 | 216 => 120 | 300 => 121 | 301 => 122 | 328 => 129 | 329 => 130 | 330 => 131 | 331 => 132 | 332 => 133 | 215 => 134 | 343 => 137 | n => n, fun | 28 => 34 | 3 => 3 | 46 => 178 | 0 => 0 | 51 => 206 | 53 => 208 | 4 => 4 | 183 => 200 | 182 => 199 | 131 => 111 | 5 => 5 | 9 => 9 | 218 => 223 | 222 => 227 | 228 => 232 | 229 => 233 | n => n, fun | n => n⟩
theorem laysSort : Go.Proofs.Lays.n189 Tryd.prog laysSort_ren := {
  mixed := by kernel_rfl,
  f125 := Tryd.func104.trans (congrArg some (by kernel_rfl)),
  f128 := Tryd.func123.trans (congrArg some (by kernel_rfl)),
  f129 := Tryd.func124.trans (congrArg some (by kernel_rfl)),
  f189 := Tryd.func88.trans (congrArg some (by kernel_rfl)),
  f215 := Tryd.func134.trans (congrArg some (by kernel_rfl)),
  f216 := Tryd.func120.trans (congrArg some (by kernel_rfl)),
  f257 := Tryd.func103.trans (congrArg some (by kernel_rfl)),
  f294 := Tryd.func114.trans (congrArg some (by kernel_rfl)),
  f295 := Tryd.func115.trans (congrArg some (by kernel_rfl)),
  f296 := Tryd.func116.trans (congrArg some (by kernel_rfl)),
  f297 := Tryd.func117.trans (congrArg some (by kernel_rfl)),
  f298 := Tryd.func118.trans (congrArg some (by kernel_rfl)),
  f299 := Tryd.func119.trans (congrArg some (by kernel_rfl)),
  f300 := Tryd.func121.trans (congrArg some (by kernel_rfl)),
  f301 := Tryd.func122.trans (congrArg some (by kernel_rfl)),
  f328 := Tryd.func129.trans (congrArg some (by kernel_rfl)),
  f329 := Tryd.func130.trans (congrArg some (by kernel_rfl)),
  f330 := Tryd.func131.trans (congrArg some (by kernel_rfl)),
  f331 := Tryd.func132.trans (congrArg some (by kernel_rfl)),
  f332 := Tryd.func133.trans (congrArg some (by kernel_rfl)),
  f343 := Tryd.func137.trans (congrArg some (by kernel_rfl)),
  t0 := Tryd.underlying0,
  a0 := Tryd.isAgg0,
  z0 := Tryd.sizeOf0,
  v0 := Tryd.zeroValue0,
  t3 := Tryd.underlying3,
  a3 := Tryd.isAgg3,
  z3 := Tryd.sizeOf3,
  v3 := Tryd.zeroValue3,
  t4 := Tryd.underlying4,
  a4 := Tryd.isAgg4,
  z4 := Tryd.sizeOf4,
  v4 := Tryd.zeroValue4,
  t5 := Tryd.underlying5,
  a5 := Tryd.isAgg5,
  z5 := Tryd.sizeOf5,
  v5 := Tryd.zeroValue5,
  t9 := Tryd.underlying9,
  a9 := Tryd.isAgg9,
  z9 := Tryd.sizeOf9,
  v9 := Tryd.zeroValue9,
  t28 := Tryd.underlying34,
  a28 := Tryd.isAgg34,
  z28 := Tryd.sizeOf34,
  v28 := Tryd.zeroValue34,
  t46 := Tryd.underlying178,
  a46 := Tryd.isAgg178,
  z46 := Tryd.sizeOf178,
  v46 := Tryd.zeroValue178,
  t51 := Tryd.underlying206,
  a51 := Tryd.isAgg206,
  z51 := Tryd.sizeOf206,
  v51 := Tryd.zeroValue206,
  t53 := Tryd.underlying208,
  a53 := Tryd.isAgg208,
  z53 := Tryd.sizeOf208,
  v53 := Tryd.zeroValue208,
  t131 := Tryd.underlying111,
  a131 := Tryd.isAgg111,
  z131 := Tryd.sizeOf111,
  v131 := Tryd.zeroValue111,
  t182 := Tryd.underlying199,
  a182 := Tryd.isAgg199,
  z182 := Tryd.sizeOf199,
  v182 := Tryd.zeroValue199,
  t183 := Tryd.underlying200,
  a183 := Tryd.isAgg200,
  z183 := Tryd.sizeOf200,
  v183 := Tryd.zeroValue200,
  t218 := Tryd.underlying223,
  a218 := Tryd.isAgg223,
  z218 := Tryd.sizeOf223,
  v218 := Tryd.zeroValue223,
  t222 := Tryd.underlying227,
  a222 := Tryd.isAgg227,
  z222 := Tryd.sizeOf227,
  v222 := Tryd.zeroValue227,
  t228 := Tryd.underlying232,
  a228 := Tryd.isAgg232,
  z228 := Tryd.sizeOf232,
  v228 := Tryd.zeroValue232,
  t229 := Tryd.underlying233,
  a229 := Tryd.isAgg233,
  z229 := Tryd.sizeOf233,
  v229 := Tryd.zeroValue233 }
def sorted (zs : List Int) : List Int := zs.mergeSort fun x y => decide (x ≤ y)
theorem sort_any (w : World) (v : Value) (n : Nat) (zs : List Int) (h : w.ownsRow 0 3 1 v n (intsV zs)) (hn : n ≤ 1000) :
    Calls Tryd.prog 88 #[v] w fun e w' => e = .returned (.tuple #[]) ∧ w'.ownsRow 0 3 1 v n (intsV (sorted zs)) ∧ Chg (fun k => v.ownBlock = some k) w w' := by
  have hl : zs.length = n := by have := h.1; simpa [intsV] using this
  rcases h.2 with ⟨rfl, h0⟩ | ⟨g, c, cur, rfl, _, hb, h1, h2, h3, h4⟩
  · have hz : zs = [] := List.eq_nil_of_length_eq_zero (by omega)
    subst hz; subst h0
    refine (calls_of_every_depth fun D => AnyS.slices_Sort_int_none_alone laysSort D none 0 w).mono ?_
    rintro e w' ⟨rfl, rfl⟩
    exact ⟨rfl, by simpa [sorted] using h, Chg.refl _ _⟩
  · subst hl
    have hlt : g < w.heap.size := (Array.getElem?_eq_some_iff.1 hb).1
    have hH : Holds (Value.int .i64) w g 0 zs.toArray := holds_of_blockI hb (by simpa [intsV] using h4)
    refine (calls_of_every_depth fun D => AnyS.slices_Sort_int_alone laysSort D g 0 c zs w hH hlt (by omega)).mono ?_
    rintro e w' ⟨rfl, q, os, rfl⟩
    refine ⟨rfl, ?_, (Chg.of_grown (grownBy_sortedI _)).mono (fun k _ hk => by simp [Value.ownBlock]; injection hk with hk; exact hk.symm)⟩
    exact ownsRow_sortedI (ss := zs) (List.length_mergeSort zs) (Nat.zero_le _) hb h1 h2 (by simpa using h3)
theorem sorted_mem {zs : List Int} {x : Int} : x ∈ sorted zs ↔ x ∈ zs := (List.mergeSort_perm zs _).mem_iff
theorem sorted_length (zs : List Int) : (sorted zs).length = zs.length := List.length_mergeSort zs
theorem sorted_rises (zs : List Int) : (sorted zs).Pairwise (fun x y => x ≤ y) := by
  have := List.pairwise_mergeSort (le := fun (x y : Int) => decide (x ≤ y)) (fun a b c h1 h2 => by simp at *; omega) (fun a b => by simp; omega) zs
  exact this.imp (fun h => by simpa using h)
end Go.Proofs.YtenjblonepegfaaDoor
