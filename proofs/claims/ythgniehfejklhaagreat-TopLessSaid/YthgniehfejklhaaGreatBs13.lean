/-
  slices.Sort at []int by the library's contract: a row of the call's own is sorted.  No conditions.
-/
import Derived.Test.YthgniehfejklhaaGreatProg
import Derived.Test.YthgniehfejklhaaGreatBs7
import Derived.Shelf.Slices.In.SortNone
import Derived.Sort.OwnSortedInts
import Derived.Sort.EveryDepth
namespace Go.Proofs.YthgniehfejklhaaGreat
open Go Go.RowKit Go.Shelf Go.Sort
set_option linter.unusedVariables false

def laysSort_ren : Go.Shelf.Ren := ⟨fun | 189 => 66 | 125 => 100 | 257 => 105 | 128 => 121 | 129 => 122 | 294 => 126 | 295 => 127 | 296 => 128 | 297 => 129 | 298 => 130 | 299 => 131 | 216 => 132 | 300 => 133 | 301 => 134 | 328 => 146 | 329 => 142 | 330 => 143 | 331 => 147 | 332 => 148 | 215 => 149 | 343 => 154 | n => n, fun | 28 => 23 | 3 => 3 | 46 => 167 | 0 => 0 | 51 => 189 | 53 => 191 | 4 => 4 | 183 => 182 | 182 => 181 | 131 => 186 | 5 => 5 | 9 => 9 | 218 => 205 | 222 => 209 | 228 => 216 | 229 => 217 | n => n, fun | n => n⟩
theorem laysSort : Go.Proofs.Lays.n189 Tryz.prog laysSort_ren := {
  mixed := by kernel_rfl,
  f125 := Tryz.func100.trans (congrArg some (by kernel_rfl)),
  f128 := Tryz.func121.trans (congrArg some (by kernel_rfl)),
  f129 := Tryz.func122.trans (congrArg some (by kernel_rfl)),
  f189 := Tryz.func66.trans (congrArg some (by kernel_rfl)),
  f215 := Tryz.func149.trans (congrArg some (by kernel_rfl)),
  f216 := Tryz.func132.trans (congrArg some (by kernel_rfl)),
  f257 := Tryz.func105.trans (congrArg some (by kernel_rfl)),
  f294 := Tryz.func126.trans (congrArg some (by kernel_rfl)),
  f295 := Tryz.func127.trans (congrArg some (by kernel_rfl)),
  f296 := Tryz.func128.trans (congrArg some (by kernel_rfl)),
  f297 := Tryz.func129.trans (congrArg some (by kernel_rfl)),
  f298 := Tryz.func130.trans (congrArg some (by kernel_rfl)),
  f299 := Tryz.func131.trans (congrArg some (by kernel_rfl)),
  f300 := Tryz.func133.trans (congrArg some (by kernel_rfl)),
  f301 := Tryz.func134.trans (congrArg some (by kernel_rfl)),
  f328 := Tryz.func146.trans (congrArg some (by kernel_rfl)),
  f329 := Tryz.func142.trans (congrArg some (by kernel_rfl)),
  f330 := Tryz.func143.trans (congrArg some (by kernel_rfl)),
  f331 := Tryz.func147.trans (congrArg some (by kernel_rfl)),
  f332 := Tryz.func148.trans (congrArg some (by kernel_rfl)),
  f343 := Tryz.func154.trans (congrArg some (by kernel_rfl)),
  t0 := Tryz.underlying0,
  a0 := Tryz.isAgg0,
  z0 := Tryz.sizeOf0,
  v0 := Tryz.zeroValue0,
  t3 := Tryz.underlying3,
  a3 := Tryz.isAgg3,
  z3 := Tryz.sizeOf3,
  v3 := Tryz.zeroValue3,
  t4 := Tryz.underlying4,
  a4 := Tryz.isAgg4,
  z4 := Tryz.sizeOf4,
  v4 := Tryz.zeroValue4,
  t5 := Tryz.underlying5,
  a5 := Tryz.isAgg5,
  z5 := Tryz.sizeOf5,
  v5 := Tryz.zeroValue5,
  t9 := Tryz.underlying9,
  a9 := Tryz.isAgg9,
  z9 := Tryz.sizeOf9,
  v9 := Tryz.zeroValue9,
  t28 := Tryz.underlying23,
  a28 := Tryz.isAgg23,
  z28 := Tryz.sizeOf23,
  v28 := Tryz.zeroValue23,
  t46 := Tryz.underlying167,
  a46 := Tryz.isAgg167,
  z46 := Tryz.sizeOf167,
  v46 := Tryz.zeroValue167,
  t51 := Tryz.underlying189,
  a51 := Tryz.isAgg189,
  z51 := Tryz.sizeOf189,
  v51 := Tryz.zeroValue189,
  t53 := Tryz.underlying191,
  a53 := Tryz.isAgg191,
  z53 := Tryz.sizeOf191,
  v53 := Tryz.zeroValue191,
  t131 := Tryz.underlying186,
  a131 := Tryz.isAgg186,
  z131 := Tryz.sizeOf186,
  v131 := Tryz.zeroValue186,
  t182 := Tryz.underlying181,
  a182 := Tryz.isAgg181,
  z182 := Tryz.sizeOf181,
  v182 := Tryz.zeroValue181,
  t183 := Tryz.underlying182,
  a183 := Tryz.isAgg182,
  z183 := Tryz.sizeOf182,
  v183 := Tryz.zeroValue182,
  t218 := Tryz.underlying205,
  a218 := Tryz.isAgg205,
  z218 := Tryz.sizeOf205,
  v218 := Tryz.zeroValue205,
  t222 := Tryz.underlying209,
  a222 := Tryz.isAgg209,
  z222 := Tryz.sizeOf209,
  v222 := Tryz.zeroValue209,
  t228 := Tryz.underlying216,
  a228 := Tryz.isAgg216,
  z228 := Tryz.sizeOf216,
  v228 := Tryz.zeroValue216,
  t229 := Tryz.underlying217,
  a229 := Tryz.isAgg217,
  z229 := Tryz.sizeOf217,
  v229 := Tryz.zeroValue217 }
def sorted (zs : List Int) : List Int := zs.mergeSort fun x y => decide (x ≤ y)
theorem sort_any (w : World) (v : Value) (n : Nat) (zs : List Int) (h : w.ownsRow 0 3 1 v n (intsV zs)) (hn : n ≤ 1000) :
    Calls Tryz.prog 66 #[v] w fun e w' => e = .returned (.tuple #[]) ∧ w'.ownsRow 0 3 1 v n (intsV (sorted zs)) ∧ Chg (fun k => v.ownBlock = some k) w w' := by
  have hl : zs.length = n := by have := h.1; simpa [intsV] using this
  rcases h.2 with ⟨rfl, h0⟩ | ⟨g, c, cur, rfl, _, hb, h1, h2, h3, h4⟩
  · have hz : zs = [] := List.eq_nil_of_length_eq_zero (by omega)
    subst hz; subst h0
    refine (calls_of_every_depth fun D => AnyS.slices_Sort_int_none_alone laysSort D none 0 w).mono ?_
    rintro e w' ⟨rfl, rfl⟩
    exact ⟨rfl, by simpa [sorted] using h, Chg.refl _ _⟩
  · subst hl
    have hlt : g < w.heap.size := (Array.getElem?_eq_some_iff.1 hb).1
    have hH : Holds (Value.int .i64) w g 0 zs.toArray := holds_of_blockI hb (by simpa [intsV] using h4)
    refine (calls_of_every_depth fun D => AnyS.slices_Sort_int_alone laysSort D g 0 c zs w hH hlt (by omega)).mono ?_
    rintro e w' ⟨rfl, q, os, rfl⟩
    refine ⟨rfl, ?_, (Chg.of_grown (grownBy_sortedI _)).mono (fun k _ hk => by simp [Value.ownBlock]; injection hk with hk; exact hk.symm)⟩
    exact ownsRow_sortedI (ss := zs) (List.length_mergeSort zs) (Nat.zero_le _) hb h1 h2 (by simpa using h3)
theorem sorted_mem {zs : List Int} {x : Int} : x ∈ sorted zs ↔ x ∈ zs := (List.mergeSort_perm zs _).mem_iff
theorem sorted_length (zs : List Int) : (sorted zs).length = zs.length := List.length_mergeSort zs
theorem sorted_rises (zs : List Int) : (sorted zs).Pairwise (fun x y => x ≤ y) := by
  have := List.pairwise_mergeSort (le := fun (x y : Int) => decide (x ≤ y)) (fun a b c h1 h2 => by simp at *; omega) (fun a b => by simp; omega) zs
  exact this.imp (fun h => by simpa using h)
end Go.Proofs.YthgniehfejklhaaGreat
