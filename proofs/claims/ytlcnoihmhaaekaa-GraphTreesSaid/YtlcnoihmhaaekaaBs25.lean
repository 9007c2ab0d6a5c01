/-
  slices.Sort at []int by the library's contract: a row of the call's own is sorted.  No conditions.
-/
import Derived.Test.YtlcnoihmhaaekaaProg
import Derived.Test.YtlcnoihmhaaekaaBs18
import Derived.Shelf.Slices.In.SortNone
import Derived.Sort.OwnSortedInts
import Derived.Sort.EveryDepth
namespace Go.Proofs.Ytlcnoihmhaaekaa
open Go Go.RowKit Go.Shelf Go.Sort
set_option linter.unusedVariables false

def laysSort_ren : Go.Shelf.Ren := ⟨fun | 189 => 38 | 125 => 58 | 257 => 57 | 128 => 83 | 129 => 84 | 294 => 74 | 295 => 75 | 296 => 76 | 297 => 77 | 298 => 78 | 299 => 79 | 216 => 80 | 300 => 81 | 301 => 82 | 328 => 90 | 329 => 91 | 330 => 92 | 331 => 93 | 332 => 94 | 215 => 95 | 343 => 104 | n => n, fun | 28 => 29 | 3 => 3 | 46 => 109 | 0 => 0 | 51 => 135 | 53 => 137 | 4 => 4 | 183 => 127 | 182 => 126 | 131 => 132 | 5 => 5 | 9 => 9 | 218 => 143 | 222 => 147 | 228 => 154 | 229 => 155 | n => n, fun | n => n⟩
theorem laysSort : Go.Proofs.Lays.n189 Try.prog laysSort_ren := {
  mixed := by kernel_rfl,
  f125 := Try.func58.trans (congrArg some (by kernel_rfl)),
  f128 := Try.func83.trans (congrArg some (by kernel_rfl)),
  f129 := Try.func84.trans (congrArg some (by kernel_rfl)),
  f189 := Try.func38.trans (congrArg some (by kernel_rfl)),
  f215 := Try.func95.trans (congrArg some (by kernel_rfl)),
  f216 := Try.func80.trans (congrArg some (by kernel_rfl)),
  f257 := Try.func57.trans (congrArg some (by kernel_rfl)),
  f294 := Try.func74.trans (congrArg some (by kernel_rfl)),
  f295 := Try.func75.trans (congrArg some (by kernel_rfl)),
  f296 := Try.func76.trans (congrArg some (by kernel_rfl)),
  f297 := Try.func77.trans (congrArg some (by kernel_rfl)),
  f298 := Try.func78.trans (congrArg some (by kernel_rfl)),
  f299 := Try.func79.trans (congrArg some (by kernel_rfl)),
  f300 := Try.func81.trans (congrArg some (by kernel_rfl)),
  f301 := Try.func82.trans (congrArg some (by kernel_rfl)),
  f328 := Try.func90.trans (congrArg some (by kernel_rfl)),
  f329 := Try.func91.trans (congrArg some (by kernel_rfl)),
  f330 := Try.func92.trans (congrArg some (by kernel_rfl)),
  f331 := Try.func93.trans (congrArg some (by kernel_rfl)),
  f332 := Try.func94.trans (congrArg some (by kernel_rfl)),
  f343 := Try.func104.trans (congrArg some (by kernel_rfl)),
  t0 := Try.underlying0,
  a0 := Try.isAgg0,
  z0 := Try.sizeOf0,
  v0 := Try.zeroValue0,
  t3 := Try.underlying3,
  a3 := Try.isAgg3,
  z3 := Try.sizeOf3,
  v3 := Try.zeroValue3,
  t4 := Try.underlying4,
  a4 := Try.isAgg4,
  z4 := Try.sizeOf4,
  v4 := Try.zeroValue4,
  t5 := Try.underlying5,
  a5 := Try.isAgg5,
  z5 := Try.sizeOf5,
  v5 := Try.zeroValue5,
  t9 := Try.underlying9,
  a9 := Try.isAgg9,
  z9 := Try.sizeOf9,
  v9 := Try.zeroValue9,
  t28 := Try.underlying29,
  a28 := Try.isAgg29,
  z28 := Try.sizeOf29,
  v28 := Try.zeroValue29,
  t46 := Try.underlying109,
  a46 := Try.isAgg109,
  z46 := Try.sizeOf109,
  v46 := Try.zeroValue109,
  t51 := Try.underlying135,
  a51 := Try.isAgg135,
  z51 := Try.sizeOf135,
  v51 := Try.zeroValue135,
  t53 := Try.underlying137,
  a53 := Try.isAgg137,
  z53 := Try.sizeOf137,
  v53 := Try.zeroValue137,
  t131 := Try.underlying132,
  a131 := Try.isAgg132,
  z131 := Try.sizeOf132,
  v131 := Try.zeroValue132,
  t182 := Try.underlying126,
  a182 := Try.isAgg126,
  z182 := Try.sizeOf126,
  v182 := Try.zeroValue126,
  t183 := Try.underlying127,
  a183 := Try.isAgg127,
  z183 := Try.sizeOf127,
  v183 := Try.zeroValue127,
  t218 := Try.underlying143,
  a218 := Try.isAgg143,
  z218 := Try.sizeOf143,
  v218 := Try.zeroValue143,
  t222 := Try.underlying147,
  a222 := Try.isAgg147,
  z222 := Try.sizeOf147,
  v222 := Try.zeroValue147,
  t228 := Try.underlying154,
  a228 := Try.isAgg154,
  z228 := Try.sizeOf154,
  v228 := Try.zeroValue154,
  t229 := Try.underlying155,
  a229 := Try.isAgg155,
  z229 := Try.sizeOf155,
  v229 := Try.zeroValue155 }
def sorted (zs : List Int) : List Int := zs.mergeSort fun x y => decide (x ≤ y)
theorem sort_any (w : World) (v : Value) (n : Nat) (zs : List Int) (h : w.ownsRow 0 3 1 v n (intsV zs)) (hn : n ≤ 1000) :
    Calls Try.prog 38 #[v] w fun e w' => e = .returned (.tuple #[]) ∧ w'.ownsRow 0 3 1 v n (intsV (sorted zs)) ∧ Chg (fun k => v.ownBlock = some k) w w' := by
  have hl : zs.length = n := by have := h.1; simpa [intsV] using this
  rcases h.2 with ⟨rfl, h0⟩ | ⟨g, c, cur, rfl, _, hb, h1, h2, h3, h4⟩
  · have hz : zs = [] := List.eq_nil_of_length_eq_zero (by omega)
    subst hz; subst h0
    refine (calls_of_every_depth fun D => AnyS.slices_Sort_int_none_alone laysSort D none 0 w).mono ?_
    rintro e w' ⟨rfl, rfl⟩
    exact ⟨rfl, by simpa [sorted] using h, Chg.refl _ _⟩
  · subst hl
    have hlt : g < w.heap.size := (Array.getElem?_eq_some_iff.1 hb).1
    have hH : Holds (Value.int .i64) w g 0 zs.toArray := holds_of_blockI hb (by simpa [intsV] using h4)
    refine (calls_of_every_depth fun D => AnyS.slices_Sort_int_alone laysSort D g 0 c zs w hH hlt (by omega)).mono ?_
    rintro e w' ⟨rfl, q, os, rfl⟩
    refine ⟨rfl, ?_, (Chg.of_grown (grownBy_sortedI _)).mono (fun k _ hk => by simp [Value.ownBlock]; injection hk with hk; exact hk.symm)⟩
    exact ownsRow_sortedI (ss := zs) (List.length_mergeSort zs) (Nat.zero_le _) hb h1 h2 (by simpa using h3)
theorem sorted_mem {zs : List Int} {x : Int} : x ∈ sorted zs ↔ x ∈ zs := (List.mergeSort_perm zs _).mem_iff
theorem sorted_length (zs : List Int) : (sorted zs).length = zs.length := List.length_mergeSort zs
theorem sorted_rises (zs : List Int) : (sorted zs).Pairwise (fun x y => x ≤ y) := by
  have := List.pairwise_mergeSort (le := fun (x y : Int) => decide (x ≤ y)) (fun a b c h1 h2 => by simp at *; omega) (fun a b => by simp; omega) zs
  exact this.imp (fun h => by simpa using h)
end Go.Proofs.Ytlcnoihmhaaekaa
