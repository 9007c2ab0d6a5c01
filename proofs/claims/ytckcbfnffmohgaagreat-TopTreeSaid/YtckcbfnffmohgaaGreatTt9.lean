/-
  slices.Sort at []int by the library's contract: a row of the call's own is sorted.  No conditions.
-/
import Derived.Test.YtckcbfnffmohgaaGreatProg
import Derived.Test.YtckcbfnffmohgaaGreatTt6
import Derived.Shelf.Slices.In.SortNone
import Derived.Sort.OwnSortedInts
import Derived.Sort.EveryDepth
namespace Go.Proofs.YtckcbfnffmohgaaGreat
open Go Go.RowKit Go.Shelf Go.Sort
set_option linter.unusedVariables false

def laysSort_ren : Go.Shelf.Ren := ⟨fun | 189 => 40 | 125 => 63 | 257 => 65 | 128 => 102 | 129 => 103 | 294 => 104 | 295 => 105 | 296 => 106 | 297 => 107 | 298 => 108 | 299 => 109 | 216 => 110 | 300 => 111 | 301 => 112 | 328 => 129 | 329 => 125 | 330 => 126 | 331 => 130 | 332 => 131 | 215 => 132 | 343 => 142 | n => n, fun | 28 => 39 | 3 => 3 | 46 => 130 | 0 => 0 | 51 => 171 | 53 => 173 | 4 => 4 | 183 => 164 | 182 => 163 | 131 => 168 | 5 => 5 | 9 => 9 | 218 => 196 | 222 => 200 | 228 => 209 | 229 => 210 | n => n, fun | n => n⟩
theorem laysSort : Go.Proofs.Lays.n189 Tryz.prog laysSort_ren := {
  mixed := by kernel_rfl,
  f125 := Tryz.func63.trans (congrArg some (by kernel_rfl)),
  f128 := Tryz.func102.trans (congrArg some (by kernel_rfl)),
  f129 := Tryz.func103.trans (congrArg some (by kernel_rfl)),
  f189 := Tryz.func40.trans (congrArg some (by kernel_rfl)),
  f215 := Tryz.func132.trans (congrArg some (by kernel_rfl)),
  f216 := Tryz.func110.trans (congrArg some (by kernel_rfl)),
  f257 := Tryz.func65.trans (congrArg some (by kernel_rfl)),
  f294 := Tryz.func104.trans (congrArg some (by kernel_rfl)),
  f295 := Tryz.func105.trans (congrArg some (by kernel_rfl)),
  f296 := Tryz.func106.trans (congrArg some (by kernel_rfl)),
  f297 := Tryz.func107.trans (congrArg some (by kernel_rfl)),
  f298 := Tryz.func108.trans (congrArg some (by kernel_rfl)),
  f299 := Tryz.func109.trans (congrArg some (by kernel_rfl)),
  f300 := Tryz.func111.trans (congrArg some (by kernel_rfl)),
  f301 := Tryz.func112.trans (congrArg some (by kernel_rfl)),
  f328 := Tryz.func129.trans (congrArg some (by kernel_rfl)),
  f329 := Tryz.func125.trans (congrArg some (by kernel_rfl)),
  f330 := Tryz.func126.trans (congrArg some (by kernel_rfl)),
  f331 := Tryz.func130.trans (congrArg some (by kernel_rfl)),
  f332 := Tryz.func131.trans (congrArg some (by kernel_rfl)),
  f343 := Tryz.func142.trans (congrArg some (by kernel_rfl)),
  t0 := Tryz.underlying0,
  a0 := Tryz.isAgg0,
  z0 := Tryz.sizeOf0,
  v0 := Tryz.zeroValue0,
  t3 := Tryz.underlying3,
  a3 := Tryz.isAgg3,
  z3 := Tryz.sizeOf3,
  v3 := Tryz.zeroValue3,
  t4 := Tryz.underlying4,
  a4 := Tryz.isAgg4,
  z4 := Tryz.sizeOf4,
  v4 := Tryz.zeroValue4,
  t5 := Tryz.underlying5,
  a5 := Tryz.isAgg5,
  z5 := Tryz.sizeOf5,
  v5 := Tryz.zeroValue5,
  t9 := Tryz.underlying9,
  a9 := Tryz.isAgg9,
  z9 := Tryz.sizeOf9,
  v9 := Tryz.zeroValue9,
  t28 := Tryz.underlying39,
  a28 := Tryz.isAgg39,
  z28 := Tryz.sizeOf39,
  v28 := Tryz.zeroValue39,
  t46 := Tryz.underlying130,
  a46 := Tryz.isAgg130,
  z46 := Tryz.sizeOf130,
  v46 := Tryz.zeroValue130,
  t51 := Tryz.underlying171,
  a51 := Tryz.isAgg171,
  z51 := Tryz.sizeOf171,
  v51 := Tryz.zeroValue171,
  t53 := Tryz.underlying173,
  a53 := Tryz.isAgg173,
  z53 := Tryz.sizeOf173,
  v53 := Tryz.zeroValue173,
  t131 := Tryz.underlying168,
  a131 := Tryz.isAgg168,
  z131 := Tryz.sizeOf168,
  v131 := Tryz.zeroValue168,
  t182 := Tryz.underlying163,
  a182 := Tryz.isAgg163,
  z182 := Tryz.sizeOf163,
  v182 := Tryz.zeroValue163,
  t183 := Tryz.underlying164,
  a183 := Tryz.isAgg164,
  z183 := Tryz.sizeOf164,
  v183 := Tryz.zeroValue164,
  t218 := Tryz.underlying196,
  a218 := Tryz.isAgg196,
  z218 := Tryz.sizeOf196,
  v218 := Tryz.zeroValue196,
  t222 := Tryz.underlying200,
  a222 := Tryz.isAgg200,
  z222 := Tryz.sizeOf200,
  v222 := Tryz.zeroValue200,
  t228 := Tryz.underlying209,
  a228 := Tryz.isAgg209,
  z228 := Tryz.sizeOf209,
  v228 := Tryz.zeroValue209,
  t229 := Tryz.underlying210,
  a229 := Tryz.isAgg210,
  z229 := Tryz.sizeOf210,
  v229 := Tryz.zeroValue210 }
def sorted (zs : List Int) : List Int := zs.mergeSort fun x y => decide (x ≤ y)
theorem sort_any (w : World) (v : Value) (n : Nat) (zs : List Int) (h : w.ownsRow 0 3 1 v n (intsV zs)) (hn : n ≤ 1000) :
    Calls Tryz.prog 40 #[v] w fun e w' => e = .returned (.tuple #[]) ∧ w'.ownsRow 0 3 1 v n (intsV (sorted zs)) ∧ Chg (fun k => v.ownBlock = some k) w w' := by
  have hl : zs.length = n := by have := h.1; simpa [intsV] using this
  rcases h.2 with ⟨rfl, h0⟩ | ⟨g, c, cur, rfl, _, hb, h1, h2, h3, h4⟩
  · have hz : zs = [] := List.eq_nil_of_length_eq_zero (by omega)
    subst hz; subst h0
    refine (calls_of_every_depth fun D => AnyS.slices_Sort_int_none_alone laysSort D none 0 w).mono ?_
    rintro e w' ⟨rfl, rfl⟩
    exact ⟨rfl, by simpa [sorted] using h, Chg.refl _ _⟩
  · subst hl
    have hlt : g < w.heap.size := (Array.getElem?_eq_some_iff.1 hb).1
    have hH : Holds (Value.int .i64) w g 0 zs.toArray := holds_of_blockI hb (by simpa [intsV] using h4)
    refine (calls_of_every_depth fun D => AnyS.slices_Sort_int_alone laysSort D g 0 c zs w hH hlt (by omega)).mono ?_
    rintro e w' ⟨rfl, q, os, rfl⟩
    refine ⟨rfl, ?_, (Chg.of_grown (grownBy_sortedI _)).mono (fun k _ hk => by simp [Value.ownBlock]; injection hk with hk; exact hk.symm)⟩
    exact ownsRow_sortedI (ss := zs) (List.length_mergeSort zs) (Nat.zero_le _) hb h1 h2 (by simpa using h3)
theorem sorted_mem {zs : List Int} {x : Int} : x ∈ sorted zs ↔ x ∈ zs := (List.mergeSort_perm zs _).mem_iff
theorem sorted_length (zs : List Int) : (sorted zs).length = zs.length := List.length_mergeSort zs
theorem sorted_rises (zs : List Int) : (sorted zs).Pairwise (fun x y => x ≤ y) := by
  have := List.pairwise_mergeSort (le := fun (x y : Int) => decide (x ≤ y)) (fun a b c h1 h2 => by simp at *; omega) (fun a b => by simp; omega) zs
  exact this.imp (fun h => by simpa using h)
end Go.Proofs.YtckcbfnffmohgaaGreat
