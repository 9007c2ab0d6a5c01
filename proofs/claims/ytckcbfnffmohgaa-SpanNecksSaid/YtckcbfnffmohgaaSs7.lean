/-
  slices.insertionSortCmpFunc at rows of ints, by span.light's closure, by the library's contract: stable where the numbers rise. Conditions: as in Ss4.
-/
import Derived.Test.YtckcbfnffmohgaaSs6
namespace Go.Proofs.Ytckcbfnffmohgaa
open Go Go.Shelf Go.RowKit Go.Lib Go.Sort SS
set_option linter.unusedVariables false
variable {nn : Nat}

def laysIns_ren : Go.Shelf.Ren := ⟨fun | 20 => 70 | _ => 0, fun | 0 => 0 | 3 => 3 | 4 => 4 | 22 => 32 | 24 => 3 | 25 => 58 | _ => 0, fun | _ => 0⟩
theorem laysIns : Go.Proofs.SlLaysF.n20 Try.prog laysIns_ren := {
  mixed := by kernel_rfl,
  f20 := ⟨ "slices.insertionSortCmpFunc[int]", by decide, Try.func70.trans (congrArg some (by kernel_rfl))⟩,
  t0 := Try.underlying0,
  a0 := Try.isAgg0,
  z0 := Try.sizeOf0,
  v0 := Try.zeroValue0,
  t3 := Try.underlying3,
  a3 := Try.isAgg3,
  z3 := Try.sizeOf3,
  v3 := Try.zeroValue3,
  t4 := Try.underlying4,
  a4 := Try.isAgg4,
  z4 := Try.sizeOf4,
  v4 := Try.zeroValue4,
  t22 := Try.underlying32,
  a22 := Try.isAgg32,
  z22 := Try.sizeOf32,
  v22 := Try.zeroValue32,
  a24 := Try.isAgg3,
  z24 := Try.sizeOf3,
  t25 := Try.underlying58,
  a25 := Try.isAgg58,
  z25 := Try.sizeOf58,
  v25 := Try.zeroValue58 }
theorem light_enters : ∀ args w, (callFunc 39 args).run Try.prog w = .ok (.enter 39 args) w := enters_of Try.func39 (by kernel_rfl) rfl
theorem ltOf_W (wt : Int → Int) (x y : Int) : ltOf (cfW wt) x y = true ↔ wt x < wt y := by
  unfold ltOf cfW
  rw [decide_eq_true_eq]; omega
theorem ins_any (wt : Int → Int) (w0 : World) (d0 : Array Int) (blk off cap a b : Nat) (d : Array Int) (w : World) (cb : Array Value) (hC : CmpLays1 Try.prog 39 cb (eN nn) (cfW wt) blk off d0.size w0) (R : Row1 (eN nn) w0 blk off d0) (hs : d0.size = d.size) (S : SW (eN nn) w0 blk off d w) (hab : a ≤ b) (hb : b ≤ d.size) (hsz : d.size < 100000) (hu : Up (vw d) a b) :
    Calls Try.prog 70 #[.slice (some ⟨blk, off, none⟩) d.size cap, .int .i64 a, .int .i64 b, .func (.func 39) #[] cb] w fun e w' => e = .returned (.tuple #[]) ∧ ∃ d' : Array Int, d'.size = d.size ∧ So wt (vw d') a b ∧ Sm (vw d) (vw d') a b ∧ Of (vw d) (vw d') a b ∧ SW (eN nn) w0 blk off d' w' := by
  obtain ⟨i1, i2, i3, i4⟩ := ins_sort (w := wt) (lt := ltOf (cfW wt)) (ltOf_W wt) hu hab hb
  refine (Any.insertionSortCmpFunc_s laysIns (eN nn) (cfW wt) 39 cb blk off cap a b d0 d w0 w light_enters hC R hs S hab hb (by omega)).mono ?_
  rintro e w' ⟨he, hS⟩
  exact ⟨he, _, i1, i2, i3, i4, hS⟩
theorem ins_nil (fv : Value) (w : World) : Calls Try.prog 70 #[.slice none 0 0, .int .i64 0, .int .i64 0, fv] w fun e w' => e = .returned (.tuple #[]) ∧ w' = w := by
  go_enter Try.func70, Try.ntmps70
  go_wp2
  refine wp_loop_rounds 1 ?_
  rw [rounds_succ]
  go_wp2
  go_end0
  exact ⟨rfl, rfl⟩
end Go.Proofs.Ytckcbfnffmohgaa
