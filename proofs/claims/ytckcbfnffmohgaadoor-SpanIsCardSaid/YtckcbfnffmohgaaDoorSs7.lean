/-
  slices.insertionSortCmpFunc at rows of ints, by span.light's closure, by the library's contract: stable where the numbers rise. Conditions: as in Ss4.
-/
import Derived.Test.YtckcbfnffmohgaaDoorSs6
namespace Go.Proofs.YtckcbfnffmohgaaDoor
open Go Go.Shelf Go.RowKit Go.Lib Go.Sort SS
set_option linter.unusedVariables false
variable {nn : Nat}

def laysIns_ren : Go.Shelf.Ren := ⟨fun | 20 => 57 | _ => 0, fun | 0 => 0 | 3 => 3 | 4 => 4 | 22 => 31 | 24 => 3 | 25 => 81 | _ => 0, fun | _ => 0⟩
theorem laysIns : Go.Proofs.SlLaysF.n20 Tryd.prog laysIns_ren := {
  mixed := by kernel_rfl,
  f20 := ⟨ "slices.insertionSortCmpFunc[int]", by decide, Tryd.func57.trans (congrArg some (by kernel_rfl))⟩,
  t0 := Tryd.underlying0,
  a0 := Tryd.isAgg0,
  z0 := Tryd.sizeOf0,
  v0 := Tryd.zeroValue0,
  t3 := Tryd.underlying3,
  a3 := Tryd.isAgg3,
  z3 := Tryd.sizeOf3,
  v3 := Tryd.zeroValue3,
  t4 := Tryd.underlying4,
  a4 := Tryd.isAgg4,
  z4 := Tryd.sizeOf4,
  v4 := Tryd.zeroValue4,
  t22 := Tryd.underlying31,
  a22 := Tryd.isAgg31,
  z22 := Tryd.sizeOf31,
  v22 := Tryd.zeroValue31,
  a24 := Tryd.isAgg3,
  z24 := Tryd.sizeOf3,
  t25 := Tryd.underlying81,
  a25 := Tryd.isAgg81,
  z25 := Tryd.sizeOf81,
  v25 := Tryd.zeroValue81 }
theorem light_enters : ∀ args w, (callFunc 35 args).run Tryd.prog w = .ok (.enter 35 args) w := enters_of Tryd.func35 (by kernel_rfl) rfl
theorem ltOf_W (wt : Int → Int) (x y : Int) : ltOf (cfW wt) x y = true ↔ wt x < wt y := by
  unfold ltOf cfW
  rw [decide_eq_true_eq]; omega
theorem ins_any (wt : Int → Int) (w0 : World) (d0 : Array Int) (blk off cap a b : Nat) (d : Array Int) (w : World) (cb : Array Value) (hC : CmpLays1 Tryd.prog 35 cb (eN nn) (cfW wt) blk off d0.size w0) (R : Row1 (eN nn) w0 blk off d0) (hs : d0.size = d.size) (S : SW (eN nn) w0 blk off d w) (hab : a ≤ b) (hb : b ≤ d.size) (hsz : d.size < 100000) (hu : Up (vw d) a b) :
    Calls Tryd.prog 57 #[.slice (some ⟨blk, off, none⟩) d.size cap, .int .i64 a, .int .i64 b, .func (.func 35) #[] cb] w fun e w' => e = .returned (.tuple #[]) ∧ ∃ d' : Array Int, d'.size = d.size ∧ So wt (vw d') a b ∧ Sm (vw d) (vw d') a b ∧ Of (vw d) (vw d') a b ∧ SW (eN nn) w0 blk off d' w' := by
  obtain ⟨i1, i2, i3, i4⟩ := ins_sort (w := wt) (lt := ltOf (cfW wt)) (ltOf_W wt) hu hab hb
  refine (Any.insertionSortCmpFunc_s laysIns (eN nn) (cfW wt) 35 cb blk off cap a b d0 d w0 w light_enters hC R hs S hab hb (by omega)).mono ?_
  rintro e w' ⟨he, hS⟩
  exact ⟨he, _, i1, i2, i3, i4, hS⟩
theorem ins_nil (fv : Value) (w : World) : Calls Tryd.prog 57 #[.slice none 0 0, .int .i64 0, .int .i64 0, fv] w fun e w' => e = .returned (.tuple #[]) ∧ w' = w := by
  go_enter Tryd.func57, Tryd.ntmps57
  go_wp2
  refine wp_loop_rounds 1 ?_
  rw [rounds_succ]
  go_wp2
  go_end0
  exact ⟨rfl, rfl⟩
end Go.Proofs.YtckcbfnffmohgaaDoor
