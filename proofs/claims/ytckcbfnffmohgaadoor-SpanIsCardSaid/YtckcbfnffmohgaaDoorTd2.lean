/-
  plain.Told and footbridgesame.Error: of nil and of an error of this program the number. Condition: the package variable errors.errorType holds the handle of the type 'error'.
-/
import Derived.Test.YtckcbfnffmohgaaDoorTd
namespace Go.Proofs.YtckcbfnffmohgaaDoor
open Go Go.RowKit Go.Extern.Stop Go.Stop Go.Extern
set_option linter.unusedVariables false

set_option maxHeartbeats 1000000 in
theorem told_nil (w : World) : Calls Tryd.prog 15 #[.nilIface] w fun e w' => e = .returned (.int .i64 0) ∧ Below w.heap.size w w' := by
  go_enter Tryd.func15, Tryd.ntmps15
  go_wp2
  go_ret
  exact ⟨rfl, Below.refl _ _⟩
set_option maxHeartbeats 2000000 in
theorem told_errno (w : World) (k : Int) (hg : Td.Door w) : Calls Tryd.prog 15 #[.iface 23 (.int .i64 k)] w fun e w' => e = .returned (.int .i64 k) ∧ Below w.heap.size w w' := by
  have HG : Hid (Td.Door (w.alloc (.cells #[.int .i64 0] 23))) := by
    unfold Hid Td.Door at *
    rw [World.cell?_alloc_lt]
    · exact hg
    · rcases Nat.eq_zero_or_pos w.heap.size with h0 | h
      · simp [World.cell?, h0] at hg
      · exact h
  clear hg
  go_enter Tryd.func15, Tryd.ntmps15
  go_wp2_with fail
  refine (Td.as_hit k ⟨w.heap.size, 0, none⟩ (.int .i64 0) _ HG.out (by simp) (by simp)).mono ?_
  rintro e w' ⟨rfl, rfl⟩
  go_wp2
  go_ret
  refine ⟨rfl, ?_⟩
  refine Below.alloc ?_ (by simp; omega) _
  refine Below.alloc ?_ (by simp; omega) _
  refine Below.alloc ?_ (by simp; omega) _
  refine Below.alloc ?_ (by simp) _
  exact (Below.refl _ _).alloc (Nat.le_refl _) _
theorem Td.Door.lt {w : World} (h : Td.Door w) : 0 < w.heap.size := World.block_lt_of_cell? w _ h
theorem Td.Door.chg {S : Nat → Prop} {w w' : World} (h : Td.Door w) (hc : Chg S w w') (hn : ¬ S 0) : Td.Door w' := (hc.cell (p := ⟨0, 0, none⟩) h.lt hn).trans h
theorem Td.Door.ext {B : Nat} {w w' : World} (h : Td.Door w) (hb : Below B w w') (hB : 0 < B) : Td.Door w' := h.chg (Chg.of_below hb) (by omega)
theorem Td.Door.new {w w' : World} (h : Td.Door w) (hb : Below w.heap.size w w') : Td.Door w' := h.ext hb h.lt
theorem same_nil (w : World) (e : Int) (r : Bool) (hr : ((0 : Int) == e) = r) : Calls Tryd.prog 6 #[.nilIface, .int .i64 e] w fun x w' => x = .returned (.bool r) ∧ Below w.heap.size w w' := by
  have HR := Lib.hid hr
  clear hr
  go_enter Tryd.func6, Tryd.ntmps6
  go_wp2_with fail
  refine (told_nil w).mono ?_
  rintro x w' ⟨rfl, hb⟩
  have HB := Lib.hid hb
  clear hb
  go_wp2
  go_ret
  refine ⟨?_, HB.out⟩
  simpa using HR.out
theorem same_errno (w : World) (k e : Int) (hg : Td.Door w) (r : Bool) (hr : (k == e) = r) : Calls Tryd.prog 6 #[.iface 23 (.int .i64 k), .int .i64 e] w fun x w' => x = .returned (.bool r) ∧ Below w.heap.size w w' := by
  have HR := Lib.hid hr
  have HG := Lib.hid hg
  clear hr hg
  go_enter Tryd.func6, Tryd.ntmps6
  go_wp2_with fail
  refine (told_errno w k HG.out).mono ?_
  rintro x w' ⟨rfl, hb⟩
  have HB := Lib.hid hb
  clear hb
  go_wp2
  go_ret
  refine ⟨?_, HB.out⟩
  simpa using HR.out
end Go.Proofs.YtckcbfnffmohgaaDoor
