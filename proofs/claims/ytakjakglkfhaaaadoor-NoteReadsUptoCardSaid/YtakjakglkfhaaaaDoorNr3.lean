/-
  Walks of the references' EventFault, EventText. Condition: none; numbers below 60.
-/
import Derived.Test.YtakjakglkfhaaaaDoorNr2
import Derived.Test.YtakjakglkfhaaaaDoorPc1
namespace Go.Proofs.YtakjakglkfhaaaaDoor
open Go Go.RowKit
set_option linter.unusedVariables false

def EfPost (W A B : Int) (w : World) (e : Ending) (w' : World) : Prop := e = .returned (.int .i64 (if evBad W A B = true then 1 else 0)) ∧ Ext w w'
theorem evBad_nodes {W A B : Int} : evBad W A B = (decide (W < 1) || (decide (3 < W) || (badN 60 A || badN 60 B))) := by
  unfold evBad badN
  rw [Bool.eq_iff_iff]
  simp only [decide_eq_true_eq, Bool.or_eq_true]
  omega
set_option maxHeartbeats 2000000 in
theorem efault_any (W A B : Int) (w : World) : Calls Tryd.prog 15 #[.agg #[.int .i64 W, .int .i64 A, .int .i64 B]] w (EfPost W A B w) := by
  have HX := Blk.new w 25 #[.int .i64 W, .int .i64 A, .int .i64 B]
  have HE : Hid (Ext w (w.alloc (.cells #[.int .i64 W, .int .i64 A, .int .i64 B] 25))) := Ext.alloc _ _
  have HV := Lib.hid (@evBad_nodes W A B)
  obtain ⟨pa, hpa⟩ : ∃ b, badN 60 A = b := ⟨_, rfl⟩
  obtain ⟨pb, hpb⟩ : ∃ b, badN 60 B = b := ⟨_, rfl⟩
  rw [hpa, hpb] at HV
  have HA : Hid (∀ w, Calls Tryd.prog 36 #[.int .i64 60, .int .i64 A] w fun e w' => e = .returned (.bool (!pa)) ∧ w = w') := fun w => by rw [← hpa]; exact rnode_any w 60 A
  have HB : Hid (∀ w, Calls Tryd.prog 36 #[.int .i64 60, .int .i64 B] w fun e w' => e = .returned (.bool (!pb)) ∧ w = w') := fun w => by rw [← hpb]; exact rnode_any w 60 B
  clear hpa hpb
  go_enter Tryd.func15, Tryd.ntmps15
  go_upto_region 1 with fail
  generalize w.alloc (.cells #[.int .i64 W, .int .i64 A, .int .i64 B] 25) = w1 at HX HE ⊢
  have c0 : w1.cell? ⟨w.heap.size, 0, none⟩ = some (.int .i64 W) := HX.cell 0
  have c1 : w1.cell? ⟨w.heap.size, 1, none⟩ = some (.int .i64 A) := HX.cell 1
  have c2 : w1.cell? ⟨w.heap.size, 2, none⟩ = some (.int .i64 B) := HX.cell 2
  clear HX
  go_wp2_with fail
  refine (HA.out w1).mono ?_
  rintro e w' ⟨rfl, rfl⟩
  go_wp2_with fail
  refine (HB.out w1).mono ?_
  rintro e w' ⟨rfl, rfl⟩
  by_cases h1 : W < 1
  · go_wp2
    go_ret
    exact ⟨by rw [HV.out]; simp [h1], HE.out⟩
  by_cases h2 : 3 < W
  · go_wp2
    go_ret
    exact ⟨by rw [HV.out]; simp [h2], HE.out⟩
  cases pa
  case true =>
    go_wp2
    go_ret
    exact ⟨by rw [HV.out]; simp, HE.out⟩
  cases pb
  case true =>
    go_wp2
    go_ret
    exact ⟨by rw [HV.out]; simp, HE.out⟩
  go_wp2
  go_ret
  exact ⟨by rw [HV.out]; simp [h1, h2], HE.out⟩
end Go.Proofs.YtakjakglkfhaaaaDoor
