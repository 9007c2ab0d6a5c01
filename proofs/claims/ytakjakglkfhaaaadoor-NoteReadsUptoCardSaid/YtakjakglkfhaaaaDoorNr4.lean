/-
  Walk of the references' EventText, Number. Condition: an event that may be.
-/
import Derived.Test.YtakjakglkfhaaaaDoorNr3
namespace Go.Proofs.YtakjakglkfhaaaaDoor
open Go Go.RowKit
set_option linter.unusedVariables false
set_option maxHeartbeats 4000000 in
theorem etext_ok (W A B : Nat) (h : NT.Vd W A B) (w : World) : Calls Tryd.prog 16 #[.agg #[.int .i64 W, .int .i64 A, .int .i64 B]] w fun e w' => e = .returned (.string ⟨(NT.txt W A B).toArray⟩) ∧ Ext w w' := by
  have ha := h.a
  have hb := h.b
  obtain ⟨la, hla⟩ : ∃ t, Lib.decDigits A = t := ⟨_, rfl⟩
  obtain ⟨lb, hlb⟩ : ∃ t, Lib.decDigits B = t := ⟨_, rfl⟩
  have sa : la.length ≤ 2 := by rw [← hla]; exact (NT.dec_all A ha).2.2
  have sb : lb.length ≤ 2 := by rw [← hlb]; exact (NT.dec_all B hb).2.2
  have HA : Hid (∀ w, Calls Tryd.prog 37 #[.int .i64 (A : Int)] w fun e w' => e = .returned (.string ⟨la.toArray⟩) ∧ w' = w) := fun w => by rw [← hla]; exact dec_any A ha w
  have HB : Hid (∀ w, Calls Tryd.prog 37 #[.int .i64 (B : Int)] w fun e w' => e = .returned (.string ⟨lb.toArray⟩) ∧ w' = w) := fun w => by rw [← hlb]; exact dec_any B hb w
  have HE : Hid (NT.txt W A B = NT.sg W :: (la ++ 32 :: lb)) := by rw [Hid, NT.txt, hla, hlb]
  have w1 := h.w1
  have w3 := h.w3
  have hW : W = 1 ∨ W = 2 ∨ W = 3 := by omega
  have sa' : (⟨la.toArray⟩ : ByteArray).size = la.length := by simp [ByteArray.size]
  have sb' : (⟨lb.toArray⟩ : ByteArray).size = lb.length := by simp [ByteArray.size]
  clear h hla hlb w1 w3
  rcases hW with rfl | rfl | rfl
  all_goals
    go_enter Tryd.func16, Tryd.ntmps16
    go_wp2
    go_quiet (first
      | ((go_at_call 37; with_reducible exact Calls.quiet_of_same (HA.out _)))
      | ((go_at_call 37; with_reducible exact Calls.quiet_of_same (HB.out _))))
    go_wp2
    go_ret
    refine ⟨congrArg (fun z => Ending.returned (.string z)) ?_, Ext.trans (Ext.alloc _ _) (Ext.drewN _ _)⟩
    rw [HE.out]
    exact txt_str (by decide)
end Go.Proofs.YtakjakglkfhaaaaDoor
