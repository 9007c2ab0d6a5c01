/-
  Walk of the references' Count. Condition: the parts lie in memory as 'IntsAt' says.
-/
import Derived.Test.YtckcbfnffmohgaaGreatBs31
import Derived.Test.YtckcbfnffmohgaaGreatBs5
import Derived.Test.YtckcbfnffmohgaaGreatBs2
namespace Go.Proofs.YtckcbfnffmohgaaGreat
open Go Go.RowKit PT
set_option linter.unusedVariables false

theorem natv_ints {w : World} {g c n : Nat} {p : List Nat} (h : NRow w (.slice (some ⟨g, 0, none⟩) n c) n p) : IntsAt w (some ⟨g, 0, none⟩) (p.map fun (x : Nat) => (x : Int)) ∧ p.length = n := by
  unfold NRow at h
  have e : natv p = (p.map fun (x : Nat) => (x : Int)).map (Value.int .i64) := by simp [natv]
  rw [e] at h
  have := IntsAt.of_own h
  exact ⟨this.1, by simpa using this.2⟩
theorem cnt_step (p : List Nat) (k : Nat) : PD.cnt (fx p) (k + 1) = PD.cnt (fx p) k + if p[k]? = some k then 1 else 0 := by
  simp [PD.cnt, fx]
theorem ret_iC {a b : Int} (h : a = b) : Ending.returned (.int .i64 a) = .returned (.int .i64 b) := by rw [h]
end Go.Proofs.YtckcbfnffmohgaaGreat
