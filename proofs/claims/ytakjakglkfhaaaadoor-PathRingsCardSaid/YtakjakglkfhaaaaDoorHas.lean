/-
  Walk of footbridgelaw2.has. Condition: the row lies as 'IntsAt' says.
-/
import Derived.Test.YtakjakglkfhaaaaDoorInts
namespace Go.Proofs.YtakjakglkfhaaaaDoor
open Go Go.RowKit
set_option linter.unusedVariables false

def FoundPost (w : World) (xs : List Int) (x : Int) (e : Ending) (w' : World) : Prop := e = .returned (.bool (decide (x ∈ xs))) ∧ w = w'
set_option maxHeartbeats 400000 in
theorem has_any (w : World) (A : Option Addr) (n c : Nat) (xs : List Int) (x : Int) (hx : IntsAt w A xs) (hn : xs.length = n) (hnb : n ≤ 9223372036854775807) :
    Calls Tryd.prog 32 #[.slice A n c, .int .i64 x] w (FoundPost w xs x) := by
  have HX := Lib.hid hx
  have HN := Lib.hid hn
  clear hx hn
  go_enter Tryd.func32, Tryd.ntmps32
  go_wp2
  go_loop [5] (fun v => ∃ k : Nat, k ≤ n ∧ v = .int .i64 k ∧ x ∉ xs.take k) (fun v => n - (intOf v).toNat)
  case atStart => exact ⟨0, Nat.zero_le _, rfl, by simp⟩
  case round =>
    obtain ⟨k, hk, rfl, ht⟩ := hrel
    have HT := Lib.hid ht
    clear ht
    by_cases hlt : k < n
    · rcases HX.out with h0 | ⟨b, off, rfl, _, hc⟩
      · have := HN.out; subst h0; simp at this; omega
      have hkx : k < xs.length := by rw [HN.out]; exact hlt
      obtain ⟨y, hy⟩ : ∃ y, xs[k]? = some y := ⟨_, List.getElem?_eq_getElem hkx⟩
      have c1 := hc k y hy
      have HY := Lib.hid hy
      have z0 : (0 : Int) ≤ (k : Int) := by omega
      have z1 : (k : Int) < (n : Int) := by omega
      clear hc hy hkx
      by_cases e : y = x
      · have e2 : (y == x) = true := by simp [e]
        have HE := Lib.hid e
        clear e
        go_wp2
        go_ret
        refine ⟨?_, rfl⟩
        rw [decide_eq_true (p := x ∈ xs) (by rw [← HE.out]; exact List.mem_of_getElem? HY.out)]
        rfl
      · have e2 : (y == x) = false := by simpa using e
        have HE := Lib.hid e
        clear e
        go_wp2
        go_round
        case rel =>
          refine ⟨k + 1, by omega, by go_num, ?_⟩
          rw [take_snoc' HY.out, List.mem_append]
          rintro (h | h)
          · exact HT.out h
          · simp at h; exact HE.out h.symm
        case measure => simp [intOf]; omega
    · go_wp2
      go_ret
      refine ⟨?_, rfl⟩
      have h := HT.out
      rw [List.take_of_length_le (by have := HN.out; omega)] at h
      rw [decide_eq_false h]
      rfl

end Go.Proofs.YtakjakglkfhaaaaDoor
