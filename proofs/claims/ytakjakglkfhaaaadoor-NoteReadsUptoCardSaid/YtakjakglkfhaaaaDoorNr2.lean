/-
  Walks of the references' Dec, EventText, EventFault. Condition: numbers below 60.
-/
import Derived.Test.YtakjakglkfhaaaaDoorNr1
import Derived.Test.YtakjakglkfhaaaaDoorNt2
import Derived.Test.YtakjakglkfhaaaaDoorBk1
namespace Go.Proofs.YtakjakglkfhaaaaDoor
open Go Go.RowKit
set_option linter.unusedVariables false

theorem w64_small {q : Nat} (h : q < 60) : wrap64 (q : Int) = (q : Int) := by unfold wrap64; omega
theorem meas_lt {q k : Nat} (h : wrap64 (q : Int) = (q : Int)) (hl : q < k) : (wrap64 (q : Int)).toNat < ((k : Nat) : Int).toNat := by rw [h, Int.toNat_natCast, Int.toNat_natCast]; exact hl
theorem app_nil (x : ByteArray) : x ++ (⟨#[]⟩ : ByteArray) = x := by
  apply ByteArray.ext
  rw [ByteArray.data_append]; simp
theorem app_one (a b : UInt8) : (⟨#[a]⟩ : ByteArray) ++ ⟨#[b]⟩ = ⟨#[a, b]⟩ := rfl
theorem dg_one : ∀ d, d < 10 → (⟨#[48, 49, 50, 51, 52, 53, 54, 55, 56, 57]⟩ : ByteArray).extract d (d + 1) = ⟨#[UInt8.ofNat (48 + d)]⟩ := by
  intro d hd
  have : d = 0 ∨ d = 1 ∨ d = 2 ∨ d = 3 ∨ d = 4 ∨ d = 5 ∨ d = 6 ∨ d = 7 ∨ d = 8 ∨ d = 9 := by omega
  rcases this with rfl | rfl | rfl | rfl | rfl | rfl | rfl | rfl | rfl | rfl <;> rfl
def DecR (w : World) (A k : Nat) (t : ByteArray) (wr : World) : Prop := wr = w ∧ ((k = A ∧ t = ⟨#[]⟩) ∨ (10 ≤ A ∧ k = A / 10 ∧ t = ⟨#[UInt8.ofNat (48 + A % 10)]⟩))
set_option maxHeartbeats 2000000 in
theorem dec_any (A : Nat) (hA : A < 60) (w : World) : Calls Tryd.prog 37 #[.int .i64 (A : Int)] w fun e w' => e = .returned (.string ⟨(Lib.decDigits A).toArray⟩) ∧ w' = w := by
  have HD := Lib.hid (NT.dec_is hA)
  go_enter Tryd.func37, Tryd.ntmps37
  go_wp2
  go_loopw [0, 3] (fun v0 v3 wr => ∃ (k : Nat) (t : ByteArray), k < 60 ∧ v0 = .int .i64 (k : Int) ∧ v3 = .string t ∧ Hid (DecR w A k t wr)) (fun v0 _ _ => (intOf v0).toNat)
  case atStart => exact ⟨A, ⟨#[]⟩, hA, rfl, rfl, rfl, .inl ⟨rfl, rfl⟩⟩
  case round =>
    obtain ⟨k, t, hk, rfl, rfl, HR⟩ := hrel
    obtain rfl := HR.out.1
    obtain ⟨d, hd⟩ : ∃ d, d = k % 10 := ⟨_, rfl⟩
    obtain ⟨q, hq⟩ : ∃ q, q = k / 10 := ⟨_, rfl⟩
    by_cases h9 : 9 < (k : Int)
    · have h1 : k = A ∧ t = ⟨#[]⟩ := by
        rcases HR.out.2 with h | ⟨h, h2, _⟩
        · exact h
        · omega
      obtain ⟨rfl, rfl⟩ := h1
      have d0 : d < 10 := by omega
      have e0 : (k : Int).tmod 10 = (d : Int) := by rw [Int.tmod_eq_emod_of_nonneg (by omega)]; omega
      have e1 : (k : Int).tdiv 10 = (q : Int) := by rw [Int.tdiv_eq_ediv_of_nonneg (by omega)]; omega
      have e2 : IntKind.i64.wrap ((k : Int).tmod 10) = (d : Int) := by rw [e0]; exact IntWalk.i64_in _ (by omega)
      have e3 : IntKind.i64.wrap ((k : Int).tdiv 10) = (q : Int) := by rw [e1]; exact IntWalk.i64_in _ (by omega)
      have e4 : ((d : Int) + 1).toNat = d + 1 := by omega
      have e5 : (d : Int) + 1 ≤ 10 := by omega
      have e6 : (0 : Int) ≤ (d : Int) := by omega
      have e7 : IntKind.i64.wrap ((d : Int) + 1) = (d : Int) + 1 := IntWalk.i64_in _ (by omega)
      have e8 : (d : Int) ≤ (d : Int) + 1 := by omega
      have e9 : (0 : Int) ≤ (d : Int) + 1 := by omega
      have hsz : (⟨#[48, 49, 50, 51, 52, 53, 54, 55, 56, 57]⟩ : ByteArray).size = 10 := rfl
      have HX := Lib.hid (dg_one d d0)
      have HQ : Hid (q < 6 ∧ q < k ∧ d = k % 10 ∧ q = k / 10 ∧ 10 ≤ k) := ⟨by omega, by omega, hd, hq, by omega⟩
      have HW : Hid ((k : Int) / 10 = (q : Int)) := by unfold Hid; omega
      clear HR hd hq e0 e1
      go_wp2
      go_roundw
      case rel => exact ⟨q, _, by have := HQ.out; omega, congrArg (Value.int .i64) HW.out, rfl, rfl, .inr ⟨HQ.out.2.2.2.2, HQ.out.2.2.2.1, by rw [← HQ.out.2.2.1, ← HX.out]; exact app_nil _⟩⟩
      case measure => have h1 := HQ.out.2.2.2.2; simp [intOf]; omega
    · have hk9 : k < 10 := by omega
      have e1 : ((k : Int) + 1).toNat = k + 1 := by omega
      have e2 : (k : Int) + 1 ≤ 10 := by omega
      have e3 : (0 : Int) ≤ (k : Int) := by omega
      have e4 : IntKind.i64.wrap ((k : Int) + 1) = (k : Int) + 1 := IntWalk.i64_in _ (by omega)
      have e5 : (k : Int) ≤ (k : Int) + 1 := by omega
      have e6 : (0 : Int) ≤ (k : Int) + 1 := by omega
      have hsz : (⟨#[48, 49, 50, 51, 52, 53, 54, 55, 56, 57]⟩ : ByteArray).size = 10 := rfl
      have ht1 : t.size ≤ 1 := by
        rcases HR.out.2 with ⟨_, rfl⟩ | ⟨_, _, rfl⟩
        · exact Nat.zero_le _
        · exact Nat.le_refl _
      have hts : ¬ 9223372036854775807 < min (k + 1) 10 - k + t.size := by omega
      have HX := Lib.hid (dg_one k hk9)
      clear hd hq
      go_wp2
      go_ret
      refine ⟨congrArg (fun z => Ending.returned (.string z)) ?_, rfl⟩
      rw [HX.out, HD.out]
      rcases HR.out.2 with ⟨rfl, rfl⟩ | ⟨h1, rfl, rfl⟩
      · rw [if_pos hk9]; exact app_nil _
      · rw [if_neg (by omega)]; exact app_one _ _
end Go.Proofs.YtakjakglkfhaaaaDoor
