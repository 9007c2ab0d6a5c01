/-
  Walk of the references' Number. No condition.
-/
import Derived.Test.YtakjakglkfhaaaaDoorNr4
namespace Go.Proofs.YtakjakglkfhaaaaDoor
open Go Go.RowKit
set_option linter.unusedVariables false
def NumPost (s : ByteArray) (w : World) (e : Ending) (w' : World) : Prop := e = .returned (.int .i64 (NT.numF s.data.toList)) ∧ w' = w
def NumR (l : List UInt8) (acc i : Nat) (w wr : World) : Prop := wr = w ∧ NT.numGo 0 l = NT.numGo (acc : Int) (l.drop i) ∧ acc < 10 ^ i
theorem num_step {l : List UInt8} {acc i : Nat} {c : UInt8} (h : l[i]? = some c) (hc : ¬ (c < 48 ∨ 57 < c)) : NT.numGo (acc : Int) (l.drop i) = NT.numGo ((acc * 10 + c.toNat - 48 : Nat) : Int) (l.drop (i + 1)) := by
  obtain ⟨hi, hx⟩ := List.getElem?_eq_some_iff.1 h
  rw [List.drop_eq_getElem_cons hi, hx]
  conv => lhs; unfold NT.numGo
  rw [if_neg hc]
  obtain ⟨d, _, _, e⟩ := NT.digit_of hc
  congr 1
  omega
theorem num_stop {l : List UInt8} {acc i : Nat} {c : UInt8} (h : l[i]? = some c) (hc : c < 48 ∨ 57 < c) : NT.numGo (acc : Int) (l.drop i) = -1 := by
  obtain ⟨hi, hx⟩ := List.getElem?_eq_some_iff.1 h
  rw [List.drop_eq_getElem_cons hi, hx]
  unfold NT.numGo
  rw [if_pos hc]
set_option maxHeartbeats 4000000 in
theorem number_any (s : ByteArray) (w : World) : Calls Tryd.prog 40 #[.string s] w (NumPost s w) := by
  have e0 : s.size = s.data.toList.length := by rw [Array.length_toList]; rfl
  by_cases h1 : (s.size : Int) < 1
  · have HP : Hid (NT.numF s.data.toList = -1) := by
      unfold Hid NT.numF
      rw [if_pos]
      have : s.data.toList.length < 1 := by omega
      simp only [NT.numBad, this, decide_true, Bool.true_or]
    clear e0
    go_enter Tryd.func40, Tryd.ntmps40
    go_wp2
    go_ret
    exact ⟨by rw [HP.out]; rfl, rfl⟩
  by_cases h2 : 9 < (s.size : Int)
  · have HP : Hid (NT.numF s.data.toList = -1) := by
      unfold Hid NT.numF
      rw [if_pos]
      have : 9 < s.data.toList.length := by omega
      simp only [NT.numBad, this, decide_true, Bool.true_or, Bool.or_true]
    clear e0
    go_enter Tryd.func40, Tryd.ntmps40
    go_wp2
    go_ret
    exact ⟨by rw [HP.out]; rfl, rfl⟩
  rcases hl : s.data.toList with _ | ⟨c, r⟩
  · exfalso; rw [hl] at e0; simp only [List.length_nil] at e0; omega
  have h0 : 0 < s.size := by omega
  have hc0 : s[0] = c := by
    have hh : s.data.toList[0]? = some c := by rw [hl]; rfl
    rw [Array.getElem?_toList] at hh
    obtain ⟨_, hh⟩ := Array.getElem?_eq_some_iff.1 hh
    exact hh
  have e1 : s.size = r.length + 1 := by rw [e0, hl]; rfl
  have HL := Lib.hid hl
  have HS : Hid (s.size = s.data.toList.length) := e0
  clear hl e0
  by_cases h4 : 1 < (s.size : Int) ∧ c = 48
  · have HP : Hid (NT.numF s.data.toList = -1) := by
      unfold Hid NT.numF
      rw [if_pos]
      rw [HL.out, h4.2]
      have : 1 < r.length + 1 := by omega
      simp [NT.numBad]
      omega
    obtain ⟨h3, rfl⟩ := h4
    have q1 : ((s[0].toNat : Int) == 48) = true := by rw [hc0]; rfl
    clear e1 hc0 HL
    go_enter Tryd.func40, Tryd.ntmps40
    go_wp2
    go_ret
    exact ⟨by rw [HP.out]; rfl, rfl⟩
  have HP : Hid (NT.numF s.data.toList = NT.numGo 0 s.data.toList) := by
    unfold Hid NT.numF
    rw [if_neg]
    rw [HL.out]
    simp [NT.numBad]
    refine ⟨by omega, fun hr h48 => h4 ⟨by omega, h48⟩⟩
  have hcase : (1 < (s.size : Int) ∧ ((s[0].toNat : Int) == 48) = false) ∨ ¬ 1 < (s.size : Int) := by
    by_cases h3 : 1 < (s.size : Int)
    · left
      refine ⟨h3, ?_⟩
      rw [hc0, beq_eq_false_iff_ne]
      intro h
      apply h4
      refine ⟨h3, ?_⟩
      apply UInt8.toNat_inj.1
      have e : (48 : UInt8).toNat = 48 := rfl
      omega
    · exact .inr h3
  have z9 : (s.size : Int) ≤ 9 := by omega
  clear h4 hc0 e1 HL
  rcases hcase with ⟨h3, q1⟩ | h3
  all_goals
    go_enter Tryd.func40, Tryd.ntmps40
    go_wp2
    go_loopw [3, 4] (fun v3 v4 wr => ∃ (i acc : Nat), i ≤ s.size ∧ v4 = .int .i64 (i : Int) ∧ v3 = .int .i64 (acc : Int) ∧ Hid (NumR s.data.toList acc i w wr)) (fun _ v4 _ => s.size - (intOf v4).toNat)
    case atStart => exact ⟨0, 0, Nat.zero_le _, rfl, rfl, rfl, rfl, by decide⟩
    case round =>
      obtain ⟨i, acc, hi, rfl, rfl, HR⟩ := hrel
      obtain rfl := HR.out.1
      by_cases hil : i < s.size
      · have z1 : (i : Int) < (s.size : Int) := by omega
        have z0 : (0 : Int) ≤ (i : Int) := by omega
        obtain ⟨x, hx⟩ : ∃ x, s[i] = x := ⟨_, rfl⟩
        have HX : Hid (s.data.toList[i]? = some x) := by
          unfold Hid
          rw [Array.getElem?_toList, Array.getElem?_eq_some_iff]
          exact ⟨hil, hx⟩
        have hx256 : x.toNat < 256 := x.toNat_lt
        have ha : acc < 100000000 := by
          have h1 := HR.out.2.2
          have h2 : 10 ^ i ≤ 10 ^ 8 := Nat.pow_le_pow_right (by decide) (by omega)
          have h3 : (10 : Nat) ^ 8 = 100000000 := by decide
          omega
        by_cases b1 : (x.toNat : Int) < 48
        · have HN : Hid (NT.numF s.data.toList = -1) := by
            rw [Hid, HP.out, HR.out.2.1]
            exact num_stop HX.out (.inl (by rw [UInt8.lt_iff_toNat_lt]; have e : (48 : UInt8).toNat = 48 := rfl; omega))
          go_wp2
          go_ret
          exact ⟨by rw [HN.out]; rfl, rfl⟩
        by_cases b2 : 57 < (x.toNat : Int)
        · have HN : Hid (NT.numF s.data.toList = -1) := by
            rw [Hid, HP.out, HR.out.2.1]
            exact num_stop HX.out (.inr (by rw [UInt8.lt_iff_toNat_lt]; have e : (57 : UInt8).toNat = 57 := rfl; omega))
          go_wp2
          go_ret
          exact ⟨by rw [HN.out]; rfl, rfl⟩
        have b3 : 48 ≤ x.toNat := by omega
        have HN : Hid (NumR s.data.toList (acc * 10 + x.toNat - 48) (i + 1) wr wr) := by
          refine ⟨rfl, ?_, ?_⟩
          · rw [HR.out.2.1]
            exact num_step HX.out (fun h => by
              rcases h with h | h
              · rw [UInt8.lt_iff_toNat_lt] at h; have e : (48 : UInt8).toNat = 48 := rfl; omega
              · rw [UInt8.lt_iff_toNat_lt] at h; have e : (57 : UInt8).toNat = 57 := rfl; omega)
          · have h1 := HR.out.2.2
            rw [Nat.pow_succ]; omega
        have HW : Hid ((acc : Int) * 10 + (x.toNat : Int) - 48 = ((acc * 10 + x.toNat - 48 : Nat) : Int)) := by unfold Hid; omega
        clear HR
        go_wp2
        go_roundw
        case rel => exact ⟨i + 1, acc * 10 + x.toNat - 48, by omega, by go_num, congrArg (Value.int .i64) HW.out, HN.out⟩
        case measure => simp [intOf]; omega
      · have hie : i = s.size := by omega
        have HN : Hid (NT.numF s.data.toList = (acc : Int)) := by
          rw [Hid, HP.out, HR.out.2.1, List.drop_eq_nil_of_le (by rw [hie, HS.out]; exact Nat.le_refl _)]; rfl
        clear HR
        go_wp2
        go_ret
        exact ⟨by rw [HN.out]; rfl, rfl⟩
end Go.Proofs.YtakjakglkfhaaaaDoor
