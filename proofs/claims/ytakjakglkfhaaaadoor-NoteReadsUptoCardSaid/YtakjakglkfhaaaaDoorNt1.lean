/-
  Texts of events, in plain Lean: what is written, what is read. No program in sight.
-/
import Derived.Lib.AtoiAll
import Derived.Lib.ItoaNum
import Derived.Lib.Bytealg
namespace Go.Proofs.YtakjakglkfhaaaaDoor
open Go
set_option linter.unusedVariables false
namespace NT
open Lib

def sg (W : Nat) : UInt8 := if W = 1 then 43 else if W = 2 then 45 else 63
def sgs : List UInt8 := [43, 45, 63]
structure Vd (W A B : Nat) : Prop where
  w1 : 1 ≤ W
  w3 : W ≤ 3
  a : A < 60
  b : B < 60
/-- The text of an event. -/
def txt (W A B : Nat) : List UInt8 := sg W :: (decDigits A ++ 32 :: decDigits B)
theorem idx_sg {W : Nat} (h1 : 1 ≤ W) (h3 : W ≤ 3) : indexByte sgs (sg W) + 1 = (W : Int) := by
  have : W = 1 ∨ W = 2 ∨ W = 3 := by omega
  rcases this with rfl | rfl | rfl <;> decide
theorem idx_le (c : UInt8) : -1 ≤ indexByte sgs c ∧ indexByte sgs c ≤ 2 := by
  unfold sgs
  by_cases h1 : (43 : UInt8) = c
  · subst h1; decide
  · by_cases h2 : (45 : UInt8) = c
    · subst h2; decide
    · by_cases h3 : (63 : UInt8) = c
      · subst h3; decide
      · simp [indexByte, h1, h2, h3]
theorem idx_is {c : UInt8} {W : Nat} (h : indexByte sgs c + 1 = (W : Int)) (h1 : 1 ≤ W) : c = sg W := by
  unfold sgs at h
  by_cases e1 : (43 : UInt8) = c
  · subst e1
    have : indexByte [43, 45, 63] (43 : UInt8) = 0 := by decide
    rw [this] at h
    obtain rfl : W = 1 := by omega
    rfl
  · by_cases e2 : (45 : UInt8) = c
    · subst e2
      have : indexByte [43, 45, 63] (45 : UInt8) = 1 := by decide
      rw [this] at h
      obtain rfl : W = 2 := by omega
      rfl
    · by_cases e3 : (63 : UInt8) = c
      · subst e3
        have : indexByte [43, 45, 63] (63 : UInt8) = 2 := by decide
        rw [this] at h
        obtain rfl : W = 3 := by omega
        rfl
      · simp [indexByte, e1, e2, e3] at h
        omega
/-- Digits of a number below 60: one, or two. -/
theorem dec_is {A : Nat} (h : A < 60) : decDigits A = if A < 10 then [UInt8.ofNat (48 + A)] else [UInt8.ofNat (48 + A / 10), UInt8.ofNat (48 + A % 10)] := by
  rw [decDigits]
  by_cases h1 : A < 10
  · rw [dif_pos h1, if_pos h1]
  · rw [dif_neg h1, if_neg h1, decDigits, dif_pos (by omega)]; rfl
theorem dec_all : ∀ A, A < 60 → (decDigits A).all (fun c => c != 32) = true ∧ atoiAll (decDigits A) = .ok (A : Int) ∧ (decDigits A).length ≤ 2 := by
  have : ∀ A : Fin 60, (((if A.val < 10 then [UInt8.ofNat (48 + A.val)] else [UInt8.ofNat (48 + A.val / 10), UInt8.ofNat (48 + A.val % 10)] : List UInt8)).all (fun c => c != 32) = true ∧ atoiAll (if A.val < 10 then [UInt8.ofNat (48 + A.val)] else [UInt8.ofNat (48 + A.val / 10), UInt8.ofNat (48 + A.val % 10)]) = .ok (A.val : Int) ∧ (if A.val < 10 then [UInt8.ofNat (48 + A.val)] else [UInt8.ofNat (48 + A.val / 10), UInt8.ofNat (48 + A.val % 10)] : List UInt8).length ≤ 2) := by decide +kernel
  intro A hA
  rw [dec_is hA]
  exact this ⟨A, hA⟩
/-- What stands ahead of the first blank, and behind it. -/
def cutA (l : List UInt8) : List UInt8 := l.takeWhile (fun c => c != 32)
def cutB (l : List UInt8) : List UInt8 := (l.dropWhile (fun c => c != 32)).drop 1
theorem cut_txt {a b : List UInt8} (h : a.all (fun c => c != 32) = true) : cutA (a ++ 32 :: b) = a ∧ cutB (a ++ 32 :: b) = b := by
  unfold cutA cutB
  induction a with
  | nil => simp
  | cons c a ih =>
    simp only [List.all_cons, Bool.and_eq_true] at h
    obtain ⟨h1, h2⟩ := ih h.2
    have e1 : List.takeWhile (fun c => c != 32) (c :: (a ++ 32 :: b)) = c :: List.takeWhile (fun c => c != 32) (a ++ 32 :: b) := by rw [List.takeWhile_cons]; simp [h.1]
    have e2 : List.dropWhile (fun c => c != 32) (c :: (a ++ 32 :: b)) = List.dropWhile (fun c => c != 32) (a ++ 32 :: b) := by rw [List.dropWhile_cons]; simp [h.1]
    rw [List.cons_append, e1, e2]
    exact ⟨by rw [h1], h2⟩
theorem idx_cut : ∀ (l : List UInt8), (indexByte l 32 = -1 → cutA l = l ∧ cutB l = []) ∧ (0 ≤ indexByte l 32 → (indexByte l 32).toNat < l.length ∧ cutA l = l.take (indexByte l 32).toNat ∧ cutB l = l.drop ((indexByte l 32).toNat + 1))
  | [] => ⟨fun _ => ⟨rfl, rfl⟩, fun h => by simp [indexByte] at h⟩
  | c :: r => by
    obtain ⟨h1, h2⟩ := idx_cut r
    have hge := indexByte_ge r 32
    by_cases hc : c = 32
    · subst hc
      have e : indexByte (32 :: r) 32 = 0 := by simp [indexByte]
      rw [e]
      exact ⟨fun h => by omega, fun _ => ⟨by simp, by simp [cutA], by simp [cutB]⟩⟩
    · have hcb : (c == 32) = false := by simpa using hc
      have hcn : (c != 32) = true := by simpa using hc
      have ea : cutA (c :: r) = c :: cutA r := by unfold cutA; rw [List.takeWhile_cons]; simp [hcn]
      have eb : cutB (c :: r) = cutB r := by unfold cutB; rw [List.dropWhile_cons]; simp [hcn]
      rw [ea, eb]
      by_cases hr : indexByte r 32 = -1
      · have e : indexByte (c :: r) 32 = -1 := by simp [indexByte, hcb, hr]
        rw [e]
        obtain ⟨k1, k2⟩ := h1 hr
        exact ⟨fun _ => ⟨by rw [k1], k2⟩, fun h => by omega⟩
      · have e : indexByte (c :: r) 32 = indexByte r 32 + 1 := by
          have : (indexByte r 32 == -1) = false := by simpa using hr
          simp [indexByte, hcb, this]
        rw [e]
        obtain ⟨k1, k2, k3⟩ := h2 (by omega)
        have et : (indexByte r 32 + 1).toNat = (indexByte r 32).toNat + 1 := by omega
        rw [et]
        exact ⟨fun h => by omega, fun _ => ⟨by simp; omega, by rw [List.take_succ_cons, k2], by rw [List.drop_succ_cons]; exact k3⟩⟩
/-- A text that is one is read so. -/
theorem txt_read {W A B : Nat} (h : Vd W A B) {c : UInt8} {r : List UInt8} (he : c :: r = txt W A B) : indexByte sgs c + 1 = (W : Int) ∧ atoiAll (cutA r) = .ok (A : Int) ∧ atoiAll (cutB r) = .ok (B : Int) := by
  unfold txt at he
  injection he with h1 h2
  subst h1; subst h2
  obtain ⟨a1, a2, _⟩ := dec_all A h.a
  obtain ⟨_, b2, _⟩ := dec_all B h.b
  obtain ⟨e1, e2⟩ := cut_txt (b := decDigits B) a1
  exact ⟨idx_sg h.w1 h.w3, by rw [e1]; exact a2, by rw [e2]; exact b2⟩
theorem txt_inj {W A B W' A' B' : Nat} (h : Vd W A B) (h' : Vd W' A' B') (he : txt W A B = txt W' A' B') : W = W' ∧ A = A' ∧ B = B' := by
  obtain ⟨x1, x2, x3⟩ := txt_read h (c := sg W) (r := decDigits A ++ 32 :: decDigits B) rfl
  obtain ⟨y1, y2, y3⟩ := txt_read h' (c := sg W) (r := decDigits A ++ 32 :: decDigits B) he
  rw [x2] at y2
  rw [x3] at y3
  injection y2 with y2
  injection y3 with y3
  omega
theorem txt_len {W A B : Nat} (h : Vd W A B) : (txt W A B).length ≤ 6 := by
  have := (dec_all A h.a).2.2
  have := (dec_all B h.b).2.2
  simp [txt]; omega
end NT
end Go.Proofs.YtakjakglkfhaaaaDoor
