/-
  The references' Number, Split, EventOf of a text, in plain Lean: just the texts of events are events. No program in sight.
-/
import Derived.Test.YtakjakglkfhaaaaDoorNt1
namespace Go.Proofs.YtakjakglkfhaaaaDoor
open Go
set_option linter.unusedVariables false
namespace NT
open Lib

/-- Digits read one behind the other; -1: one is none. -/
def numGo : Int → List UInt8 → Int
  | n, [] => n
  | n, c :: r => if c < 48 ∨ 57 < c then -1 else numGo (n * 10 + (c.toNat : Int) - 48) r
def numBad (l : List UInt8) : Bool := decide (l.length < 1) || (decide (9 < l.length) || (decide (1 < l.length) && decide (l.head? = some 48)))
def numF (l : List UInt8) : Int := if numBad l then -1 else numGo 0 l
/-- Split at blanks: what was cut off, what is being read. -/
def spl : List UInt8 → List UInt8 → List (List UInt8)
  | cur, [] => [cur]
  | cur, c :: r => if c = 32 then cur :: spl [] r else spl (cur ++ [c]) r
theorem spl_ne : ∀ (l cur : List UInt8), spl cur l ≠ []
  | [], cur => by simp [spl]
  | c :: r, cur => by
    unfold spl
    split
    · simp
    · exact spl_ne r _
theorem spl_one : ∀ {l cur a : List UInt8}, spl cur l = [a] → a = cur ++ l
  | [], cur, a, h => by simp [spl] at h; simp [h]
  | c :: r, cur, a, h => by
    unfold spl at h
    split at h
    · simp only [List.cons.injEq] at h
      exact absurd h.2 (spl_ne _ _)
    · have := spl_one h
      rw [this]; simp
theorem spl_two : ∀ {l cur a b : List UInt8}, spl cur l = [a, b] → cur ++ l = a ++ 32 :: b
  | [], cur, a, b, h => by simp [spl] at h
  | c :: r, cur, a, b, h => by
    unfold spl at h
    split at h
    · rename_i hc
      simp only [List.cons.injEq] at h
      obtain ⟨rfl, h⟩ := h
      have := spl_one h
      rw [this, hc]; simp
    · have := spl_two h
      rw [← this]; simp
theorem spl_no : ∀ {a cur : List UInt8}, a.all (fun c => c != 32) = true → spl cur a = [cur ++ a]
  | [], cur, _ => by simp [spl]
  | c :: r, cur, h => by
    simp only [List.all_cons, Bool.and_eq_true, bne_iff_ne] at h
    unfold spl
    rw [if_neg h.1, spl_no h.2]; simp
theorem spl_at : ∀ {a cur b : List UInt8}, a.all (fun c => c != 32) = true → spl cur (a ++ 32 :: b) = (cur ++ a) :: spl [] b
  | [], cur, b, _ => by simp [spl]
  | c :: r, cur, b, h => by
    simp only [List.all_cons, Bool.and_eq_true, bne_iff_ne] at h
    show (if c = 32 then cur :: spl [] (r ++ 32 :: b) else spl (cur ++ [c]) (r ++ 32 :: b)) = _
    rw [if_neg h.1, spl_at h.2]; simp
theorem numGo_ge : ∀ {l : List UInt8} {n : Int}, 0 ≤ n → numGo n l ≠ -1 → n ≤ numGo n l
  | [], n, h0, _ => by simp [numGo]
  | c :: r, n, h0, h => by
    unfold numGo at h ⊢
    split at h
    · exact absurd rfl h
    · rename_i hc
      rw [if_neg hc]
      have hc1 : 48 ≤ c.toNat := by
        have : ¬ c < 48 := fun h => hc (.inl h)
        rw [UInt8.lt_iff_toNat_lt] at this
        simpa using this
      have := numGo_ge (l := r) (n := n * 10 + (c.toNat : Int) - 48) (by omega) h
      omega
theorem digit_of {c : UInt8} (h : ¬ (c < 48 ∨ 57 < c)) : ∃ d, d < 10 ∧ c = UInt8.ofNat (48 + d) ∧ c.toNat = 48 + d := by
  have h1 : ¬ c < 48 := fun x => h (.inl x)
  have h2 : ¬ 57 < c := fun x => h (.inr x)
  rw [UInt8.lt_iff_toNat_lt] at h1 h2
  have e1 : (48 : UInt8).toNat = 48 := rfl
  have e2 : (57 : UInt8).toNat = 57 := rfl
  rw [e1] at h1; rw [e2] at h2
  refine ⟨c.toNat - 48, by omega, ?_, by omega⟩
  rw [show 48 + (c.toNat - 48) = c.toNat by omega]
  simp
/-- What reads as a number below 60 is its digits. -/
theorem num_dec {l : List UInt8} {A : Nat} (h : numF l = (A : Int)) (hA : A < 60) : l = decDigits A := by
  unfold numF at h
  split at h
  · omega
  rename_i hb
  simp only [numBad, Bool.or_eq_true, Bool.and_eq_true, decide_eq_true_eq, not_or, not_and] at hb
  rw [dec_is hA]
  match l, h, hb with
  | [], h, hb => simp at hb
  | [c], h, hb =>
    unfold numGo at h
    split at h
    · omega
    · rename_i hc
      obtain ⟨d, hd, rfl, e⟩ := digit_of hc
      rw [e] at h
      simp only [numGo] at h
      have : A = d := by omega
      rw [this, if_pos hd]
  | [c, c'], h, hb =>
    unfold numGo at h
    split at h
    · omega
    · rename_i hc
      obtain ⟨d, hd, rfl, e⟩ := digit_of hc
      rw [e] at h
      unfold numGo at h
      split at h
      · omega
      · rename_i hc'
        obtain ⟨d', hd', rfl, e'⟩ := digit_of hc'
        rw [e'] at h
        simp only [numGo] at h
        have hd0 : d ≠ 0 := fun h0 => hb.2.2 (by simp) (by subst h0; rfl)
        have : A = 10 * d + d' := by omega
        rw [if_neg (by omega), show A / 10 = d by omega, show A % 10 = d' by omega]
  | c :: c' :: c'' :: r, h, hb =>
    exfalso
    unfold numGo at h
    split at h
    · omega
    · rename_i hc
      obtain ⟨d, hd, rfl, e⟩ := digit_of hc
      rw [e] at h
      have hd0 : d ≠ 0 := fun h0 => hb.2.2 (by simp) (by subst h0; rfl)
      unfold numGo at h
      split at h
      · omega
      · rename_i hc'
        obtain ⟨d', hd', rfl, e'⟩ := digit_of hc'
        rw [e'] at h
        unfold numGo at h
        split at h
        · omega
        · rename_i hc''
          obtain ⟨d'', hd'', rfl, e''⟩ := digit_of hc''
          rw [e''] at h
          have := numGo_ge (l := r) (n := ((0 * 10 + ((48 + d : Nat) : Int) - 48) * 10 + ((48 + d' : Nat) : Int) - 48) * 10 + ((48 + d'' : Nat) : Int) - 48) (by omega) (by rw [h]; omega)
          omega
theorem num_of : ∀ A, A < 60 → numF (decDigits A) = (A : Int) := by
  intro A hA
  rw [dec_is hA]
  revert A
  decide
/-- The event of a text by the references: 0 where it is none. -/
def evF (l : List UInt8) : Option (Int × Int × Int) := match l with
  | [] => none
  | c :: r => match spl [] r with
    | [a, b] => some (indexByte sgs c + 1, numF a, numF b)
    | _ => none
def evOk (x : Int × Int × Int) : Prop := 1 ≤ x.1 ∧ x.1 ≤ 3 ∧ 0 ≤ x.2.1 ∧ x.2.1 < 60 ∧ 0 ≤ x.2.2 ∧ x.2.2 < 60
theorem evF_txt {l : List UInt8} {W A B : Nat} (h : Vd W A B) (he : l = txt W A B) : evF l = some ((W : Int), (A : Int), (B : Int)) := by
  subst he
  have ha := (dec_all A h.a).1
  have hb := (dec_all B h.b).1
  simp only [txt, evF]
  rw [spl_at ha, spl_no hb]
  simp only [List.nil_append]
  rw [idx_sg h.w1 h.w3, num_of A h.a, num_of B h.b]
theorem txt_evF {l : List UInt8} {x : Int × Int × Int} (h : evF l = some x) (hx : evOk x) : ∃ W A B : Nat, x = ((W : Int), (A : Int), (B : Int)) ∧ Vd W A B ∧ l = txt W A B := by
  obtain ⟨x1, x2, x3⟩ := x
  obtain ⟨h1, h2, h3, h4, h5, h6⟩ := hx
  simp only at h1 h2 h3 h4 h5 h6
  obtain ⟨W, rfl⟩ : ∃ W : Nat, x1 = W := ⟨x1.toNat, by omega⟩
  obtain ⟨A, rfl⟩ : ∃ A : Nat, x2 = A := ⟨x2.toNat, by omega⟩
  obtain ⟨B, rfl⟩ : ∃ B : Nat, x3 = B := ⟨x3.toNat, by omega⟩
  refine ⟨W, A, B, rfl, ⟨by omega, by omega, by omega, by omega⟩, ?_⟩
  cases l with
  | nil => simp [evF] at h
  | cons c r =>
    simp only [evF] at h
    split at h
    · rename_i a b hs
      simp only [Option.some.injEq, Prod.mk.injEq] at h
      obtain ⟨g1, g2, g3⟩ := h
      have e := spl_two hs
      simp only [List.nil_append] at e
      rw [e, num_dec g2 (by omega), num_dec g3 (by omega), idx_is g1 (by omega)]
      rfl
    · simp at h
end NT
end Go.Proofs.YtakjakglkfhaaaaDoor
