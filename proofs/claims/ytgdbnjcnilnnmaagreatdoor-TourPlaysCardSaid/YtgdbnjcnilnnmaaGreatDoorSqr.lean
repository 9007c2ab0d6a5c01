/-
  Rows by their lists: contracts of package seq. No conditions.
-/
import Derived.Test.YtgdbnjcnilnnmaaGreatDoorSq6
namespace Go.Proofs.YtgdbnjcnilnnmaaGreatDoor
open Go Go.RowKit SQ

/-- Two, three results, whatever they are; only new blocks. -/
def Some2 (w : World) (e : Ending) (w' : World) : Prop := ∃ v1 v2 : Value, e = .returned (.tuple #[v1, v2]) ∧ Ext w w'
def Some3 (w : World) (e : Ending) (w' : World) : Prop := ∃ v1 v2 v3 : Value, e = .returned (.tuple #[v1, v2, v3]) ∧ Ext w w'
theorem of_some (w : World) (A : Option Addr) (n c : Nat) (xs : List Int) (hx : IntsAt w A xs) (hl : xs.length = n) : Calls Tryz.prog 47 #[.slice A n c] w (Some2 w) := by
  by_cases h : n ≤ 400
  · exact (of_yes w A n c xs hx hl h).mono fun e w' ⟨t, p, _, he, _, hx⟩ => ⟨_, _, he, hx⟩
  · exact (of_no w A n c (by omega)).mono fun e w' ⟨he, hw⟩ => ⟨_, _, he, hw ▸ Ext.refl _⟩
theorem sjoin_some (w : World) (p q : Option Addr) (l r : T) (hl : SeqAt w p l) (hr : SeqAt w q r) (h1 : l.size ≤ 400) (h2 : r.size ≤ 400) : Calls Tryz.prog 80 #[.pointer p, .pointer q] w (Some2 w) := by
  by_cases h : l.size + r.size ≤ 400
  · exact (sjoin_yes w p q l r hl hr h).mono fun e w' ⟨t, p, _, he, _, hx⟩ => ⟨_, _, he, hx⟩
  · exact (sjoin_no w p q l r hl hr h1 h2 (by omega)).mono fun e w' ⟨he, hw⟩ => ⟨_, _, he, hw ▸ Ext.refl _⟩
theorem ssplit_some (w : World) (p : Option Addr) (t : T) (i : Int) (ht : SeqAt w p t) (hz : t.size ≤ 400) : Calls Tryz.prog 58 #[.pointer p, .int .i64 i] w (Some3 w) := by
  by_cases h : i < 0 ∨ (t.size : Int) < i
  · exact (ssplit_no w p t i ht h).mono fun e w' ⟨he, hw⟩ => ⟨_, _, _, he, hw ▸ Ext.refl _⟩
  · obtain ⟨i, rfl⟩ := Int.eq_ofNat_of_zero_le (show 0 ≤ i by omega)
    exact (ssplit_yes w p t i ht hz (by omega)).mono fun e w' ⟨lo, hi, p, q, _, _, _, he, _, _, hx⟩ => ⟨_, _, _, he, hx⟩
/-- A row of which its list is known. -/
def RowAt (w : World) (p : Option Addr) (xs : List Int) : Prop := ∃ t, SeqAt w p t ∧ t.list = xs
theorem RowAt.ext {w w' : World} {p : Option Addr} {xs : List Int} (h : RowAt w p xs) (he : Ext w w') : RowAt w' p xs := by
  obtain ⟨t, h1, h2⟩ := h; exact ⟨t, h1.ext he, h2⟩
theorem row_len {w : World} {p : Option Addr} {xs : List Int} (h : RowAt w p xs) : Calls Tryz.prog 83 #[.pointer p] w fun e w' => e = .returned (.int .i64 (xs.length : Nat)) ∧ w = w' := by
  obtain ⟨t, h1, rfl⟩ := h; rw [T.len]; exact len_any w p t h1
theorem row_list {w : World} {p : Option Addr} {xs : List Int} (h : RowAt w p xs) (hz : xs.length ≤ 1000) : Calls Tryz.prog 56 #[.pointer p] w (ListPost w xs) := by
  obtain ⟨t, h1, rfl⟩ := h; exact list_any w p t h1 (by rw [← T.len]; exact hz)
def RowRes (w : World) (xs : List Int) (e : Ending) (w' : World) : Prop := ∃ p : Option Addr, e = .returned (.tuple #[.pointer p, .nilIface]) ∧ RowAt w' p xs ∧ Ext w w'
theorem row_of {w : World} {A : Option Addr} {n c : Nat} {xs : List Int} (hx : IntsAt w A xs) (hl : xs.length = n) (h : n ≤ 400) : Calls Tryz.prog 47 #[.slice A n c] w (RowRes w xs) :=
  (of_yes w A n c xs hx hl h).mono fun _ _ ⟨t, p, h1, he, h2, hx⟩ => ⟨p, he, ⟨t, h2, h1.1⟩, hx⟩
theorem row_join {w : World} {p q : Option Addr} {xs ys : List Int} (h1 : RowAt w p xs) (h2 : RowAt w q ys) (h : xs.length + ys.length ≤ 400) : Calls Tryz.prog 80 #[.pointer p, .pointer q] w (RowRes w (xs ++ ys)) := by
  obtain ⟨t, t1, rfl⟩ := h1
  obtain ⟨u, u1, rfl⟩ := h2
  rw [T.len, T.len] at h
  exact (sjoin_yes w p q t u t1 u1 h).mono fun _ _ ⟨v, p, h1, he, h2, hx⟩ => ⟨p, he, ⟨v, h2, h1.1⟩, hx⟩
theorem row_join_no {w : World} {p q : Option Addr} {xs ys : List Int} (h1 : RowAt w p xs) (h2 : RowAt w q ys) (z1 : xs.length ≤ 400) (z2 : ys.length ≤ 400) (h : 400 < xs.length + ys.length) :
    Calls Tryz.prog 80 #[.pointer p, .pointer q] w fun e w' => e = .returned (.tuple #[.pointer none, errV 3]) ∧ w = w' := by
  obtain ⟨t, t1, rfl⟩ := h1
  obtain ⟨u, u1, rfl⟩ := h2
  rw [T.len] at z1 z2 h; rw [T.len] at h
  exact sjoin_no w p q t u t1 u1 z1 z2 h
theorem row_join_some {w : World} {p q : Option Addr} {xs ys : List Int} (h1 : RowAt w p xs) (h2 : RowAt w q ys) (z1 : xs.length ≤ 400) (z2 : ys.length ≤ 400) : Calls Tryz.prog 80 #[.pointer p, .pointer q] w (Some2 w) := by
  obtain ⟨t, t1, rfl⟩ := h1
  obtain ⟨u, u1, rfl⟩ := h2
  rw [T.len] at z1 z2
  exact sjoin_some w p q t u t1 u1 z1 z2
theorem row_split_some {w : World} {p : Option Addr} {xs : List Int} (h : RowAt w p xs) (z : xs.length ≤ 400) (i : Int) : Calls Tryz.prog 58 #[.pointer p, .int .i64 i] w (Some3 w) := by
  obtain ⟨t, t1, rfl⟩ := h
  rw [T.len] at z
  exact ssplit_some w p t i t1 z
theorem row_split_no {w : World} {p : Option Addr} {xs : List Int} (h : RowAt w p xs) (i : Int) (hi : i < 0 ∨ (xs.length : Int) < i) : Calls Tryz.prog 58 #[.pointer p, .int .i64 i] w fun e w' => e = .returned (.tuple #[.pointer none, .pointer none, errV 1]) ∧ w = w' := by
  obtain ⟨t, t1, rfl⟩ := h
  rw [T.len] at hi
  exact ssplit_no w p t i t1 hi
def SplitRes (w : World) (xs : List Int) (i : Nat) (e : Ending) (w' : World) : Prop := ∃ p q : Option Addr, e = .returned (.tuple #[.pointer p, .pointer q, .nilIface]) ∧ RowAt w' p (xs.take i) ∧ RowAt w' q (xs.drop i) ∧ Ext w w'
theorem row_split {w : World} {p : Option Addr} {xs : List Int} (h : RowAt w p xs) (z : xs.length ≤ 400) (i : Nat) (hi : i ≤ xs.length) : Calls Tryz.prog 58 #[.pointer p, .int .i64 i] w (SplitRes w xs i) := by
  obtain ⟨t, t1, rfl⟩ := h
  rw [T.len] at z hi
  exact (ssplit_yes w p t i t1 z hi).mono fun _ _ ⟨lo, hi, p, q, h1, h2, _, he, h3, h4, hx⟩ => ⟨p, q, he, ⟨lo, h3, h1⟩, ⟨hi, h4, h2⟩, hx⟩
end Go.Proofs.YtgdbnjcnilnnmaaGreatDoor
