/-
  What (*Store).lay makes of a disk, in plain Lean. No conditions.
-/
import Derived.Test.YtenjblonepegfaaDoorSt9
namespace Go.Proofs.YtenjblonepegfaaDoor
open Go Go.RowKit
set_option linter.unusedVariables false

/-- Bytes laid by pages. -/
def layW (n : Nat) : Nat → DK.D → Int → List Int → Option Int × DK.D
  | 0, d, _, _ => (none, d)
  | f + 1, d, i, b => if b.length = 0 then (none, d) else match wrErr n d i (b.take 32) with
    | some x => (some x, wrTo n d i (b.take 32))
    | none => layW n f (wrTo n d i (b.take 32)) (i + 1) (b.drop 32)
def syR (d : DK.D) : Option Int × DK.D := if DK.stopped d then (some 8, DK.step d) else (none, DK.sync (DK.step d))
def layH (n : Nat) (d : DK.D) (t : Int) (l : Int) : Option Int × DK.D := match wrErr n d (t % 2) (hbs t l) with
  | some x => (some x, wrTo n d (t % 2) (hbs t l))
  | none => syR (wrTo n d (t % 2) (hbs t l))
def layS (n : Nat) (d : DK.D) (t : Int) (l : Int) : Option Int × DK.D := match (syR d).1 with
  | some x => (some x, (syR d).2)
  | none => layH n (syR d).2 t l
def layR (n : Nat) (d : DK.D) (t : Int) (b : List Int) : Option Int × DK.D := match (layW n 30 d (2 + t % 2 * 30) b).1 with
  | some x => (some x, (layW n 30 d (2 + t % 2 * 30) b).2)
  | none => layS n (layW n 30 d (2 + t % 2 * 30) b).2 t b.length
theorem layW_nil {n f : Nat} {d : DK.D} {i : Int} {b : List Int} (h : b.length = 0) : layW n f d i b = (none, d) := by
  cases f with
  | zero => rfl
  | succ f => simp [layW, h]
theorem layW_some {n f : Nat} {d : DK.D} {i x : Int} {b : List Int} (h : ¬ b.length = 0) (he : wrErr n d i (b.take 32) = some x) : layW n (f + 1) d i b = (some x, wrTo n d i (b.take 32)) := by
  simp [layW, h, he]
theorem layW_none {n f : Nat} {d : DK.D} {i : Int} {b : List Int} (h : ¬ b.length = 0) (he : wrErr n d i (b.take 32) = none) : layW n (f + 1) d i b = layW n f (wrTo n d i (b.take 32)) (i + 1) (b.drop 32) := by
  simp [layW, h, he]
theorem layR_some {n : Nat} {d : DK.D} {t x : Int} {b : List Int} (h : (layW n 30 d (2 + t % 2 * 30) b).1 = some x) : layR n d t b = (some x, (layW n 30 d (2 + t % 2 * 30) b).2) := by
  simp [layR, h]
theorem layR_none {n : Nat} {d : DK.D} {t : Int} {b : List Int} (h : (layW n 30 d (2 + t % 2 * 30) b).1 = none) : layR n d t b = layS n (layW n 30 d (2 + t % 2 * 30) b).2 t b.length := by
  simp [layR, h]
/-- What lay leaves. -/
def LayPost (w : World) (u : Dsk) (n : Nat) (r : Option Int × DK.D) (e : Ending) (w' : World) : Prop := ∃ u', e = .returned (optErr r.1) ∧ DAt w' u' n r.2 ∧ DMoved w u u' w'
/-- How far lay's loop has come. -/
structure LyR (w : World) (u : Dsk) (n : Nat) (d : DK.D) (i0 : Int) (b : List Int) (gh : Nat) (cs : Array Value) (A : Option Addr) (m : Nat) (i : Int) (wr : World) : Prop where
  all : ∃ f d' b' u', layW n 30 d i0 b = layW n f d' i b' ∧ b'.length = m ∧ m ≤ 32 * f ∧ DAt wr u' n d' ∧ DMoved w u u' wr ∧ BytesAt w A b' ∧ (b' ≠ [] → ∀ x, A = some x → ¬ u.fp x.block ∧ x.block < w.heap.size) ∧ d'.ws.length + f ≤ 1000 ∧ 0 ≤ i ∧ i + f ≤ 100
  box : Blk wr gh 156 cs
theorem BytesAt.lt_ {w : World} {a : Option Addr} {xs : List Int} (h : BytesAt w a xs) (hn : xs ≠ []) {x : Addr} (hx : a = some x) : x.block < w.heap.size := by
  rcases h with h | ⟨b, off, h, hl, _⟩
  · exact absurd h hn
  · rw [hx] at h; injection h with h; subst h; exact hl
theorem BytesAt.take {w : World} {A : Option Addr} {b : List Int} (h : BytesAt w A b) (k : Nat) : BytesAt w A (b.take k) := by
  rcases h with rfl | ⟨g, o, rfl, hl, hx⟩
  · left; simp
  · exact .inr ⟨g, o, rfl, hl, fun i v hv => hx i v (by
      rw [List.getElem?_take] at hv
      split at hv
      · exact hv
      · simp at hv)⟩
theorem BytesAt.drop {w : World} {g o : Nat} {b : List Int} (h : BytesAt w (some ⟨g, o, none⟩) b) (k : Nat) : BytesAt w (some ⟨g, o + k, none⟩) (b.drop k) := by
  rcases h with rfl | ⟨g', o', he, hl, hx⟩
  · left; simp
  · injection he with he; injection he with h1 h2; subst h1; subst h2
    exact .inr ⟨g, o + k, rfl, hl, fun i v hv => by
      rw [Nat.add_assoc]
      exact hx (k + i) v (by rwa [List.getElem?_drop] at hv)⟩
theorem bytes_form {w : World} {A : Option Addr} {b : List Int} (h : BytesAt w A b) (hb : ¬ b.length = 0) : ∃ g o, A = some ⟨g, o, none⟩ := by
  rcases h with rfl | ⟨g, o, rfl, _⟩
  · simp at hb
  · exact ⟨g, o, rfl⟩
end Go.Proofs.YtenjblonepegfaaDoor
