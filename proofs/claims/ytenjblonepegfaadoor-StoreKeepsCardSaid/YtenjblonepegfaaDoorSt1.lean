/-
  Walks of store.first, a head's bytes, bytes.Equal. Conditions: a head's numbers are small; the bytes lie in memory as 'StrAt' says.
-/
import Derived.Test.YtenjblonepegfaaDoorSt0
namespace Go.Proofs.YtenjblonepegfaaDoor
open Go Go.RowKit
set_option linter.unusedVariables false

theorem stfirst_any (w : World) (t : Nat) (ht : t ≤ 1000000) : Calls Tryd.prog 81 #[.int .i64 t] w fun e w' => e = .returned (.int .i64 (2 + (t : Int) % 2 * 30)) ∧ w = w' := by
  go_enter Tryd.func81, Tryd.ntmps81
  go_wp2
  go_ret
  exact ⟨rfl, rfl⟩
/-- A head's bytes. -/
def hbs (t l : Int) : List Int := [83, t / 16777216, t / 65536, t / 256, t % 256, l / 256, l % 256]
def HeadBytes (w : World) (t l : Int) (e : Ending) (w' : World) : Prop :=
  ∃ g, e = .returned (.slice (some ⟨g, 0, none⟩) 7 7) ∧ Blk w' g 5 (DK.pgv (hbs t l)).toArray ∧ Below w.heap.size w w' ∧ w.heap.size ≤ g
theorem hb_any (w : World) (t l : Int) (ht0 : 0 ≤ t) (ht : t ≤ 1000) (hl0 : 0 ≤ l) (hl : l ≤ 960) : Calls Tryd.prog 79 #[.agg #[.int .i64 t, .int .i64 l]] w (HeadBytes w t l) := by
  go_enter Tryd.func79, Tryd.ntmps79
  go_wp2
  go_ret
  refine ⟨_, rfl, ?_, ((Below.refl _ _).alloc (Nat.le_refl _) _).alloc (by simp) _, by simp⟩
  have := Blk.new (w.alloc (.cells #[.int .i64 t, .int .i64 l] 156)) 5 (DK.pgv (hbs t l)).toArray
  rw [World.size_alloc] at this; exact this
/-- Bytes that a slice has. -/
def StrAt (w : World) (g o n : Nat) (p : List Int) : Prop := p.length = n ∧ ∀ i, i < n → w.cell? ⟨g, o + i, none⟩ = some (.int .u8 (p.getD i 0))
theorem StrAt.conv {w : World} {g o n c : Nat} {p : List Int} (h : StrAt w g o n p) : (convert 33 9 (.slice (some ⟨g, o, none⟩) n c)).run Tryd.prog w = .ok (.string (strOfNums p)) w :=
  run_convert_bytes_arg w 33 5 Tryd.underlying33 Tryd.underlying5 g o n c p h.1 h.2 9 Tryd.underlying9
theorem bequal_any (w : World) (g o n c g2 o2 n2 c2 : Nat) (p q : List Int) (h : StrAt w g o n p) (h2 : StrAt w g2 o2 n2 q) (r : Bool) (hr : ((strOfNums p).toList == (strOfNums q).toList) = r) :
    Calls Tryd.prog 100 #[.slice (some ⟨g, o, none⟩) n c, .slice (some ⟨g2, o2, none⟩) n2 c2] w fun e w' => e = .returned (.bool r) ∧ w = w' := by
  have s1 := h.conv (c := c)
  have s2 := h2.conv (c := c2)
  clear h h2
  generalize strOfNums p = a at s1 hr
  generalize strOfNums q = b at s2 hr
  have HR := Lib.hid hr
  clear hr
  go_enter Tryd.func100, Tryd.ntmps100
  go_wp2
  go_ret
  exact ⟨by rw [← HR.out]; rfl, rfl⟩
end Go.Proofs.YtenjblonepegfaaDoor
