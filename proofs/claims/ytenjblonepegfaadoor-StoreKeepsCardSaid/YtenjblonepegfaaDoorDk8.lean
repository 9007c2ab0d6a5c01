/-
  (*Disk).Write and Read for every argument, and strings of pages, as the laws ask them. Condition: the disk lies in memory as 'DAt' says, the bytes as 'BytesAt', not in the disk's own block.
-/
import Derived.Test.YtenjblonepegfaaDoorDk7
import Derived.Laws.BytesArg
namespace Go.Proofs.YtenjblonepegfaaDoor
open Go Go.RowKit

theorem dwrite_any (w : World) (u : Dsk) (n : Nat) (d : DK.D) (h : DAt w u n d) (i : Int) (A : Option Addr) (m c : Nat) (b : List Int) (hm : b.length = m) (hws : d.ws.length ≤ 10000)
    (hA : BytesAt w A b) (hAb : b ≠ [] → ∀ x, A = some x → x.block ≠ u.g) :
    Calls Tryd.prog 15 #[.pointer (some ⟨u.g, 0, none⟩), .int .i64 i, .slice A m c] w (DWrite w u n d i b) := by
  by_cases hi : i < 0 ∨ (n : Int) ≤ i
  · exact dwrite_no w u n d h i hi A m c b
  by_cases h32 : 32 < m
  · exact dwrite_full w u n d h i hi A m c b hm h32
  by_cases hs : DK.stopped d = true
  · exact dwrite_down w u n d h i hi A m c b hm (by omega) hs
  · obtain ⟨k, rfl⟩ : ∃ k : Nat, i = (k : Int) := ⟨i.toNat, by omega⟩
    exact dwrite_yes w u n d h k (by omega) A m c b hm (by omega) (by simpa using hs) hws hA hAb
/-- The bytes of a row of one's own as a string. -/
theorem run_own_string {w : World} {base g n c : Nat} {p : List Int} (h : w.ownsRow base 5 1 (.slice (some ⟨g, 0, none⟩) n c) n (DK.pgv p)) :
    (convert 33 9 (.slice (some ⟨g, 0, none⟩) n c)).run Tryd.prog w = .ok (.string (strOfNums p)) w := by
  have hl : p.length = n := by have := h.1; simpa [DK.pgv] using this
  refine run_convert_bytes_arg w 33 5 Tryd.underlying33 Tryd.underlying5 g 0 n c p hl (fun i hi => ?_) 9 Tryd.underlying9
  rw [Nat.zero_add, h.cellAt i (by omega)]
  have hi' : i < p.length := by omega
  simp [DK.pgv, List.getD_eq_getElem?_getD, List.getElem?_eq_getElem hi']
end Go.Proofs.YtenjblonepegfaaDoor
