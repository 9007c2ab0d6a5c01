/-
  Walk of (*Store).Load. Conditions: the store lies as 'SoAt' says.
-/
import Derived.Test.YtenjblonepegfaaDoorSt5
namespace Go.Proofs.YtenjblonepegfaaDoor
open Go Go.RowKit
set_option linter.unusedVariables false

set_option maxRecDepth 100000 in
theorem bclone_nil (w : World) : Calls Tryd.prog 66 #[.slice none 0 0] w (BRow w []) := by
  have u48 := fun (w : World) (a : Option Addr) (n c n' c' : Nat) => Lib.run_eql_slice_nil (P := Tryd.prog) w 33 5 a n c n' c' Tryd.underlying33
  go_enter Tryd.func66, Tryd.ntmps66
  go_wp2
  go_ret
  exact ⟨_, rfl, World.ownsRow_nil _ _ _ _, Ext.refl w, fun k hk => by simp [Value.ownBlock] at hk⟩
theorem bclone_own (w : World) (v : Value) (p : List Int) (hn2 : p.length ≤ 100000) (h : w.ownsRow 0 5 1 v p.length (DK.pgv p)) : Calls Tryd.prog 66 #[v] w (BRow w p) := by
  rcases h.2 with ⟨rfl, h0⟩ | ⟨g, cap, cur, rfl, _, hg, _⟩
  · obtain rfl : p = [] := List.eq_nil_of_length_eq_zero h0
    exact bclone_nil w
  · refine bclone_row w _ _ _ p rfl hn2 (fun j u hj => ?_)
    rw [Addr.add_mid, Nat.zero_add]
    have hjn : j < p.length := by have := (List.getElem?_eq_some_iff.1 hj).1; simpa [DK.pgv] using this
    have hlt : g < w.heap.size := own_lt h (by simp [Value.ownBlock])
    rw [((Ext.alloc w _).cell (p := ⟨g, j, none⟩) hlt), h.cellAt j (by omega)]
    exact hj
theorem load_any (w : World) (g gd : Nat) (t : Int) (v : Value) (down : Bool) (p : List Int) (h : SoAt w g gd t v down p) (hn : p.length ≤ 100000) :
    Calls Tryd.prog 43 #[.pointer (some ⟨g, 0, none⟩)] w (BRow w p) := by
  have c3 : w.cell? ⟨g, 3, none⟩ = some v := h.blk.cell 3
  have HR := Lib.hid h.row
  clear h
  go_enter Tryd.func43, Tryd.ntmps43
  go_wp2_with fail
  refine (bclone_own w v p hn HR.out).mono ?_
  rintro e w' ⟨v', rfl, h1, h2, h3⟩
  have H1 := Lib.hid h1
  have H2 := Lib.hid h2
  have H3 := Lib.hid h3
  clear h1 h2 h3
  go_wp2
  go_ret
  exact ⟨_, rfl, H1.out, H2.out, H3.out⟩
end Go.Proofs.YtenjblonepegfaaDoor
