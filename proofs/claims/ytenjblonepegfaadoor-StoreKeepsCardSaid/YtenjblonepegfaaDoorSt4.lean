/-
  Walks of (*Store).Turn, (*Store).Load; the store as it lies. Conditions: the store lies as 'SoAt' says.
-/
import Derived.Test.YtenjblonepegfaaDoorSt3
namespace Go.Proofs.YtenjblonepegfaaDoor
open Go Go.RowKit
set_option linter.unusedVariables false

/-- A store: its box, its disk's box, its turn, its bytes' row. -/
structure SoAt (w : World) (g gd : Nat) (t : Int) (v : Value) (down : Bool) (p : List Int) : Prop where
  blk : Blk w g 160 #[.pointer (some ⟨gd, 0, none⟩), .int .i64 t, .int .i64 (p.length : Int), v, .bool down]
  row : w.ownsRow 0 5 1 v p.length (DK.pgv p)
theorem SoAt.chg {S : Nat → Prop} {w w' : World} {g gd : Nat} {t : Int} {v : Value} {down : Bool} {p : List Int} (h : SoAt w g gd t v down p) (hc : Chg S w w') (hg : ¬ S g) (hv : ∀ k, v.ownBlock = some k → ¬ S k) : SoAt w' g gd t v down p :=
  ⟨h.blk.chg hc hg, own_chg h.row hc hv⟩
theorem SoAt.ext {w w' : World} {g gd : Nat} {t : Int} {v : Value} {down : Bool} {p : List Int} (h : SoAt w g gd t v down p) (hb : Ext w w') : SoAt w' g gd t v down p :=
  h.chg (Chg.of_below hb) (by have := h.blk.lt; omega) (fun k hk => by have := own_lt h.row hk; omega)
theorem turn_any (w : World) (g gd : Nat) (t : Int) (v : Value) (down : Bool) (p : List Int) (h : SoAt w g gd t v down p) :
    Calls Tryd.prog 44 #[.pointer (some ⟨g, 0, none⟩)] w fun e w' => e = .returned (.int .i64 t) ∧ w = w' := by
  have c1 : w.cell? ⟨g, 1, none⟩ = some (.int .i64 t) := h.blk.cell 1
  clear h
  go_enter Tryd.func44, Tryd.ntmps44
  go_wp2
  go_ret
  exact ⟨rfl, rfl⟩
end Go.Proofs.YtenjblonepegfaaDoor
