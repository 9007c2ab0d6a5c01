/-
  Walks of store.Format, store.Open at a disk that is too small. Conditions: the disk lies as 'DAt' says.
-/
import Derived.Test.YtenjblonepegfaaDoorSt6
namespace Go.Proofs.YtenjblonepegfaaDoor
open Go Go.RowKit
set_option linter.unusedVariables false

theorem format_no (w : World) (u : Dsk) (n : Nat) (d : DK.D) (h : DAt w u n d) (hn : n < 62) :
    Calls Tryd.prog 40 #[.pointer (some ⟨u.g, 0, none⟩)] w fun e w' => e = .returned (derrV 3) ∧ w = w' := by
  have HH := Lib.hid h
  have h1 : (n : Int) < 62 := by omega
  clear h
  go_enter Tryd.func40, Tryd.ntmps40
  go_wp2_with fail
  refine (dpages_any w u n d HH.out).mono ?_
  rintro e w' ⟨rfl, rfl⟩
  go_wp2
  go_ret
  exact ⟨rfl, rfl⟩
theorem open_no (w : World) (u : Dsk) (n : Nat) (d : DK.D) (h : DAt w u n d) (hn : n < 62) :
    Calls Tryd.prog 41 #[.pointer (some ⟨u.g, 0, none⟩)] w fun e w' => e = .returned (.tuple #[.pointer none, derrV 5]) ∧ w = w' := by
  have HH := Lib.hid h
  have h1 : (n : Int) < 62 := by omega
  clear h
  go_enter Tryd.func41, Tryd.ntmps41
  go_wp2_with fail
  refine (dpages_any w u n d HH.out).mono ?_
  rintro e w' ⟨rfl, rfl⟩
  go_wp2
  go_ret2
  exact ⟨rfl, rfl⟩
end Go.Proofs.YtenjblonepegfaaDoor
