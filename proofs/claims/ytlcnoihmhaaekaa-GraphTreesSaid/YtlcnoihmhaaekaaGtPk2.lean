/-
  A forest of a call's own. Conditions: it lies as 'FoAt' says.
-/
import Derived.Test.YtlcnoihmhaaekaaBs28
import Derived.Test.YtlcnoihmhaaekaaBs37
namespace Go.Proofs.Ytlcnoihmhaaekaa
open Go Go.RowKit SQ TR DF PD
set_option linter.unusedVariables false

/-- A forest of the call's own. -/
structure TcS (w wr : World) (F : FoP) (n N : Nat) (E : List AK.Ed) : Prop where
  at_ : FoAt wr F n N E
  ext : Ext w wr
  new : w.heap.size ≤ F.fb ∧ ∀ k, F.S k → w.heap.size ≤ k
section
variable {w wr w' : World} {F : FoP} {n N N' : Nat} {E E' : List AK.Ed}
theorem TcS.moved (h : TcS w wr F n N E) (hx : Ext wr w') : TcS w w' F n N E := ⟨h.at_.ext hx, h.ext.trans hx, h.new⟩
theorem TcS.step (h : TcS w wr F n N E) (h' : FoAt w' F n N' E') (hc : Chg F.S wr w') : TcS w w' F n N' E' :=
  ⟨h', ((Chg.of_below h.ext).trans hc (fun i _ hi => h.new.2 i hi)).below (Nat.le_refl _) (fun _ _ h => h), h.new⟩
theorem tlink_any (h : FoAt w F n N E) (hN : N < 1000000) (a b : Int) : Calls Try.prog 8 #[.pointer (some ⟨F.fb, 0, none⟩), .int .i64 a, .int .i64 b] w fun e w' => ∃ v E', e = .returned v ∧ FoAt w' F n (N + 1) E' ∧ Chg F.S w w' := by
  by_cases ha : ¬ (0 ≤ a ∧ a < n) ∨ ¬ (0 ≤ b ∧ b < n)
  · refine (tlink_range h a b ha).mono ?_
    rintro e w' ⟨rfl, rfl⟩
    exact ⟨_, E, rfl, h.mono (by omega), Chg.refl _ _⟩
  · obtain ⟨a, rfl⟩ := Int.eq_ofNat_of_zero_le (show 0 ≤ a by omega)
    obtain ⟨b, rfl⟩ := Int.eq_ofNat_of_zero_le (show 0 ≤ b by omega)
    by_cases hc : Cn (adj E) a b
    · refine (tlink_clash h a b (by omega) (by omega) hc).mono ?_
      rintro e w' ⟨rfl, hx⟩
      exact ⟨_, E, rfl, (h.ext hx).mono (by omega), Chg.new hx _⟩
    · refine (tlink_ok h hN a b (by omega) (by omega) hc).mono ?_
      rintro e w' ⟨rfl, h1, h2⟩
      exact ⟨_, _, rfl, h1, h2⟩
end
end Go.Proofs.Ytlcnoihmhaaekaa
