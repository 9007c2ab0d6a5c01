/-
  Contracts of package union by the place of the struct, for nodes given as whole numbers. Condition: the union lies in memory as 'UAt' says.
-/
import Derived.Test.YtckcbfnffmohgaaDoorUn3
namespace Go.Proofs.YtckcbfnffmohgaaDoor
open Go Go.RowKit
set_option linter.unusedVariables false

/-- What Join leaves, of two nodes that there are. -/
def JoinIn (w : World) (u : Uni) (n : Nat) (hs : UF.Hs) (a b : Int) (e : Ending) (w' : World) : Prop :=
  ∃ u' : Uni, e = .returned (.tuple #[.bool (UF.rt hs a.toNat != UF.rt hs b.toNat), .nilIface]) ∧ UAt w' u' n (UF.join hs a.toNat b.toNat) ∧ Moved w u u' w'
theorem join_in {w : World} {u : Uni} {n g : Nat} {hs : UF.Hs} (h : UAt w u n hs) (hg : u.g = g) (a b : Int) (ha : 0 ≤ a ∧ a < n) (hb : 0 ≤ b ∧ b < n) :
    Calls Tryd.prog 25 #[.pointer (some ⟨g, 0, none⟩), .int .i64 a, .int .i64 b] w (JoinIn w u n hs a b) := by
  subst hg
  have hr : nodeB n [a, b] = true := by unfold nodeB; simp; omega
  refine (join_any w u n hs h a b).mono ?_
  rintro e w' ⟨u', rfl, h1, h2⟩
  exact ⟨u', by simp [joinB, joinE, hr], by simpa only [joinI, hr, if_true] using h1, h2⟩
theorem same_in {w : World} {u : Uni} {n g : Nat} {hs : UF.Hs} (h : UAt w u n hs) (hg : u.g = g) (a b : Int) (ha : 0 ≤ a ∧ a < n) (hb : 0 ≤ b ∧ b < n) :
    Calls Tryd.prog 21 #[.pointer (some ⟨g, 0, none⟩), .int .i64 a, .int .i64 b] w fun e w' => e = .returned (.tuple #[.bool (UF.rt hs a.toNat == UF.rt hs b.toNat), .nilIface]) ∧ Below w.heap.size w w' := by
  subst hg
  obtain ⟨a', rfl⟩ := Int.eq_ofNat_of_zero_le ha.1
  obtain ⟨b', rfl⟩ := Int.eq_ofNat_of_zero_le hb.1
  exact same_yes w u n hs h a' b' (by omega) (by omega)
end Go.Proofs.YtckcbfnffmohgaaDoor
