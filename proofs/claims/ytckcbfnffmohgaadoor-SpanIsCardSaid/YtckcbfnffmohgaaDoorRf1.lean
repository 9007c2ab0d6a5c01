/-
  The references' rows of edges: NodesFault, Out. Condition: the edges lie in memory as 'EdsAt' says.
-/
import Derived.Test.YtckcbfnffmohgaaDoorRf0
namespace Go.Proofs.YtckcbfnffmohgaaDoor
open Go Go.RowKit Go.ChangeShapes Go.WideShapes
set_option linter.unusedVariables false

/-- What is wrong with a number of nodes. -/
def nodesF (n : Int) : Int := if n < 1 ∨ 60 < n then 1 else 0
set_option maxHeartbeats 400000 in
theorem nodesFault_any (w : World) (n : Int) : Calls Tryd.prog 14 #[.int .i64 n] w fun e w' => e = .returned (.int .i64 (nodesF n)) ∧ w = w' := by
  by_cases h1 : n < 1
  · have hp : Hid (1 = nodesF n) := by unfold Hid nodesF; rw [if_pos (.inl h1)]
    go_enter Tryd.func14, Tryd.ntmps14
    go_wp2
    go_ret
    exact ⟨congrArg (fun x => Ending.returned (.int .i64 x)) hp.out, rfl⟩
  by_cases h2 : 60 < n
  · have hp : Hid (1 = nodesF n) := by unfold Hid nodesF; rw [if_pos (.inr h2)]
    go_enter Tryd.func14, Tryd.ntmps14
    go_wp2
    go_ret
    exact ⟨congrArg (fun x => Ending.returned (.int .i64 x)) hp.out, rfl⟩
  · have hp : Hid (0 = nodesF n) := by unfold Hid nodesF; rw [if_neg (by omega)]
    go_enter Tryd.func14, Tryd.ntmps14
    go_wp2
    go_ret
    exact ⟨congrArg (fun x => Ending.returned (.int .i64 x)) hp.out, rfl⟩
theorem EdsAt.news {w : World} {A : Option Addr} {l : List AK.Ed} (h : EdsAt w A l) (k d : Nat) : ∀ ad, A = some ad → ∀ j u, (rowsOf edC ((l.drop k).take d))[j]? = some u → w.cell? ((ad.add (k * 2)).add j) = some u := by
  rintro ad rfl j u hj
  rcases h with h | ⟨b, off, he, hb, hc⟩
  · subst h; simp [rowsOf] at hj
  · injection he with he; subst he
    have := EdsAt.cells hc k d j u hj
    rwa [Addr.add_mid (j := k * 2)]
/-- What Out leaves: a new row without the k-th. -/
def OutPost (w : World) (l : List AK.Ed) (k : Nat) (e : Ending) (w' : World) : Prop :=
  ∃ A c, e = .returned (.slice A (l.eraseIdx k).length c) ∧ DRow w' (.slice A (l.eraseIdx k).length c) (l.eraseIdx k) ∧ Below w.heap.size w w' ∧ ∀ j, (Value.slice A (l.eraseIdx k).length c).ownBlock = some j → w.heap.size ≤ j
theorem out_end {w w6 w7 : World} {A6 A7 : Option Addr} {n6 c6 n7 c7 k : Nat} {l : List AK.Ed} {v : Value} (hv : v = .slice A7 n7 c7) (hn : n7 = (l.eraseIdx k).length) (ho : w7.ownsRow 0 34 2 (.slice A7 n7 c7) n7 (rowsOf edC (l.eraseIdx k)))
    (hc6 : Chg (fun j => (Value.slice none 0 0).ownBlock = some j) w w6) (hg6 : ∀ g, (Value.slice A6 n6 c6).ownBlock = some g → (Value.slice none 0 0).ownBlock = some g ∨ g = w.heap.size)
    (hc7 : Chg (fun j => (Value.slice A6 n6 c6).ownBlock = some j) w6 w7) (hg7 : ∀ g, (Value.slice A7 n7 c7).ownBlock = some g → (Value.slice A6 n6 c6).ownBlock = some g ∨ g = w6.heap.size) : OutPost w l k (.returned v) w7 := by
  subst hv; subst hn
  have h6 : ∀ g, (Value.slice A6 n6 c6).ownBlock = some g → w.heap.size ≤ g := fun g hg => by
    rcases hg6 g hg with h | h
    · simp [Value.ownBlock] at h
    · omega
  refine ⟨A7, c7, rfl, ho, (hc6.trans hc7 (fun i hi hS => absurd (h6 i hS) (by omega))).below (Nat.le_refl _) (fun k hk hS => by simp [Value.ownBlock] at hS), fun g hg => ?_⟩
  rcases hg7 g hg with h | h
  · exact h6 g h
  · have := hc6.size; omega
end Go.Proofs.YtckcbfnffmohgaaDoor
