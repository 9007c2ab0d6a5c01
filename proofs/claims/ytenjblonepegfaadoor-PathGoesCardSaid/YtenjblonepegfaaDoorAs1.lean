/-
  Events as they lie in memory; walks of tour.Of and asks.Check. Condition: the events lie in memory as 'EvsAt' says.
-/
import Derived.Test.YtenjblonepegfaaDoorEm
import Derived.Test.YtenjblonepegfaaDoorArg
import Derived.WalkSpells
import Derived.Lib.Hide
import Derived.Outline
import Derived.RegionTactic
import Derived.BigRegion
import Derived.Deep.QuietTactic
import Derived.BigQuiet
import Derived.Deep.DeepFit
import Derived.Deep.DeepCutAuto
import Derived.Deep.CutBlock
import Derived.StillTailTactics
namespace Go.Proofs.YtenjblonepegfaaDoor
open Go Go.RowKit
set_option linter.unusedVariables false

def EvAt (w : World) (g o : Nat) (e : AK.Ev) : Prop := w.cell? ⟨g, o, none⟩ = some (.int .i64 e.w) ∧ w.cell? ⟨g, o + 1, none⟩ = some (.int .i64 e.a) ∧ w.cell? ⟨g, o + 2, none⟩ = some (.int .i64 e.b)
def EvsAt (w : World) (A : Option Addr) (l : List AK.Ev) : Prop := l = [] ∨ ∃ b off, A = some ⟨b, off, none⟩ ∧ b < w.heap.size ∧ ∀ (i : Nat) (e : AK.Ev), l[i]? = some e → EvAt w b (off + i * 3) e
theorem EvsAt.chg {S : Nat → Prop} {w w' : World} {A : Option Addr} {l : List AK.Ev} (h : EvsAt w A l) (hc : Chg S w w') (hn : l ≠ [] → ∀ x, A = some x → ¬ S x.block) : EvsAt w' A l := by
  by_cases h0 : l = []
  · exact .inl h0
  rcases h with h | ⟨b, off, rfl, hb, he⟩
  · exact absurd h h0
  · have hs : ¬ S b := hn h0 _ rfl
    exact .inr ⟨b, off, rfl, Nat.lt_of_lt_of_le hb hc.size, fun i e h => ⟨(hc.cell (p := ⟨b, _, none⟩) hb hs).trans (he i e h).1, (hc.cell (p := ⟨b, _, none⟩) hb hs).trans (he i e h).2.1, (hc.cell (p := ⟨b, _, none⟩) hb hs).trans (he i e h).2.2⟩⟩
theorem EvsAt.ext {w w' : World} {A : Option Addr} {l : List AK.Ev} (h : EvsAt w A l) (hb : Below w.heap.size w w') : EvsAt w' A l := by
  rcases h with h | ⟨b, off, rfl, hl, he⟩
  · exact .inl h
  · exact EvsAt.chg (.inr ⟨b, off, rfl, hl, he⟩) (Chg.of_below hb) (by rintro _ x hx; injection hx with hx; subst hx; simp only; omega)

theorem ed_ret {x y a b : Int} (h1 : x = min a b) (h2 : y = max a b) : Ending.returned (.agg #[.int .i64 x, .int .i64 y]) = .returned (edV (AK.ek a b)) := by subst h1; subst h2; rfl
set_option maxHeartbeats 400000 in
theorem of_any (w : World) (a b : Int) :
    Calls Tryd.prog 74 #[.int .i64 a, .int .i64 b] w fun e w' => e = .returned (edV (AK.ek a b)) ∧ Below w.heap.size w w' := by
  go_enter Tryd.func74, Tryd.ntmps74
  go_wp2
  · rename_i h
    exact bodyPost_ret (v := .agg #[.int .i64 b, .int .i64 a]) (by simp [results, Tryd.results74, go_sem]) rfl ⟨ed_ret (by omega) (by omega), (Below.refl _ _).alloc (Nat.le_refl _) _⟩
  · rename_i h
    exact bodyPost_ret (v := .agg #[.int .i64 a, .int .i64 b]) (by simp [results, Tryd.results74, go_sem]) rfl ⟨ed_ret (by omega) (by omega), (Below.refl _ _).alloc (Nat.le_refl _) _⟩
  · rename_i h
    exact bodyPost_ret (v := .agg #[.int .i64 a, .int .i64 a]) (by simp [results, Tryd.results74, go_sem]) rfl ⟨ed_ret (by omega) (by omega), (Below.refl _ _).alloc (Nat.le_refl _) _⟩
end Go.Proofs.YtenjblonepegfaaDoor
