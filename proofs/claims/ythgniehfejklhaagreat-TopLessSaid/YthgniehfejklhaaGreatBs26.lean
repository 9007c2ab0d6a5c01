/-
  What a search answers. No conditions.
-/
import Derived.Test.YthgniehfejklhaaGreatBs2
namespace Go.Proofs.YthgniehfejklhaaGreat
open Go Go.RowKit

def FoundPost (w : World) (xs : List Int) (x : Int) (e : Ending) (w' : World) : Prop := e = .returned (.bool (decide (x ∈ xs))) ∧ w = w'
end Go.Proofs.YthgniehfejklhaaGreat
