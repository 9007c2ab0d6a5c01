/-
Rows of bools in memory; footbridgesame.Bools. Condition: the rows lie as 'BoolsAt' says.
-/
import Derived.Test.YtkoajpeabicpdaaGreatDoorBs4
import Derived.Test.YtkoajpeabicpdaaGreatDoorBs2
import Derived.Deep.QuietTactic
import Derived.BigQuiet
set_option linter.unusedVariables false
namespace Go.Proofs.YtkoajpeabicpdaaGreatDoor
open Go Go.RowKit Go.ChangeShapes Go.WideShapes
def BoolsAt (w:World) (a:Option Addr) (xs:List Bool):Prop:=xs=[]∨∃ b off,a=some ⟨b,off,none⟩∧b < w.heap.size∧∀ i v,xs[i]?=some v→w.cell? ⟨b,off+i,none⟩=some (.bool v)
theorem BoolsAt.of_own {w:World} {base c n:Nat} {A:Option Addr} {e:TypeId} {xs:List Bool} (h:w.ownsRow base e 1 (.slice A n c) n (xs.map Value.bool)):BoolsAt w A xs∧xs.length=n∧n≤c:=by
 have hl:xs.length=n:=by have:=h.1;simpa using this
 rcases Nat.eq_zero_or_pos n with h0 | h0
 ·exact ⟨.inl (List.eq_nil_of_length_eq_zero (by omega)),hl,by omega⟩
 obtain ⟨g,cap,hv,hc,_⟩:=own_form h h0
 simp only [Value.slice.injEq,true_and] at hv
 obtain ⟨rfl,rfl⟩:=hv
 refine ⟨.inr ⟨g,0,rfl,own_lt h (by simp [Value.ownBlock]),fun i v hv=>?_⟩,hl,hc⟩
 have hi:i < n:=by have:=(List.getElem?_eq_some_iff.1 hv).1;omega
 rw [Nat.zero_add,World.ownsRow.cellAt h i (by omega),List.getElem?_map,hv];rfl
end Go.Proofs.YtkoajpeabicpdaaGreatDoor
