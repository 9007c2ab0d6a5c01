/-
Walk of footbridgesame.Edges. Conditions: the edges lie in memory as 'EdsAt' says.
-/
import Derived.Test.YtkoajpeabicpdaaGreatDoorBs5
import Derived.Test.YtkoajpeabicpdaaGreatDoorBs4
import Derived.Test.YtkoajpeabicpdaaGreatDoorBs2
set_option linter.unusedVariables false
namespace Go.Proofs.YtkoajpeabicpdaaGreatDoor
open Go Go.RowKit
theorem eds_at {w:World} {A:Option Addr} {l:List AK.Ed} {i:Nat} (h:EdsAt w A l) (hi:i < l.length):∃ bs off,A=some ⟨bs,off,none⟩∧bs < w.heap.size∧∃ x,l[i]?=some x∧w.cell? ⟨bs,off+i * 2,none⟩=some (.int .i64 x.1)∧w.cell? ⟨bs,off+i * 2+1,none⟩=some (.int .i64 x.2):=by
 obtain ⟨x,hx⟩:∃ x,l[i]?=some x:=⟨_,List.getElem?_eq_getElem hi⟩
 rcases h with h | ⟨b,off,rfl,hb,hc⟩
 ·subst h;simp at hi
 ·exact ⟨b,off,rfl,hb,x,hx,(hc i x hx).1,(hc i x hx).2⟩
end Go.Proofs.YtkoajpeabicpdaaGreatDoor
