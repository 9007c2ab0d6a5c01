/-
Ways and distances there and back, in plain Lean. No program in sight.
-/
import Derived.Test.YtkoajpeabicpdaaGreatDoorBs40
set_option linter.unusedVariables false
namespace Go.Proofs.YtkoajpeabicpdaaGreatDoor
open Go
namespace PD
theorem Way.at {n:Nat} {l:List Ed} {d:List Int} {x:Nat} {p:List Nat} (hw:Way n l d x p):x < n→p[0]?=some x∧(p.length:Int)=g d x+1∧∀ (i z:Nat),p[i]?=some z→z < n∧g d z=g d x - (i:Int):=by
 induction hw with
 | @stop x h=>exact fun hx=>⟨rfl,by simp [h],fun i z hz=>by
   match i,hz with
   | 0,hz=>simp at hz;subst hz;exact ⟨hx,by simp⟩⟩
 | @go x c p h hn hw ih=>
  intro hx
  obtain ⟨h1,h2,h3⟩:=ih hn.lt
  refine ⟨rfl,by simp;have:=hn.val;omega,fun i z hz=>?_⟩
  match i,hz with
  | 0,hz=>simp at hz;subst hz;exact ⟨hx,by simp⟩
  | i+1,hz=>
   simp at hz
   have:=h3 i z hz
   have:=hn.val
   exact ⟨(h3 i z hz).1,by omega⟩
end PD
end Go.Proofs.YtkoajpeabicpdaaGreatDoor
