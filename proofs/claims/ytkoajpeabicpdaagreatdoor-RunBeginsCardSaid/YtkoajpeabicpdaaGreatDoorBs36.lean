/-
A session in memory: its block, its desk; what a line leaves as it is. Conditions: the desk lies as 'DskA' says.
-/
import Derived.Test.YtkoajpeabicpdaaGreatDoorBs3
import Derived.Test.YtkoajpeabicpdaaGreatDoorBs35
set_option linter.unusedVariables false
namespace Go.Proofs.YtkoajpeabicpdaaGreatDoor
open Go Go.RowKit SQ TR DF PD PT
def SesT (t:TypeId):Prop:=t=56∨t=160∨t=162∨t=116∨t=71∨t=36
def KeepL (wr w':World):Prop:=∃ S:Nat→Prop,Chg S wr w'∧∀ k,S k→wr.heap.size≤k∨∃ t cs,Blk wr k t cs∧SesT t
section
variable {lf:Bool} {W wr w' w2:World} {gu kb gs n t q:Nat} {A S:List AK.Ed}
theorem KeepL.of_ext (hx:Ext wr w'):KeepL wr w':=⟨_,Chg.of_below hx,fun k hk=>.inl hk⟩
theorem KeepL.of_keeps (h:Keeps wr w'):KeepL wr w':=by
 obtain ⟨S,hc,hS⟩:=h
 refine ⟨S,hc,fun k hk=>(hS k hk).imp id fun ⟨t,cs,hb,ht⟩=>⟨t,cs,hb,?_⟩⟩
 rcases ht with h | h | h | h
 ·exact .inl h
 ·exact .inr (.inl h)
 ·exact .inr (.inr (.inl h))
 ·exact .inr (.inr (.inr (.inl h)))
theorem KeepL.one {ty:TypeId} {cs:Array Value} (hb:Blk wr q ty cs) (ht:SesT ty) (hc:Chg (fun k=>k=q) wr w'):KeepL wr w':=
 ⟨_,hc,fun k hk=>.inr ⟨ty,cs,by rw [hk];exact hb,ht⟩⟩
theorem KeepL.trans (h:KeepL wr w') (h2:KeepL w' w2):KeepL wr w2:=by
 obtain ⟨S1,c1,s1⟩:=h
 obtain ⟨S2,c2,s2⟩:=h2
 refine ⟨fun k=>S1 k∨S2 k,(c1.mono fun k _ h=>.inl h).trans c2 fun k _ h=>.inr h,fun k hk=>?_⟩
 by_cases hlt:k < wr.heap.size
 ·by_cases hS:S1 k
  ·exact s1 k hS
  ·rcases hk with hk | hk
   ·exact absurd hk hS
   ·rcases s2 k hk with q | ⟨t,cs,hb,ht⟩
    ·have:=c1.size;omega
    ·refine .inr ⟨t,cs,?_,ht⟩
     unfold Blk at hb ⊢
     rw [←hb]
     exact (c1.block k hlt hS).symm
 ·exact .inl (by omega)
theorem KeepL.blk {k:Nat} {ty:TypeId} {cs:Array Value} (h:KeepL wr w') (hb:Blk wr k ty cs) (ht:¬ SesT ty):Blk w' k ty cs:=by
 obtain ⟨S,hc,hS⟩:=h
 refine hb.chg hc fun hs=>?_
 rcases hS k hs with q | ⟨t2,cs2,hb2,ht2⟩
 ·have:=hb.lt;omega
 ·have:=blk_same hb hb2;subst this;exact ht ht2
structure SesA (W wr:World) (q gu kb t:Nat) (A S:List AK.Ed):Prop where
 blk:Blk wr q 36 #[.pointer (some ⟨gu,0,none⟩),.pointer (some ⟨kb,0,none⟩)]
 dk:DskA true W wr gu kb 20 t A S
 new:W.heap.size≤q
theorem SesA.moved (h:SesA W wr q gu kb t A S) (hx:Ext wr w'):SesA W w' q gu kb t A S:=⟨blk_ext h.blk hx,h.dk.moved hx,h.new⟩
theorem SesA.ext (h:SesA W wr q gu kb t A S):Ext W wr:=h.dk.ext
end
end Go.Proofs.YtkoajpeabicpdaaGreatDoor
