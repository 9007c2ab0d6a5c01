/-
A store's doings beside other things in memory: what they leave as it is. Conditions: the store lies as 'SkR' says.
-/
import Derived.Test.YtkoajpeabicpdaaGreatDoorBs26
import Derived.Test.YtkoajpeabicpdaaGreatDoorBs21
set_option linter.unusedVariables false
namespace Go.Proofs.YtkoajpeabicpdaaGreatDoor
open Go Go.RowKit
def Keeps (wr w':World):Prop:=∃ S:Nat→Prop,Chg S wr w'∧∀ k,S k→wr.heap.size≤k∨∃ t cs,Blk wr k t cs∧(t=56∨t=160∨t=162∨t=116)
section
variable {W wr w' w2:World} {n gu gs t:Nat} {d:DK.D} {b c:List Int} {dn:Bool}
theorem Keeps.blk {k:Nat} {ty:TypeId} {cs:Array Value} (h:Keeps wr w') (hb:Blk wr k ty cs) (ht:¬ (ty=56∨ty=160∨ty=162∨ty=116)):Blk w' k ty cs:=by
 obtain ⟨S,hc,hS⟩:=h
 refine hb.chg hc fun hs=>?_
 rcases hS k hs with q | ⟨t2,cs2,hb2,ht2⟩
 ·have:=hb.lt;omega
 ·have:=blk_same hb hb2;subst this;exact ht ht2
theorem Keeps.graph {G:GrP} {n N:Nat} {A:List AK.Ed} {f:AK.Ed→GM.St} (h:Keeps wr w') (g:GrI wr G n N A f):GrI w' G n N A f:=by
 obtain ⟨S,hc,hS⟩:=h
 have off:∀ k,S k→¬ G.T k:=fun k hs hk=>by
  rcases hS k hs with q | ⟨t2,cs2,hb2,ht2⟩
  ·have:=g.m.ltT k hk;omega
  ·refine g.m.notyp (fun q=>?_) hb2 hk
   rcases ht2 with rfl | rfl | rfl | rfl <;> revert q <;> decide
 refine ⟨g.m.chg hc (fun k hk hs=>off k hs (.inl hk)) (fun i F hi hs=>off _ hs (.inr ⟨i,F,hi,rfl⟩)) (fun k hs cs hb=>?_),g.k,g.few,g.nN⟩
 rcases hS k hs with q | ⟨t2,cs2,hb2,ht2⟩
 ·have:=hb.lt;omega
 ·have:=blk_same hb hb2
  subst this
  revert ht2;decide
theorem keeps_store {u:Dsk} (h1:DAt wr u n d) {v:Value} (h3:SoAt wr gs gu t v dn b) {S:Nat→Prop} (hc:Chg S wr w') (hS:∀ k,S k→u.fp k∨k=gs):Keeps wr w':=by
 refine ⟨S,hc,fun k hk=>.inr ?_⟩
 rcases hS k hk with q | rfl
 ·obtain ⟨t2,cs,hb,ht⟩:=h1.typ q
  exact ⟨t2,cs,hb,ht.elim .inl fun q=>.inr (q.elim .inl fun q=>.inr (.inl q))⟩
 ·exact ⟨_,_,h3.blk,.inr (.inr (.inr rfl))⟩
theorem sk_load2 (h:SkR W n d gu gs t b dn none wr) (hb:b.length≤960):Calls Tryz.prog 21 #[.pointer (some ⟨gs,0,none⟩)] wr fun e w'=>∃ A c,e=.returned (.slice A b.length c)∧BytesAt w' A b∧SkR W n d gu gs t b dn none w'∧Ext wr w':=by
 obtain ⟨u,v,h1,h2,h3,h4,h5⟩:=h.all
 refine (load_any wr gs gu t v dn b h3 (by omega)).mono ?_
 rintro e w' ⟨v',rfl,q1,q2,q3⟩
 obtain ⟨A,c,rfl,_⟩:=own_slice3 q1
 exact ⟨A,c,rfl,bytes_of_own q1,h.ext q2,q2⟩
theorem sk_save2 (h:SkR W n d gu gs t b false none wr) (hn:62≤n) (hg:Good n d t b) (ht:t+1≤790) (A:Option Addr) (m k:Nat) (hm:c.length=m) (hm2:m≤960) (hmk:m≤k) (hkm:k≤maxLen) (hA:BytesAt wr A c) (hAb:c≠[]→∀ x,A=some x→x.block < W.heap.size∨∃ cs,Blk wr x.block 5 cs):
  Calls Tryz.prog 19 #[.pointer (some ⟨gs,0,none⟩),.slice A m k] wr fun e w'=>SkSave W n d gu gs t b c none e w'∧Keeps wr w':=by
 obtain ⟨u,v,h1,h2,h3,h4,h5⟩:=h.all
 subst h2
 refine (save_any wr u n d h1 gs t v b h3 (by omega) A m k c hm hm2 hmk hkm hA (fun hne x hx=>?_) (by rw [hg.ws];simp)).mono ?_
 ·rcases hAb hne x hx with hl | ⟨cs,hb⟩
  ·exact ⟨fun hk=>by have:=h4 _ hk;omega,by have:=h.gs;omega⟩
  ·exact ⟨h1.notyp hb (by decide),hb.ne_ h3.blk (by decide)⟩
 ·rintro e w' ⟨u',v',rfl,q1,q2,q3,q4,q5⟩
  have hK:Keeps wr w':=keeps_store h1 h3 q3 (fun _ hk=>hk)
  refine ⟨?_,hK⟩
  rcases save_law hn hg ht (by omega:c.length≤960) with ⟨r1,r2,r3⟩ | ⟨r1,r2,r3⟩
  ·rw [r1] at q5 ⊢
   obtain ⟨q5,q6⟩:=q5
   exact .inl ⟨_,rfl,h.moved h1 rfl h4 (fun _ hk=>hk) q3 q1 q2 q4 q5 (fun k hk=>Nat.le_trans h.bel.size (q6 k hk)),r2,r3⟩
  ·rw [r1] at q5 ⊢
   exact .inr ⟨_,rfl,r2,h.moved h1 rfl h4 (fun _ hk=>hk) q3 q1 q2 q4 q5 h5,r3⟩
theorem sk_crash2 (h:SkR W n d gu gs t b dn none wr) (A:Option Addr) (m k:Nat) (keep:List Int) (hk:IntsAt W A keep) (hm:keep.length=m) (hmm:m≤maxLen):Calls Tryz.prog 45 #[.pointer (some ⟨gu,0,none⟩),.slice A m k] wr fun e w'=>e=.returned (.tuple #[])∧SkR W n (DK.crash d keep) gu gs t b dn none w'∧Keeps wr w':=by
 obtain ⟨u,v,h1,h2,h3,h4,h5⟩:=h.all
 subst h2
 refine (dcrash_any wr u n d h1 A m k keep (hk.ext h.bel) hm hmm (fun hne x hx hf=>?_)).mono ?_
 ·have:=h4 _ hf
  rcases hk with rfl | ⟨g,o,rfl,hl,_⟩
  ·exact hne rfl
  ·injection hx with hx;subst hx;simp at this;omega
 ·rintro e w' ⟨u',rfl,q1,q2,q3,q4⟩
  exact ⟨rfl,h.moved h1 rfl h4 (fun _ hk=>.inl hk) q3 q1 q2 q4 (h3.chg q3 (h1.notyp h3.blk (by decide)) (h1.notown h3.row)) h5,keeps_store h1 h3 q3 (fun _ hk=>.inl hk)⟩
theorem sk_open2 {t0:Nat} {b0:List Int} (h:SkR W n d gu gs t0 b0 dn none wr) (hn:62≤n) (hg:Good n d t b):Calls Tryz.prog 18 #[.pointer (some ⟨gu,0,none⟩)] wr fun e w'=>SkOpen W n d gu t b none e w'∧Ext wr w':=by
 obtain ⟨u,v,h1,h2,h3,h4,h5⟩:=h.all
 subst h2
 refine (open_good wr u h1 hn hg).mono ?_
 rintro e w' ⟨g,v,rfl,q1,q2,q3,q4⟩
 have:=h.bel.size
 exact ⟨⟨g,rfl,⟨u,v,h1.ext q2,rfl,q1,h4,fun k hk=>Nat.le_trans this (q4 k hk)⟩,h.bel.trans (Below.mono q2 this),Nat.le_trans this q3,fun _ _ h=>by simp at h⟩,q2⟩
end
end Go.Proofs.YtkoajpeabicpdaaGreatDoor
