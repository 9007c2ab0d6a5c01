/-
Opening []Step of package footbridgelaw2 with its events, whose numbers are int's. No conditions.
-/
import Derived.Test.YtkoajpeabicpdaaGreatDoorBs34
import Derived.Test.YtkoajpeabicpdaaGreatDoorBs23
import Derived.Test.YtkoajpeabicpdaaGreatDoorBs29
import Derived.Test.YtkoajpeabicpdaaGreatDoorBs33
import Derived.Deep.CutBlock
import Derived.Deep.DeepCutAuto
import Derived.StillTailTactics
set_option linter.unusedVariables false
namespace Go.Proofs.YtkoajpeabicpdaaGreatDoor
open Go Go.RowKit Go.ChangeShapes Go.WideShapes
structure GSt where
 e:ESt
 EA:Option Addr
 em:Nat
 ec:Nat
 l:List AK.Ev
instance:Inhabited GSt:=⟨⟨default,none,0,0,[]⟩⟩
end Go.Proofs.YtkoajpeabicpdaaGreatDoor
namespace Go.Proofs.YtkoajpeabicpdaaGreatDoor
open Go Go.RowKit SQ TR DF PD PT
def RowE (w:World) (A:Option Addr) (c:Nat) (l:List AK.Ed):Prop:=EdsAt w A l∧(l.length≤c∧c≤maxLen)∧(l≠[]→∀ x,A=some x→∃ cs,Blk w x.block 93 cs)
section
variable {W wr w':World} {A:Option Addr} {c:Nat} {l:List AK.Ed}
theorem RowE.nil (w:World):RowE w none 0 []:=⟨.inl rfl,by simp [maxLen],fun h=>absurd rfl h⟩
end
end Go.Proofs.YtkoajpeabicpdaaGreatDoor
namespace Go.Proofs.YtkoajpeabicpdaaGreatDoor
open Go Go.RowKit
open SQ TR DF PD PT
def DskA (lf:Bool) (W wr:World) (gu kb n t:Nat) (A S:List AK.Ed):Prop:=
 ∃ (d:DK.D) (gs N:Nat) (G:GrP) (f:AK.Ed→GM.St),DkS W wr d gu gs t (NT.encL n S) false kb n N G A f∧Good 62 d t (NT.encL n S)∧(lf=true→d.left=-1)∧DkE n S
def DskB (W wr:World) (gu kb n t:Nat) (A S:List AK.Ed):Prop:=
 ∃ (d:DK.D) (gs N:Nat) (G:GrP) (f:AK.Ed→GM.St),DkS W wr d gu gs t (NT.encL n S) true kb n N G A f∧(∀ keep,Good 62 (DK.crash d keep) t (NT.encL n S)∨Good 62 (DK.crash d keep) (t+1) (NT.encL n A))∧DkE n S
def SkA (lf:Bool) (W wr:World) (gu n t:Nat) (S:List AK.Ed):Prop:=
 ∃ (d:DK.D) (gs t0:Nat) (b0:List Int) (dn:Bool),SkR W 62 d gu gs t0 b0 dn none wr∧Good 62 d t (NT.encL n S)∧(lf=true→d.left=-1)∧DkE n S
def FltK (n:Nat) (l:List AK.Ev) (A:List AK.Ed) (k:Nat):Prop:=(120 < l.length∧k=3)∨(l.length≤120∧∃ i V x y,DS.Okay n l A i∧l[i]?=some (⟨V,x,y⟩:AK.Ev)∧DS.flt n (DS.run n l A i).1 V x y=k∧k≠0)
section
variable {lf dn:Bool} {W wr w':World} {gu kb n t k k' c:Nat} {A S:List AK.Ed} {l:List AK.Ev} {R:Option Addr}
theorem FltK.one (h:FltK n l A k) (h':FltK n l A k'):k=k':=by
 rcases h with ⟨h1,rfl⟩ | ⟨h1,i,V,x,y,q1,q2,q3,q4⟩
 ·rcases h' with ⟨_,rfl⟩ | ⟨h2,_⟩
  ·rfl
  ·omega
 ·rcases h' with ⟨h2,_⟩ | ⟨_,i',V',x',y',r1,r2,r3,r4⟩
  ·omega
  ·rcases Nat.lt_trichotomy i i' with q | q | q
   ·exact absurd (q3.symm.trans (r1 i _ q q2)) q4
   ·subst q
    rw [q2] at r2
    injection r2 with r2
    injection r2 with e1 e2 e3
    subst e1;subst e2;subst e3
    rw [←q3,r3]
   ·exact absurd (r3.symm.trans (q1 i' _ q r2)) r4
theorem FltK.no (h:FltK n l A k) (hl:l.length≤120) (ho:DS.Okay n l A l.length):False:=by
 rcases h with ⟨h1,rfl⟩ | ⟨h1,i,V,x,y,q1,q2,q3,q4⟩
 ·omega
 ·exact q4 (q3.symm.trans (ho i _ (List.getElem?_eq_some_iff.1 q2).1 q2))
theorem DskA.moved (h:DskA lf W wr gu kb n t A S) (hx:Ext wr w'):DskA lf W w' gu kb n t A S:=by
 obtain ⟨d,gs,N,G,f,h1,h2⟩:=h
 exact ⟨d,gs,N,G,f,h1.moved hx,h2⟩
theorem DskA.ext (h:DskA lf W wr gu kb n t A S):Ext W wr:=by obtain ⟨d,gs,N,G,f,h1,h2⟩:=h;exact h1.ext
theorem DskA.de (h:DskA lf W wr gu kb n t A S):DkE n A:=by obtain ⟨d,gs,N,G,f,h1,h2⟩:=h;exact h1.de
theorem DskA.blk (h:DskA lf W wr gu kb n t A S):∃ cs,Blk wr kb 71 cs:=by obtain ⟨d,gs,N,G,f,h1,h2⟩:=h;exact ⟨_,h1.blk⟩
theorem da_fmt {e:Ending} (h:DfPost W gu n e wr) (hn:1≤n∧n≤60):e=.returned .nilIface∧SkA true W wr gu n 1 []:=by
 obtain ⟨rfl,gs,d,h1,h2,h3⟩:=h
 exact ⟨rfl,d,gs,1,_,false,h1,h2,fun _=>h3,DkE.nil hn⟩
theorem da_open (h:SkA lf W wr gu n t S):Calls Tryz.prog 9 #[.pointer (some ⟨gu,0,none⟩)] wr fun e w'=>∃ kb,e=.returned (.tuple #[.pointer (some ⟨kb,0,none⟩),.nilIface])∧DskA lf W w' gu kb n t S S∧Ext wr w':=by
 obtain ⟨d,gs0,t0,b0,dn,h1,h2,h3,h4⟩:=h
 refine (dopen_any h1 h2 h4).mono ?_
 rintro e w' ⟨⟨kb,gs,G,f,rfl,q⟩,hx⟩
 exact ⟨kb,rfl,⟨d,gs,_,G,f,q,h2,h3,h4⟩,hx⟩
theorem da_turn (h:DskA lf W wr gu kb n t A S):Calls Tryz.prog 44 #[.pointer (some ⟨kb,0,none⟩)] wr fun e w'=>e=.returned (.int .i64 t)∧Ext wr w':=by
 obtain ⟨d,gs,N,G,f,h1,h2⟩:=h
 exact dturn_any h1
theorem da_nodes (h:DskA lf W wr gu kb n t A S):Calls Tryz.prog 36 #[.pointer (some ⟨kb,0,none⟩)] wr fun e w'=>e=.returned (.int .i64 n)∧Ext wr w':=by
 obtain ⟨d,gs,N,G,f,h1,h2⟩:=h
 exact dnodes_any h1
theorem da_graph (h:DskA lf W wr gu kb n t A S):Calls Tryz.prog 30 #[.pointer (some ⟨kb,0,none⟩)] wr (DgPost wr n A):=by
 obtain ⟨d,gs,N,G,f,h1,h2⟩:=h
 exact dgraph_any wr kb gs n N G A f h1.blk h1.g h1.le
theorem da_save (h:DskA lf W wr gu kb n t A S) (ht:t+1≤790):Calls Tryz.prog 43 #[.pointer (some ⟨kb,0,none⟩)] wr fun e w'=>((e=.returned .nilIface∧DskA lf W w' gu kb n (t+1) A A)∨(e=.returned (derrV 8)∧lf=false∧DskB W w' gu kb n t A S))∧Keeps wr w':=by
 obtain ⟨d,gs,N,G,f,h1,h2,h3,h4⟩:=h
 refine (dsave_any h1 h2 ht).mono ?_
 rintro e w' ⟨⟨d',rfl,q1,q2,q3⟩ | ⟨d',rfl,q1,q2,q3⟩,hk⟩
 ·exact ⟨.inl ⟨rfl,d',gs,N,G,f,q1,q2,fun hl=>q3 (h3 hl),h1.de⟩,hk⟩
 ·refine ⟨.inr ⟨rfl,?_,d',gs,N,G,f,q2,q3,h4⟩,hk⟩
  cases lf
  ·rfl
  ·exact absurd (h3 rfl) q1
theorem da_crash (h:DskA lf W wr gu kb n t A S) (K:Option Addr) (m k:Nat) (keep:List Int) (hk:IntsAt W K keep) (hm:keep.length=m) (hmm:m≤maxLen):Calls Tryz.prog 45 #[.pointer (some ⟨gu,0,none⟩),.slice K m k] wr fun e w'=>e=.returned (.tuple #[])∧SkA true W w' gu n t S∧Keeps wr w':=by
 obtain ⟨d,gs,N,G,f,h1,h2,h3,h4⟩:=h
 refine (sk_crash2 h1.sk K m k keep hk hm hmm).mono ?_
 rintro e w' ⟨rfl,q1,q2⟩
 exact ⟨rfl,⟨_,gs,t,_,false,q1,h2.crash keep,fun _=>rfl,h4⟩,q2⟩
def DoneK (n:Nat) (l:List AK.Ev) (A A':List AK.Ed) (xs:List Bool):Prop:=l.length≤120∧DS.Okay n l A l.length∧DS.run n l A l.length=(A',xs)
theorem DoneK.one {A' A2:List AK.Ed} {xs xs2:List Bool} (h:DoneK n l A A' xs) (h':DoneK n l A A2 xs2):A'=A2∧xs=xs2:=by
 have:=h.2.2.symm.trans h'.2.2
 injection this with h1 h2
 exact ⟨h1,h2⟩
theorem DoneK.len {A':List AK.Ed} {xs:List Bool} (h:DoneK n l A A' xs):xs.length≤120:=by
 have h1:=DS.run_len (n:=n) (l:=l) (A:=A) l.length
 rw [h.2.2] at h1
 exact Nat.le_trans h1 h.1
theorem FltK.no2 {A':List AK.Ed} {xs:List Bool} (h:FltK n l A k) (h':DoneK n l A A' xs):False:=h.no h'.1 h'.2.1
def DaDo (lf:Bool) (W wr:World) (gu kb n t:Nat) (A S:List AK.Ed) (l:List AK.Ev) (e:Ending) (w':World):Prop:=
 (∃ k:Nat,FltK n l A k∧e=.returned (.tuple #[.slice none 0 0,errV k])∧Ext wr w')∨
 (∃ A' xs,DoneK n l A A' xs∧∃ (Ao:Option Addr) (c:Nat),e=.returned (.tuple #[.slice Ao xs.length c,.nilIface])∧w'.ownsRow 0 4 1 (.slice Ao xs.length c) xs.length (bolV xs)∧(∀ j,(Value.slice Ao xs.length c).ownBlock=some j→wr.heap.size≤j)∧
  DskA lf W w' gu kb n t A' S∧Chg (fun k=>k=kb) wr w')
theorem da_do (h:DskA lf W wr gu kb n t A S) (Ae:Option Addr) (m c:Nat) (l:List AK.Ev) (hl:l.length=m) (hE:EvRow wr Ae l) (hin:EvIn l):Calls Tryz.prog 73 #[.pointer (some ⟨kb,0,none⟩),.slice Ae m c] wr (DaDo lf W wr gu kb n t A S l):=by
 obtain ⟨d,gs,N,G,f,h1,h2,h3,h4⟩:=h
 refine (ddo_any wr kb gs n N G A f h1.blk h1.g h1.le Ae m c l hl hE hin).mono ?_
 rintro e w' (⟨k,hk,rfl,hx⟩ | ⟨q1,q2,Ao,co,N',G',f',rfl,q3,q4,q5,q6,q7,q8⟩)
 ·exact .inl ⟨k,hk,rfl,hx⟩
 ·exact .inr ⟨_,_,⟨q1,q2,rfl⟩,Ao,co,rfl,q3,q4,⟨d,gs,N',G',f',h1.did q5 q6 q7 q8 (run_le h1.le _ q2),h2,h3,h4⟩,q8⟩
theorem da_ref (h:RowE wr R c A) (hd:DkE n A) (Ae:Option Addr) (m ce:Nat) (l:List AK.Ev) (hl:l.length=m) (hE:EvRow wr Ae l):Calls Tryz.prog 97 #[.int .i64 n,.slice R A.length c,.slice Ae m ce] wr fun e w'=>
  (∃ k:Nat,FltK n l A k∧e=.returned (.tuple #[.slice none 0 0,.slice R A.length c,.int .i64 k])∧Ext wr w')∨
  (∃ A' xs,DoneK n l A A' xs∧∃ Ao co An cn,e=.returned (.tuple #[.slice Ao xs.length co,.slice An A'.length cn,.int .i64 0])∧w'.ownsRow 0 4 1 (.slice Ao xs.length co) xs.length (bolV xs)∧RowE w' An cn A'∧Ext wr w'):=by
 refine (rdo_any wr n R c A h.1 h.2.1 hd h.2.2 Ae m ce l hl hE).mono ?_
 rintro e w' (⟨k,hk,rfl,hx⟩ | ⟨q1,q2,Ao,co,An,cn,rfl,q3⟩)
 ·exact .inl ⟨k,hk,rfl,hx⟩
 ·exact .inr ⟨_,_,⟨q1,q2,rfl⟩,Ao,co,An,cn,rfl,q3.row,⟨q3.ed,q3.cap,q3.bk⟩,q3.ext⟩
theorem blk_do {g:Nat} {cs cs':Array Value} {ty:TypeId} (h:Blk wr g ty cs) (hb:Blk wr kb 71 cs') (ht:¬ ty=71) (hc:Chg (fun k=>k=kb) wr w'):Blk w' g ty cs:=h.chg hc (fun e=>by subst e;exact ht (blk_ty h hb))
theorem blk_ext {g:Nat} {cs:Array Value} {ty:TypeId} (h:Blk wr g ty cs) (hx:Ext wr w'):Blk w' g ty cs:=h.chg (Chg.of_below hx) (by have:=h.lt;omega)
end
end Go.Proofs.YtkoajpeabicpdaaGreatDoor
