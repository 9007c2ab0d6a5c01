/-
Walk of the references' Put. Condition: the edges lie in memory as 'EdsAt' says.
-/
import Derived.Test.YtkoajpeabicpdaaGreatDoorBs14
import Derived.Test.YtkoajpeabicpdaaGreatDoorBs7
import Derived.Test.YtkoajpeabicpdaaGreatDoorBs22
import Derived.Test.YtkoajpeabicpdaaGreatDoorBs5
import Derived.Test.YtkoajpeabicpdaaGreatDoorBs2
import Derived.Test.YtkoajpeabicpdaaGreatDoorBs25
import Derived.Test.YtkoajpeabicpdaaGreatDoorBs26
import Derived.Test.YtkoajpeabicpdaaGreatDoorBs4
import Derived.Deep.LoopGhost
set_option linter.unusedVariables false
set_option maxHeartbeats 8000000
namespace Go.Proofs.YtkoajpeabicpdaaGreatDoor
open Go Go.RowKit
def PutC (b:Bool) (e x:AK.Ed):Prop:=b=true∨¬ ltE e x
theorem snoc_len {α:Type} (d:List α) (x:α):(d++[x]).length=d.length+1:=by rw [List.length_append];rfl
structure PutSt (w:World) (l:List AK.Ed) (e:AK.Ed) (B k:Nat) (b:Bool) (d:List AK.Ed) (vO:Value) (wr:World):Prop where
 row:DRow wr vO d
 len:d.length=k+(if b then 1 else 0)
 eq:d++(if b then l.drop k else putE e (l.drop k))=putE e l
 ext:Ext w wr
 new:∀ j,vO.ownBlock=some j→w.heap.size≤j
 blk:Blk wr B 93 #[.int .i64 e.1,.int .i64 e.2]
 ne:vO.ownBlock≠some B
 nB:w.heap.size≤B
section
variable {w wr w':World} {l d:List AK.Ed} {e x:AK.Ed} {B k g c:Nat} {b:Bool} {vO:Value} {o:Obj}
theorem PutSt.moved (h:PutSt w l e B k b d vO wr) (hx:Ext wr w'):PutSt w l e B k b d vO w':=
 ⟨own_chg h.row (Chg.of_below hx) (fun k hk=>by have:=own_lt h.row hk;omega),h.len,h.eq,Ext.trans h.ext hx,h.new,h.blk.chg (Chg.of_below hx) (by have:=h.blk.lt;omega),h.ne,h.nB⟩
theorem PutSt.push (h:PutSt w l e B k b d vO wr) {k':Nat} {b':Bool} (ho:w'.ownsRow 0 93 2 (.slice (some ⟨g,0,none⟩) (d.length+1) c) (d.length+1) (rowsOf edC d++edC x)) (hc:Chg (fun k=>vO.ownBlock=some k) wr w') (hat:vO.ownBlock=some g∨g=wr.heap.size)
  (hlen:d.length+1=k'+(if b' then 1 else 0)) (heq:(d++[x])++(if b' then l.drop k' else putE e (l.drop k'))=putE e l):PutSt w l e B k' b' (d++[x]) (.slice (some ⟨g,0,none⟩) (d.length+1) c) w':=by
 refine ⟨?_,by rw [List.length_append];exact hlen,heq,((Chg.of_below h.ext).trans hc (fun k _ hk=>h.new k hk)).below (Nat.le_refl _) (fun _ _ h=>h),fun j hj=>?_,h.blk.chg hc h.ne,fun q=>?_,h.nB⟩
 ·unfold DRow
  rw [List.length_append,List.length_singleton,rowsOf_app]
  have:rowsOf edC [x]=edC x:=by simp [rowsOf]
  rw [this];exact ho
 ·simp [Value.ownBlock] at hj
  subst hj
  rcases hat with q | q
  ·exact h.new _ q
  ·have:=h.ext.size;omega
 ·simp [Value.ownBlock] at q
  subst q
  rcases hat with q | q
  ·exact h.ne q
  ·have:=h.blk.lt;omega
theorem PutSt.putE_ (h:PutSt w l e B k false d vO wr) (hx:l[k]?=some x) (hlt:ltE e x) (ho:w'.ownsRow 0 93 2 (.slice (some ⟨g,0,none⟩) (d.length+1) c) (d.length+1) (rowsOf edC d++edC e)) (hc:Chg (fun k=>vO.ownBlock=some k) wr w') (hat:vO.ownBlock=some g∨g=wr.heap.size):
  PutSt w l e B k true (d++[e]) (.slice (some ⟨g,0,none⟩) (d.length+1) c) w':=by
 refine h.push ho hc hat (by have:=h.len;simp at this ⊢;omega) ?_
 have h1:=h.eq
 simp only [Bool.false_eq_true,if_false] at h1
 rw [←h1]
 have hk:k < l.length:=(List.getElem?_eq_some_iff.1 hx).1
 have hd:l.drop k=x::l.drop (k+1):=by rw [List.drop_eq_getElem_cons hk];rw [List.getElem?_eq_getElem hk] at hx;injection hx with hx;rw [hx]
 simp only [if_true]
 rw [hd,putE,if_pos hlt]
 simp
theorem PutSt.putX (h:PutSt w l e B k b d vO wr) (hx:l[k]?=some x) (hlt:PutC b e x) (ho:w'.ownsRow 0 93 2 (.slice (some ⟨g,0,none⟩) (d.length+1) c) (d.length+1) (rowsOf edC d++edC x)) (hc:Chg (fun k=>vO.ownBlock=some k) wr w') (hat:vO.ownBlock=some g∨g=wr.heap.size):
  PutSt w l e B (k+1) b (d++[x]) (.slice (some ⟨g,0,none⟩) (d.length+1) c) w':=by
 refine h.push ho hc hat (by have:=h.len;omega) ?_
 have h1:=h.eq
 rw [←h1]
 have hk:k < l.length:=(List.getElem?_eq_some_iff.1 hx).1
 have hd:l.drop k=x::l.drop (k+1):=by rw [List.drop_eq_getElem_cons hk];rw [List.getElem?_eq_getElem hk] at hx;injection hx with hx;rw [hx]
 cases b with
 | true=>simp only [if_true];rw [hd];simp
 | false=>
  simp only [Bool.false_eq_true,if_false]
  rw [hd,putE,if_neg (Or.resolve_left hlt (by decide))]
  simp
theorem PutSt.last (h:PutSt w l e B l.length false d vO wr) (ho:w'.ownsRow 0 93 2 (.slice (some ⟨g,0,none⟩) (d.length+1) c) (d.length+1) (rowsOf edC d++edC e)) (hc:Chg (fun k=>vO.ownBlock=some k) wr w') (hat:vO.ownBlock=some g∨g=wr.heap.size):
  PutSt w l e B l.length true (d++[e]) (.slice (some ⟨g,0,none⟩) (d.length+1) c) w':=by
 refine h.push ho hc hat (by have:=h.len;simp at this ⊢;omega) ?_
 have h1:=h.eq
 simp only [Bool.false_eq_true,if_false] at h1
 rw [←h1]
 simp [putE]
end
def RpPost (w:World) (l:List AK.Ed) (e:AK.Ed) (ev:Ending) (w':World):Prop:=∃ A c,ev=.returned (.slice A (putE e l).length c)∧DRow w' (.slice A (putE e l).length c) (putE e l)∧Ext w w'∧∀ j,(Value.slice A (putE e l).length c).ownBlock=some j→w.heap.size≤j
theorem PutSt.post {w wr:World} {l d:List AK.Ed} {e:AK.Ed} {B:Nat} {vO:Value} (h:PutSt w l e B l.length true d vO wr):RpPost w l e (.returned vO) wr:=by
 have h1:=h.eq
 simp only [if_true,List.drop_length,List.append_nil] at h1
 have h2:=h.row
 rw [h1] at h2
 have h3:=h2
 unfold DRow at h3
 obtain ⟨A,c,rfl,hc⟩:=own_slice3 h3
 exact ⟨A,c,rfl,h2,h.ext,h.new⟩
set_option maxRecDepth 100000 in
theorem rput_any (w:World) (A:Option Addr) (m c:Nat) (l:List AK.Ed) (a b:Int) (hl:l.length=m) (hm:m≤100000) (h:EdsAt w A l):
  Calls Tryz.prog 137 #[.slice A m c,.int .i64 a,.int .i64 b] w (RpPost w l (AK.ek a b)):=by
 have H:=Lib.hid h
 have HL:=Lib.hid hl
 clear h hl
 go_enter Tryz.func137,Tryz.ntmps137
 go_wp2_with fail
 refine (rof_any w a b).mono ?_
 rintro e w1 ⟨rfl,hb1⟩
 have hS:=hb1.size
 obtain ⟨x,hx⟩:∃ x,x=AK.ek a b:=⟨_,rfl⟩
 have P0:Hid (PutSt w l x w1.heap.size 0 false [] (.slice none 0 0) (w1.alloc (.cells #[.int .i64 x.1,.int .i64 x.2] 93))):=
  ⟨World.ownsRow_nil _ _ _ _,rfl,by simp,Ext.trans hb1 (Ext.alloc _ _),fun j hj=>by simp [Value.ownBlock] at hj,Blk.new _ _ _,by simp [Value.ownBlock],hS⟩
 rw [←hx]
 obtain ⟨x1,x2⟩:=x
 have HXX:=Lib.hid hx
 clear hx hb1
 go_wp2
 go_loopw [8,9,10] (fun v8 v9 v wr=>∃ (k:Nat) (bb:Bool) (d:List AK.Ed),k≤m∧v=.int .i64 k∧v9=.bool bb∧d.length≤m+1∧Hid (PutSt w l (x1,x2) w1.heap.size k bb d v8 wr)) (fun _ _ v _=>m - (intOf v).toNat)
 case atStart=>exact ⟨0,false,[],by omega,rfl,rfl,by simp,P0.out⟩
 case round=>
  obtain ⟨k,bb,d,hk,rfl,rfl,hd,HR⟩:=hrel
  rename_i u8
  by_cases hlt:k < m
  ·obtain ⟨y,hy⟩:∃ y,l[k]?=some y:=⟨_,List.getElem?_eq_getElem (by have:=HL.out;omega)⟩
   rcases H.out with h0 | ⟨bl,off,rfl,hbl,hev⟩
   ·rw [h0] at hy;simp at hy
   have HB:Hid (∀ (w':World),Ext w w'→w'.cell? ⟨bl,off+k * 2,none⟩=some (.int .i64 y.1)∧w'.cell? ⟨bl,off+k * 2+1,none⟩=some (.int .i64 y.2)):=fun w' hw=>by
    obtain ⟨e1,e2⟩:=hev k y hy
    exact ⟨(hw.cell (p:=⟨bl,_,none⟩) hbl).trans e1,(hw.cell (p:=⟨bl,_,none⟩) hbl).trans e2⟩
   obtain ⟨e1,e2⟩:=HB.out wr HR.out.ext
   obtain ⟨y1,y2⟩:=y
   simp only at e1 e2 HB
   have HY:=Lib.hid hy
   have f0:wr.cell? ⟨w1.heap.size,0,none⟩=some (.int .i64 x1):=HR.out.blk.cell 0
   have f1:wr.cell? ⟨w1.heap.size,1,none⟩=some (.int .i64 x2):=HR.out.blk.cell 1
   have z0:(0:Int)≤(k:Int):=by omega
   have z1:(k:Int) < (m:Int):=by omega
   have hdl:d.length≤k+1:=by have:=HR.out.len;split at this <;> omega
   clear hev hy
   cases bb with
   | true=>
    have HC:Hid (PutC true (x1,x2) (y1,y2)):=.inl rfl
    go_wp2
    go_quiet (fail)
    have HN:=Lib.hid (HR.out.moved (Ext.drewN wr nq))
    go_wp2_with (at_builtin;refine wpList_pushS _ rfl (.tmp 56) (.tmp 61) 47 rfl 93 _ 2 16 Tryz.underlying47 infoEdge rfl (by decide) _ _ _ rfl (HN.out.moved (Ext.alloc _ _)).row ⟨by omega,by omega⟩ (edC (y1,y2)) _ rfl rfl (news_cells rfl _ _) (by simp [edC,Value.oneCell']) ?_;intro g5 c5 w5 ho5 hc5 hat5 _;have HZ:=Lib.hid ((HN.out.moved (Ext.alloc _ _)).putX HY.out HC.out ho5 hc5 hat5);clear ho5 hc5 hat5)
    go_roundw
    case rel=>exact ⟨k+1,true,_,by omega,by go_num,rfl,by simp;omega,HZ.out⟩
    case measure=>simp [intOf];omega
   | false=>
    have hdl3:d.length≤k:=by have:=HR.out.len;simp at this;omega
    by_cases d1:x1 < y1
    ·have HC:Hid (ltE (x1,x2) (y1,y2)):=.inl d1
     have q1:decide (x1 < y1)=true:=by simpa using d1
     go_wp2
     go_quiet (fail)
     have HN:=Lib.hid (HR.out.moved (Ext.drewN wr nq))
     go_wp2_with (first
       | (at_builtin;refine wpList_pushS _ rfl (.tmp 52) (.tmp 54) 47 rfl 93 _ 2 16 Tryz.underlying47 infoEdge rfl (by decide) _ _ _ rfl (HN.out.moved (Ext.alloc _ _)).row ⟨by omega,by omega⟩ (edC (x1,x2)) _ rfl rfl (news_cells rfl _ _) (by simp [edC,Value.oneCell']) ?_;intro g4 c4 w4 ho4 hc4 hat4 _;have HE:=Lib.hid ((HN.out.moved (Ext.alloc _ _)).putE_ HY.out HC.out ho4 hc4 hat4);obtain ⟨p1,p2⟩:=HB.out _ HE.out.ext;have hdl2:=@snoc_len AK.Ed d (x1,x2);clear ho4 hc4 hat4)
       | (at_builtin;refine wpList_pushS _ rfl (.tmp 56) (.tmp 61) 47 rfl 93 _ 2 16 Tryz.underlying47 infoEdge rfl (by decide) _ _ _ rfl (HE.out.moved (Ext.alloc _ _)).row ⟨by omega,by omega⟩ (edC (y1,y2)) _ rfl rfl (news_cells rfl _ _) (by simp [edC,Value.oneCell']) ?_;intro g5 c5 w5 ho5 hc5 hat5 _;have HZ:=Lib.hid ((HE.out.moved (Ext.alloc _ _)).putX HY.out (.inl rfl) ho5 hc5 hat5);clear ho5 hc5 hat5))
     go_roundw
     case rel=>rw [snoc_len] at HZ;exact ⟨k+1,true,_,by omega,by go_num,rfl,by rw [snoc_len,snoc_len];omega,HZ.out⟩
     case measure=>simp [intOf];omega
    ·have q1:decide (x1 < y1)=false:=by simpa using d1
     by_cases d2:x1=y1
     ·by_cases d3:x2 < y2
      ·have HC:Hid (ltE (x1,x2) (y1,y2)):=.inr ⟨d2,d3⟩
       have q3:decide (x2 < y2)=true:=by simpa using d3
       have q2:(x1 == y1)=true:=by simpa using d2
       clear d2
       go_wp2
       go_quiet (fail)
       have HN:=Lib.hid (HR.out.moved (Ext.drewN wr nq))
       go_wp2_with (first | (at_builtin;refine wpList_pushS _ rfl (.tmp 52) (.tmp 54) 47 rfl 93 _ 2 16 Tryz.underlying47 infoEdge rfl (by decide) _ _ _ rfl (HN.out.moved (Ext.alloc _ _)).row ⟨by omega,by omega⟩ (edC (x1,x2)) _ rfl rfl (news_cells rfl _ _) (by simp [edC,Value.oneCell']) ?_;intro g4 c4 w4 ho4 hc4 hat4 _;have HE:=Lib.hid ((HN.out.moved (Ext.alloc _ _)).putE_ HY.out HC.out ho4 hc4 hat4);obtain ⟨p1,p2⟩:=HB.out _ HE.out.ext;have hdl2:=@snoc_len AK.Ed d (x1,x2);clear ho4 hc4 hat4) | (at_builtin;refine wpList_pushS _ rfl (.tmp 56) (.tmp 61) 47 rfl 93 _ 2 16 Tryz.underlying47 infoEdge rfl (by decide) _ _ _ rfl (HE.out.moved (Ext.alloc _ _)).row ⟨by omega,by omega⟩ (edC (y1,y2)) _ rfl rfl (news_cells rfl _ _) (by simp [edC,Value.oneCell']) ?_;intro g5 c5 w5 ho5 hc5 hat5 _;have HZ:=Lib.hid ((HE.out.moved (Ext.alloc _ _)).putX HY.out (.inl rfl) ho5 hc5 hat5);clear ho5 hc5 hat5))
       go_roundw
       case rel=>rw [snoc_len] at HZ;exact ⟨k+1,true,_,by omega,by go_num,rfl,by rw [snoc_len,snoc_len];omega,HZ.out⟩
       case measure=>simp [intOf];omega
      ·have HC:Hid (PutC false (x1,x2) (y1,y2)):=.inr (by unfold ltE;simp only;omega)
       have q3:decide (x2 < y2)=false:=by simpa using d3
       have q2:(x1 == y1)=true:=by simpa using d2
       clear d2
       go_wp2
       go_quiet (fail)
       have HN:=Lib.hid (HR.out.moved (Ext.drewN wr nq))
       go_wp2_with (at_builtin;refine wpList_pushS _ rfl (.tmp 56) (.tmp 61) 47 rfl 93 _ 2 16 Tryz.underlying47 infoEdge rfl (by decide) _ _ _ rfl (HN.out.moved (Ext.alloc _ _)).row ⟨by omega,by omega⟩ (edC (y1,y2)) _ rfl rfl (news_cells rfl _ _) (by simp [edC,Value.oneCell']) ?_;intro g5 c5 w5 ho5 hc5 hat5 _;have HZ:=Lib.hid ((HN.out.moved (Ext.alloc _ _)).putX HY.out HC.out ho5 hc5 hat5);clear ho5 hc5 hat5)
       go_roundw
       case rel=>exact ⟨k+1,false,_,by omega,by go_num,rfl,by simp;omega,HZ.out⟩
       case measure=>simp [intOf];omega
     ·have HC:Hid (PutC false (x1,x2) (y1,y2)):=.inr (by unfold ltE;simp only;omega)
      have q3:(x1 == y1)=false:=by simpa using d2
      clear d2
      go_wp2
      go_quiet (fail)
      have HN:=Lib.hid (HR.out.moved (Ext.drewN wr nq))
      go_wp2_with (at_builtin;refine wpList_pushS _ rfl (.tmp 56) (.tmp 61) 47 rfl 93 _ 2 16 Tryz.underlying47 infoEdge rfl (by decide) _ _ _ rfl (HN.out.moved (Ext.alloc _ _)).row ⟨by omega,by omega⟩ (edC (y1,y2)) _ rfl rfl (news_cells rfl _ _) (by simp [edC,Value.oneCell']) ?_;intro g5 c5 w5 ho5 hc5 hat5 _;have HZ:=Lib.hid ((HN.out.moved (Ext.alloc _ _)).putX HY.out HC.out ho5 hc5 hat5);clear ho5 hc5 hat5)
      go_roundw
      case rel=>exact ⟨k+1,false,_,by omega,by go_num,rfl,by simp;omega,HZ.out⟩
      case measure=>simp [intOf];omega
  ·obtain rfl:k=m:=by omega
   have HLm:=HL.out
   subst HLm
   have hdl:d.length≤l.length+1:=by have:=HR.out.len;split at this <;> omega
   cases bb with
   | true=>
    have HP:=Lib.hid HR.out.post
    go_wp2
    go_ret
    rw [←HXX.out]
    exact HP.out
   | false=>
    have f0:wr.cell? ⟨w1.heap.size,0,none⟩=some (.int .i64 x1):=HR.out.blk.cell 0
    have f1:wr.cell? ⟨w1.heap.size,1,none⟩=some (.int .i64 x2):=HR.out.blk.cell 1
    go_wp2_with (at_builtin;refine wpList_pushS _ rfl (.tmp 65) (.tmp 67) 47 rfl 93 _ 2 16 Tryz.underlying47 infoEdge rfl (by decide) _ _ _ rfl (HR.out.moved (Ext.alloc _ _)).row ⟨by omega,by omega⟩ (edC (x1,x2)) _ rfl rfl (news_cells rfl _ _) (by simp [edC,Value.oneCell']) ?_;intro g4 c4 w4 ho4 hc4 hat4 _;have HE:=Lib.hid ((HR.out.moved (Ext.alloc _ _)).last ho4 hc4 hat4);clear ho4 hc4 hat4)
    have HP:=Lib.hid HE.out.post
    go_ret
    rw [←HXX.out]
    exact HP.out
open Go.ChangeShapes Go.WideShapes
theorem EdsAt.news {w:World} {A:Option Addr} {l:List AK.Ed} (h:EdsAt w A l) (k d:Nat):∀ ad,A=some ad→∀ j u,(rowsOf edC ((l.drop k).take d))[j]?=some u→w.cell? ((ad.add (k * 2)).add j)=some u:=by
 rintro ad rfl j u hj
 rcases h with h | ⟨b,off,he,hb,hc⟩
 ·subst h;simp [rowsOf] at hj
 ·injection he with he;subst he
  have:=EdsAt.cells hc k d j u hj
  rwa [Addr.add_mid (j:=k * 2)]
def OutPost (w:World) (l:List AK.Ed) (k:Nat) (e:Ending) (w':World):Prop:=
 ∃ A c,e=.returned (.slice A (l.eraseIdx k).length c)∧DRow w' (.slice A (l.eraseIdx k).length c) (l.eraseIdx k)∧Below w.heap.size w w'∧∀ j,(Value.slice A (l.eraseIdx k).length c).ownBlock=some j→w.heap.size≤j
theorem out_end {w w6 w7:World} {A6 A7:Option Addr} {n6 c6 n7 c7 k:Nat} {l:List AK.Ed} {v:Value} (hv:v=.slice A7 n7 c7) (hn:n7=(l.eraseIdx k).length) (ho:w7.ownsRow 0 93 2 (.slice A7 n7 c7) n7 (rowsOf edC (l.eraseIdx k)))
  (hc6:Chg (fun j=>(Value.slice none 0 0).ownBlock=some j) w w6) (hg6:∀ g,(Value.slice A6 n6 c6).ownBlock=some g→(Value.slice none 0 0).ownBlock=some g∨g=w.heap.size)
  (hc7:Chg (fun j=>(Value.slice A6 n6 c6).ownBlock=some j) w6 w7) (hg7:∀ g,(Value.slice A7 n7 c7).ownBlock=some g→(Value.slice A6 n6 c6).ownBlock=some g∨g=w6.heap.size):OutPost w l k (.returned v) w7:=by
 subst hv;subst hn
 have h6:∀ g,(Value.slice A6 n6 c6).ownBlock=some g→w.heap.size≤g:=fun g hg=>by
  rcases hg6 g hg with h | h
  ·simp [Value.ownBlock] at h
  ·omega
 refine ⟨A7,c7,rfl,ho,(hc6.trans hc7 (fun i hi hS=>absurd (h6 i hS) (by omega))).below (Nat.le_refl _) (fun k hk hS=>by simp [Value.ownBlock] at hS),fun g hg=>?_⟩
 rcases hg7 g hg with h | h
 ·exact h6 g h
 ·have:=hc6.size;omega
theorem rout_any (w:World) (A:Option Addr) (n c:Nat) (l:List AK.Ed) (k:Nat) (hl:l.length=n) (hn:n≤100000) (hnc:n≤c) (hc:c≤maxLen) (hk:k < n) (h:EdsAt w A l):
  Calls Tryz.prog 100 #[.slice A n c,.int .i64 k] w (OutPost w l k):=by
 have hA:∃ ad,A=some ad:=by
  rcases h with h0 | ⟨b,off,rfl,_⟩
  ·rw [h0] at hl;simp at hl;omega
  ·exact ⟨_,rfl⟩
 obtain ⟨ad,rfl⟩:=hA
 unfold maxLen at hc
 have H:=Lib.hid h
 have HL:=Lib.hid hl
 have hT:(rowsOf edC (l.take k)).length=k * 2:=rowsOf_len (f:=edC) (fun x _=>edC_len x) |>.trans (by rw [List.length_take,hl,Nat.min_eq_left (by omega)])
 have hD:(rowsOf edC (l.drop (k+1))).length=(n - (k+1)) * 2:=rowsOf_len (f:=edC) (fun x _=>edC_len x) |>.trans (by rw [List.length_drop,hl])
 have he:rowsOf edC (l.eraseIdx k)=rowsOf edC (l.take k)++rowsOf edC (l.drop (k+1)):=by rw [List.eraseIdx_eq_take_drop_succ,rowsOf_app]
 have hel:(l.eraseIdx k).length=n - 1:=by rw [List.length_eraseIdx,hl,if_pos hk]
 have HT:=Lib.hid hT
 have HD:=Lib.hid hD
 have HE:=Lib.hid he
 have HEL:=Lib.hid hel
 clear h hl hT hD he hel
 by_cases hck:c=k+1
 ·have hnk:n=k+1:=by omega
  subst hck
  subst hnk
  go_enter Tryz.func100,Tryz.ntmps100
  go_upto_region 3 with (first
   | (at_builtin;refine wpList_append_rows _ rfl (.tmp 6) (.tmp 9) 47 rfl 93 _ 2 16 Tryz.underlying47 infoEdge rfl (by decide) _ 0 [] rfl (World.ownsRow_nil _ _ _ _) _ _ _ (rowsOf edC (l.take k)) rfl HT.out (fun h=>by cases h) (fun ad h j u hj=>by have:=H.out.news 0 k ad h j u (by rwa [List.drop_zero]);simpa [Addr.add] using this) edC_one ⟨by omega,by omega⟩ ?_;intro A6 c6 w6 ho6 hc6 hg6;simp only [Nat.zero_add,List.nil_append] at ho6 hg6;have HO6:=Lib.hid ho6;have HC6:=Lib.hid hc6;have HG6:=Lib.hid hg6;clear ho6 hc6 hg6))
  go_wp2_with (first
   | (at_builtin;refine wpList_append_rows _ rfl (.tmp 11) (.tmp 15) 47 rfl 93 _ 2 16 Tryz.underlying47 infoEdge rfl (by decide) _ _ _ rfl HO6.out _ 0 _ [] rfl rfl (fun h=>by cases h) (fun ad' h j u hj=>by simp at hj) (fun u hu=>by simp at hu) ⟨by omega,by omega⟩ ?_;intro A7 c7 w7 ho7 hc7 hg7;have HO7:=Lib.hid ho7;have HC7:=Lib.hid hc7;have HG7:=Lib.hid hg7;clear ho7 hc7 hg7))
  go_ret
  exact out_end rfl (by rw [HEL.out];rfl) (by rw [HE.out,List.drop_eq_nil_of_le (by rw [HL.out];exact Nat.le_refl _)];exact HO7.out) HC6.out HG6.out HC7.out HG7.out
 ·go_enter Tryz.func100,Tryz.ntmps100
  go_upto_region 3 with (first
   | (at_builtin;refine wpList_append_rows _ rfl (.tmp 6) (.tmp 9) 47 rfl 93 _ 2 16 Tryz.underlying47 infoEdge rfl (by decide) _ 0 [] rfl (World.ownsRow_nil _ _ _ _) _ _ _ (rowsOf edC (l.take k)) rfl HT.out (fun h=>by cases h) (fun ad h j u hj=>by have:=H.out.news 0 k ad h j u (by rwa [List.drop_zero]);simpa [Addr.add] using this) edC_one ⟨by omega,by omega⟩ ?_;intro A6 c6 w6 ho6 hc6 hg6;simp only [Nat.zero_add,List.nil_append] at ho6 hg6;have HO6:=Lib.hid ho6;have HC6:=Lib.hid hc6;have HG6:=Lib.hid hg6;clear ho6 hc6 hg6))
  have H6:Hid (EdsAt w6 (some ad) l):=H.out.chg HC6.out (fun _ _ _ h=>by have h2:(Value.slice none 0 0).ownBlock=some _:=h;simp [Value.ownBlock] at h2)
  go_wp2_with (first
   | (at_builtin;refine wpList_append_rows _ rfl (.tmp 11) (.tmp 15) 47 rfl 93 _ 2 16 Tryz.underlying47 infoEdge rfl (by decide) _ _ _ rfl HO6.out _ _ _ (rowsOf edC (l.drop (k+1))) rfl HD.out (fun h=>by cases h) (fun ad' h j u hj=>by have:=H6.out.news (k+1) l.length ad rfl j u (by rwa [List.take_of_length_le (by simp)]);injection h with h;rw [←h];exact this) edC_one ⟨by omega,by omega⟩ ?_;intro A7 c7 w7 ho7 hc7 hg7;have HO7:=Lib.hid ho7;have HC7:=Lib.hid hc7;have HG7:=Lib.hid hg7;clear ho7 hc7 hg7))
  go_ret
  exact out_end rfl (by rw [HEL.out];omega) (by rw [HE.out];exact HO7.out) HC6.out HG6.out HC7.out HG7.out
end Go.Proofs.YtkoajpeabicpdaaGreatDoor
namespace Go.Proofs.YtkoajpeabicpdaaGreatDoor
open Go Go.RowKit PT UF
theorem infoIntP:(Tryz.prog.info? 3).map (fun i=>(i.zero,i.size,i.bytes))=some (some (.int .i64 0),1,8):=by kernel_rfl
def natv (p:List Nat):List Value:=p.map fun x=>.int .i64 (x:Nat)
theorem natv_get {p:List Nat} {i x:Nat} (h:p[i]?=some x):(natv p)[i]?=some (.int .i64 (x:Nat)):=by simp [natv,h]
theorem natv_set (p:List Nat) (i x:Nat):natv (p.set i x)=(natv p).set i (.int .i64 (x:Nat)):=by simp [natv,List.map_set]
def NRow (w:World) (v:Value) (n:Nat) (p:List Nat):Prop:=w.ownsRow 0 3 1 v n (natv p)
def prs (l:List AK.Ed):List (Nat × Nat):=l.map fun x=>(x.1.toNat,x.2.toNat)
def Inn (n:Nat) (l:List AK.Ed):Prop:=∀ x∈l,0≤x.1∧x.1 < n∧0≤x.2∧x.2 < n
def PartsPost (w:World) (n:Nat) (es:List (Nat × Nat)) (e:Ending) (w':World):Prop:=
 ∃ (p:List Nat) (g c:Nat),e=.returned (.slice (some ⟨g,0,none⟩) n c)∧NRow w' (.slice (some ⟨g,0,none⟩) n c) n p∧IsParts n es p∧Below w.heap.size w w'∧w.heap.size≤g
structure PRel (w:World) (n g c:Nat) (es:List (Nat × Nat)) (l:List AK.Ed) (k s0:Nat) (b:Bool) (p:List Nat) (wr:World):Prop where
 row:NRow wr (.slice (some ⟨g,0,none⟩) n c) n p
 inv:PInv n es p
 bel:Below w.heap.size w wr
 yes:b=true→p.sum=s0∧∀ j x,j < k→l[j]?=some x→p[x.1.toNat]?=p[x.2.toNat]?
 no:b=false→p.sum < s0
theorem PRel.skip {w wr:World} {n g c k s0:Nat} {es:List (Nat × Nat)} {l:List AK.Ed} {b:Bool} {p:List Nat} {x:AK.Ed} (h:PRel w n g c es l k s0 b p wr) (hx:l[k]?=some x) (he:p[x.1.toNat]?=p[x.2.toNat]?):PRel w n g c es l (k+1) s0 b p wr:=by
 refine ⟨h.row,h.inv,h.bel,fun hb=>⟨(h.yes hb).1,fun j y hj hy=>?_⟩,h.no⟩
 by_cases e:j=k
 ·subst e;rw [hx] at hy;injection hy with hy;subst hy;exact he
 ·exact (h.yes hb).2 j y (by omega) hy
theorem PRel.set_ {w wr:World} {n g c k s0 i j x y:Nat} {es:List (Nat × Nat)} {l:List AK.Ed} {b:Bool} {p:List Nat} (h:PRel w n g c es l k s0 b p wr) (hg:w.heap.size≤g) (hab:(i,j)∈es∨(j,i)∈es) (hi:p[i]?=some x) (hj:p[j]?=some y) (hxy:x < y):
  PRel w n g c es l (k+1) s0 false (p.set j x) (wr.setCell ⟨g,j,none⟩ (.int .i64 (x:Nat))):=by
 refine ⟨?_,h.inv.set hab hi hj hxy,h.bel.setCell (p:=⟨g,j,none⟩) hg _,(fun hb=>by cases hb),fun _=>?_⟩
 ·unfold NRow;rw [natv_set];exact (World.ownsRow.stored h.row j _).1
 ·have h1:=sum_set (p:=p) (b:=j) (x:=x) hj
  cases b with
  | true=>have:=(h.yes rfl).1;omega
  | false=>have:=h.no rfl;omega
set_option maxRecDepth 100000 in
theorem parts_any (w:World) (A:Option Addr) (n m c:Nat) (l:List AK.Ed) (hl:l.length=m) (hn:1≤n) (hn2:n≤1000) (hm:m≤100000) (h:EdsAt w A l) (hin:Inn n l):
  Calls Tryz.prog 49 #[.int .i64 n,.slice A m c] w (PartsPost w n (prs l)):=by
 have H:=Lib.hid h
 have HL:=Lib.hid hl
 have HI:=Lib.hid hin
 clear h hl hin
 go_enter Tryz.func49,Tryz.ntmps49
 go_wp2
 go_loopw [5,6] (fun v5 v6 wr=>∃ (k:Nat) (A5:Option Addr) (c5:Nat),k≤n∧v5=.slice A5 k c5∧v6=.int .i64 k∧Hid (NRow wr (.slice A5 k c5) k (List.range k)∧Below w.heap.size w wr∧∀ j,(Value.slice A5 k c5).ownBlock=some j→w.heap.size≤j)) (fun _ v6 _=>n - (intOf v6).toNat)
 case atStart=>exact ⟨0,none,0,by omega,rfl,rfl,World.ownsRow_nil _ _ _ _,Below.refl _ _,fun j hj=>by simp [Value.ownBlock] at hj⟩
 case round=>
  obtain ⟨k,A5,c5,hk,rfl,rfl,HR⟩:=hrel
  by_cases hkn:k < n
  ·have hown:=HR.out.1
   unfold NRow at hown
   have HOWN:=Lib.hid hown
   clear hown
   go_wp2_with (at_builtin;refine wpList_push _ rfl (.tmp 16) (.tmp 18) 79 rfl 3 (.int .i64 0) 8 Tryz.underlying79 infoIntP rfl (.slice A5 k c5) k (natv (List.range k)) rfl (HOWN.out.alloc _) ⟨by omega,by omega⟩ (.int .i64 k) wr.heap.size rfl (cell_new1 rfl _ _) rfl ?_;intro g7 c7 w7 ho7 hc7 hat7 _;have HO7:=Lib.hid ho7;have HC7:=Lib.hid hc7;have HT7:=Lib.hid hat7;clear ho7 hc7 hat7)
   have HB0:Hid (Below w.heap.size w (wr.alloc (.cells #[.int .i64 k] 3))):=HR.out.2.1.alloc HR.out.2.1.size _
   have HB7:Hid (Below w.heap.size w w7):=HB0.out.trans (HC7.out.below HB0.out.size (fun j _ hj=>HR.out.2.2 j hj))
   have HR7:Hid (NRow w7 (.slice (some ⟨g7,0,none⟩) (k+1) c7) (k+1) (List.range (k+1))):=by
    unfold Hid NRow natv;rw [List.range_succ,List.map_append];exact HO7.out
   have HG7:Hid (w.heap.size≤g7):=by
    rcases HT7.out with h | h
    ·exact HR.out.2.2 _ h
    ·have:=HB0.out.size;unfold Hid;omega
   go_roundw
   case rel=>exact ⟨k+1,_,_,by omega,rfl,by go_num,HR7.out,HB7.out,fun j hj=>by simp [Value.ownBlock] at hj;have:=HG7.out;omega⟩
   case measure=>simp [intOf];omega
  ·obtain rfl:k=n:=by omega
   obtain ⟨hrow,hbel,hge⟩:=HR.out
   obtain ⟨g,cg,hv,hcg,_⟩:=own_form hrow (by omega)
   simp only [Value.slice.injEq,true_and] at hv
   obtain ⟨rfl,rfl⟩:=hv
   have hg:w.heap.size≤g:=hge g (by simp [Value.ownBlock])
   have HG:=Lib.hid hg
   have HP0:Hid (NRow wr (.slice (some ⟨g,0,none⟩) k c5) k (List.range k)∧PInv k (prs l) (List.range k)∧Below w.heap.size w wr):=⟨hrow,PInv.start _ _,hbel⟩
   have hkn':¬ (k:Int) < (k:Int):=by omega
   clear hrow hbel hge hg HR hkn
   go_wp2
   go_loopg [] (List.range k).sum (fun gk wx=>∃ p:List Nat,gk=p.sum∧Hid (NRow wx (.slice (some ⟨g,0,none⟩) k c5) k p∧PInv k (prs l) p∧Below w.heap.size w wx))
   case atStart=>exact ⟨_,rfl,HP0.out⟩
   case round=>
    obtain ⟨p0,hp0,HP⟩:=hrel
    have HGK:=Lib.hid hp0
    clear hp0
    go_wp2
    go_loopw [7,8] (fun v7 v8 wy=>∃ (j:Nat) (b:Bool) (p:List Nat),j≤m∧v7=.bool b∧v8=.int .i64 j∧Hid (PRel w k g c5 (prs l) l j p0.sum b p wy)) (fun _ v8 _=>m - (intOf v8).toNat)
    case atStart=>exact ⟨0,true,p0,by omega,rfl,rfl,HP.out.1,HP.out.2.1,HP.out.2.2,fun _=>⟨rfl,fun j x hj=>absurd hj (Nat.not_lt_zero _)⟩,fun h=>by cases h⟩
    case round=>
     obtain ⟨j,b,p,hj,rfl,rfl,HR⟩:=hrel
     by_cases hjm:j < m
     ·obtain ⟨x,hx⟩:∃ x,l[j]?=some x:=⟨_,List.getElem?_eq_getElem (by have:=HL.out;omega)⟩
      rcases (H.out.ext HR.out.bel) with h0 | ⟨bb,off,rfl,hbl,hev⟩
      ·rw [h0] at hx;simp at hx
      obtain ⟨e1,e2⟩:=hev j x hx
      obtain ⟨i1,i2,i3,i4⟩:=HI.out x (List.mem_of_getElem? hx)
      obtain ⟨xa,xb⟩:=x
      simp only at e1 e2 i1 i2 i3 i4
      obtain ⟨a,rfl⟩:=Int.eq_ofNat_of_zero_le i1
      obtain ⟨d,rfl⟩:=Int.eq_ofNat_of_zero_le i3
      have hak:a < k:=by omega
      have hdk:d < k:=by omega
      obtain ⟨x,hxa⟩:∃ x,p[a]?=some x:=⟨_,List.getElem?_eq_getElem (by rw [HR.out.inv.len];exact hak)⟩
      obtain ⟨y,hyd⟩:∃ y,p[d]?=some y:=⟨_,List.getElem?_eq_getElem (by rw [HR.out.inv.len];exact hdk)⟩
      have hrow:=HR.out.row
      unfold NRow at hrow
      have r1:wr.cell? ⟨g,a,none⟩=some (.int .i64 (x:Nat)):=(World.ownsRow.cellAt hrow a (by omega)).trans (natv_get hxa)
      have r2:wr.cell? ⟨g,d,none⟩=some (.int .i64 (y:Nat)):=(World.ownsRow.cellAt hrow d (by omega)).trans (natv_get hyd)
      have f1:=World.ownsRow.frozenAt hrow a
      have f2:=World.ownsRow.frozenAt hrow d
      have HMEM:Hid ((a,d)∈prs l):=List.mem_map.2 ⟨_,List.mem_of_getElem? hx,rfl⟩
      have HXA:=Lib.hid hxa
      have HYD:=Lib.hid hyd
      have HX:=Lib.hid hx
      have z0:(0:Int)≤(j:Int):=by omega
      have z1:(j:Int) < (m:Int):=by omega
      have z2:(a:Int) < (k:Int):=by omega
      have z3:(d:Int) < (k:Int):=by omega
      clear hev hx hxa hyd hrow i1 i2 i3 i4
      rcases Nat.lt_trichotomy x y with q | q | q
      ·have q1:(x:Int) < (y:Int):=by omega
       have q2:¬ (y:Int) < (x:Int):=by omega
       have HN:=Lib.hid (HR.out.set_ HG.out (.inl HMEM.out) HXA.out HYD.out q)
       clear q
       go_wp2
       go_roundw
       case rel=>exact ⟨j+1,false,_,by omega,rfl,by go_num,HN.out⟩
       case measure=>simp [intOf];omega
      ·subst q
       have q2:¬ (x:Int) < (x:Int):=by omega
       have HN:=Lib.hid (HR.out.skip HX.out (by simp [HXA.out,HYD.out]))
       go_wp2
       go_roundw
       case rel=>exact ⟨j+1,b,p,by omega,rfl,by go_num,HN.out⟩
       case measure=>simp [intOf];omega
      ·have q1:(y:Int) < (x:Int):=by omega
       have q2:¬ (x:Int) < (y:Int):=by omega
       have HN:=Lib.hid (HR.out.set_ HG.out (.inr HMEM.out) HYD.out HXA.out q)
       clear q
       go_wp2
       go_roundw
       case rel=>exact ⟨j+1,false,_,by omega,rfl,by go_num,HN.out⟩
       case measure=>simp [intOf];omega
     ·have hjm':¬ (j:Int) < (m:Int):=by omega
      cases b with
      | true=>
       have HQ:Hid (IsParts k (prs l) p):=by
        refine ⟨HR.out.inv,fun x y hxy=>?_⟩
        obtain ⟨z,hz,he⟩:=List.mem_map.1 hxy
        obtain ⟨i,hi⟩:=List.mem_iff_getElem?.1 hz
        have:=(HR.out.yes rfl).2 i z (by have:=(List.getElem?_eq_some_iff.1 hi).1;have:=HL.out;omega) hi
        injection he with h1 h2
        rw [←h1,←h2];exact this
       go_wp2
       go_ret
       exact ⟨p,g,c5,rfl,HR.out.row,HQ.out,HR.out.bel,HG.out⟩
      | false=>
       have HS:Hid (p.sum < gk):=by have:=HR.out.no rfl;have:=HGK.out;unfold Hid;omega
       go_wp2
       go_roundg p.sum
       case measure=>exact HS.out
       case rel=>exact ⟨p,rfl,HR.out.row,HR.out.inv,HR.out.bel⟩
end Go.Proofs.YtkoajpeabicpdaaGreatDoor
