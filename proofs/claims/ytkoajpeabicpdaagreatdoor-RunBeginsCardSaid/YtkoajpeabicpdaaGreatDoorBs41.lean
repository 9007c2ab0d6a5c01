/-
Walk of path.far. Conditions: the rows of nodes beside lie in memory as 'BesAt' says, and are those of the edges.
-/
import Derived.Test.YtkoajpeabicpdaaGreatDoorBs7
import Derived.Test.YtkoajpeabicpdaaGreatDoorBs40
import Derived.Deep.LoopGhost
import Derived.Test.YtkoajpeabicpdaaGreatDoorBs39
set_option linter.unusedVariables false
set_option maxHeartbeats 8000000
namespace Go.Proofs.YtkoajpeabicpdaaGreatDoor
open Go Go.RowKit
structure FaR (w:World) (n:Nat) (l:List AK.Ed) (a gd gk:Nat) (v:Value) (wr:World):Prop where
 all:∃ q d,QwAt wr v q∧DRw w n gd n d wr∧(∀ k,v.ownBlock=some k→w.heap.size≤k∧k≠gd)∧PD.far0 d n+q.length≤gk∧gk≤1000∧d.length=n∧(q=[]→PD.IsDist n l a d)∧∀ y r,q=y::r→∃ h:Nat,PD.g d y=(h:Int)∧PD.Bq n l a h d q
structure FaI (w:World) (n:Nat) (l:List AK.Ed) (a gd gk x i:Nat) (N:List Nat) (v:Value) (wr:World):Prop where
 all:∃ q d,∃ h:Nat,QwAt wr v (x::q)∧DRw w n gd n d wr∧(∀ k,v.ownBlock=some k→w.heap.size≤k∧k≠gd)∧PD.far0 d n+(q.length+1)≤gk∧gk≤1000∧d.length=n∧PD.g d x=(h:Int)∧PD.Bq n l a h d (x::q)∧∀ j b,j < i→N[j]?=some b→0≤PD.g d b
def MkR (w:World) (n gd k:Nat) (wr:World):Prop:=∃ d,d.length=n∧(∀ v,v < k→PD.g d v=-1)∧DRw w n gd n d wr
theorem FaI.mark {w w2 w':World} {n a gd gk x i b:Nat} {l:List AK.Ed} {N:List Nat} {v v':Value} {q:List Nat} {d:List Int} {h0:Nat} (h3:∀ k,v.ownBlock=some k→w.heap.size≤k∧k≠gd) (h4:PD.far0 d n+(q.length+1)≤gk) (h5:gk≤1000) (h6:d.length=n) (h7:PD.g d x=(h0:Int)) (h8:PD.Bq n l a h0 d (x::q)) (h9:∀ j b,j < i→N[j]?=some b→0≤PD.g d b)
  (hb:N[i]?=some b) (hbn:b < n) (hadj:PD.adj l x b) (hneg:PD.g d b < 0) (hD:DRw w n gd n (d.set b ((h0:Int)+1)) w2) (hq:QwAt w' v' (x::q++[b])) (hc:Chg (fun k=>v.ownBlock=some k) w2 w') (hat:v'.ownBlock=v.ownBlock∨v'.ownBlock=some w2.heap.size):FaI w n l a gd gk x (i+1) N v' w':=by
 have hm:=h8.mark h7 hbn hadj hneg
 have hbl:b < d.length:=by omega
 have hgl:gd < w2.heap.size:=own_lt hD.row rfl
 refine ⟨q++[b],d.set b ((h0:Int)+1),h0,hq,⟨own_chg hD.row hc (fun k hk hv=>by simp [Value.ownBlock] at hk;subst hk;exact (h3 gd hv).2 rfl),((Chg.of_below hD.ext).trans hc (fun k _ hk=>(h3 k hk).1)).below (Nat.le_refl _) (fun _ _ h=>h),hD.new⟩,fun k hk=>?_,?_,h5,by simpa using h6,?_,hm,fun j y hj hy=>?_⟩
 ·rcases hat with hat | hat
  ·exact h3 k (by rw [←hat];exact hk)
  ·rw [hat] at hk;injection hk with hk;subst hk
   exact ⟨hD.ext.size,by omega⟩
 ·have:=PD.far0_mark (x:=(h0:Int)+1) h6 hbn hneg (by omega)
  simp;omega
 ·rw [PD.g_set_ne (by rintro rfl;omega)];exact h7
 ·by_cases e:b=y
  ·subst e;rw [PD.g_set_self hbl];omega
  ·rw [PD.g_set_ne e]
   by_cases e2:j=i
   ·subst e2;rw [hb] at hy;injection hy with hy;exact absurd hy e
   ·exact h9 j y (by omega) hy
theorem FaI.done {w wr:World} {n a gd gk x:Nat} {l:List AK.Ed} {N:List Nat} {A:Option Addr} {m c:Nat} (h:FaI w n l a gd gk x N.length N (.slice A m c) wr) (hN:∀ y,y∈N↔(y < n∧PD.adj l x y)):
  ∃ g off,A=some ⟨g,off,none⟩∧1≤m∧m≤c∧c≤maxLen∧FaR w n l a gd (gk - 1) (.slice (if c=1 then some ⟨g,off,none⟩ else some ⟨g,off+1,none⟩) (m - 1) (c - 1)) wr∧1≤gk:=by
 obtain ⟨q,d,h0,h1,h2,h3,h4,h5,h6,h7,h8,h9⟩:=h.all
 obtain ⟨g,off,rfl,hm,hmc,hc,_,hq⟩:=h1.pop
 have hp:=h8.pop h7 (fun b hb hadj=>by
  obtain ⟨j,hj⟩:=List.getElem?_of_mem ((hN b).2 ⟨hb,hadj⟩)
  exact h9 j b (List.getElem?_eq_some_iff.1 hj).1 hj)
 refine ⟨g,off,rfl,by omega,hmc,hc,⟨q,d,hq,h2,fun k hk=>h3 k (by
  by_cases h1:c=1
  ·rw [if_pos h1] at hk;exact hk
  ·rw [if_neg h1] at hk;exact hk),by omega,by omega,h6,hp.1,hp.2⟩,by omega⟩
theorem MkR.end {w wr:World} {n gd:Nat} (h:MkR w n gd n wr):DRw w n gd n (List.replicate n (-1)) wr:=by
 obtain ⟨d,h1,h2,h3⟩:=h
 have e:d=List.replicate n (-1):=by
  apply List.ext_getElem?
  intro v
  by_cases hv:v < n
  ·have:=h2 v hv
   simp only [PD.g,List.getD_eq_getElem?_getD] at this
   rw [List.getElem?_eq_getElem (by omega)] at this ⊢
   simp at this
   rw [List.getElem?_replicate,if_pos hv,this]
  ·rw [List.getElem?_eq_none (by omega),List.getElem?_eq_none (by simp;omega)]
 rw [←e];exact h3
set_option maxRecDepth 100000 in
theorem far_any (w:World) (n a G cG:Nat) (l:List AK.Ed) (N:Nat→List Nat) (hB:BesAt w G n N) (hN:BesOf n l N) (ha:a < n) (hn:n≤60):
  Calls Tryz.prog 85 #[.slice (some ⟨G,0,none⟩) n cG,.int .i64 a] w (FarPost w n l a):=by
 obtain ⟨cs,hcs,hmk⟩:=run_ints n (by omega)
 have HB:=Lib.hid hB
 have HN:=Lib.hid hN
 have HD0:Hid (DRw w n w.heap.size n (List.replicate n 0) (w.alloc (.cells cs 3))):=by
  refine ⟨?_,Ext.alloc _ _,Nat.le_refl _⟩
  have:=World.ownsRow_lit w cs (e:=3) (size:=1) (base:=0) n (Nat.zero_le _) (by unfold maxLen;omega) (by have:=congrArg List.length hcs;simp at this;omega)
  rw [hcs] at this
  simpa [intsV] using this
 clear hB hN hcs
 have hn0:(0:Int)≤(n:Int):=by omega
 go_enter Tryz.func85,Tryz.ntmps85
 go_wp2
 obtain ⟨gd,hgd⟩:∃ x,x=w.heap.size:=⟨_,rfl⟩
 have HM0:Hid (MkR w n gd 0 (w.alloc (.cells cs 3))):=by
  rw [hgd];exact ⟨_,by simp,fun v hv=>by omega,HD0.out⟩
 rw [←hgd]
 have HGD:=Lib.hid hgd
 clear hgd HD0
 go_loopw [15] (fun v wr=>∃ k:Nat,k≤n∧v=.int .i64 k∧Hid (MkR w n gd k wr)) (fun v _=>n - (intOf v).toNat)
 case atStart=>exact ⟨0,by omega,rfl,HM0⟩
 case round=>
  obtain ⟨k,hk,rfl,hR⟩:=hrel
  clear HM0
  by_cases hkn:k < n
  ·have hkn':(k:Int) < (n:Int):=by omega
   obtain ⟨d,h1,h2,h3⟩:=hR.out
   obtain ⟨c0,f0⟩:=h3.cell h1 hkn
   have HR2:Hid (MkR w n gd (k+1) (wr.setCell ⟨gd,k,none⟩ (.int .i64 (-1)))):=by
    refine ⟨d.set k (-1),by simpa using h1,fun v hv=>?_,h3.set k (-1)⟩
    by_cases e:k=v
    ·subst e;rw [PD.g_set_self (by omega)]
    ·rw [PD.g_set_ne e];exact h2 v (by omega)
   clear h1 h2 h3 hR
   go_wp2
   go_roundw
   case rel=>exact ⟨k+1,by omega,by go_num,HR2⟩
   case measure=>simp [intOf];omega
  ·have e:k=n:=by omega
   subst e
   have HD:=Lib.hid hR.out.end
   have ha':(a:Int) < (k:Int):=by omega
   obtain ⟨c0,f0⟩:=HD.out.cell (by simp) ha
   have HD1:Hid (DRw w k gd k ((List.replicate k (-1)).set a 0) (wr.setCell ⟨gd,a,none⟩ (.int .i64 0))):=HD.out.set a 0
   have HF0:Hid (FaR w k l a gd (k+1) (.slice (some ⟨wr.heap.size,0,none⟩) 1 1) ((wr.setCell ⟨gd,a,none⟩ (.int .i64 0)).alloc (.cells #[.int .i64 (a:Int)] 3))):=by
    have hgl:gd < wr.heap.size:=own_lt HD.out.row rfl
    have hq:=QwAt.one (wr.setCell ⟨gd,a,none⟩ (.int .i64 0)) a
    have hz:(wr.setCell ⟨gd,a,none⟩ (.int .i64 0)).heap.size=wr.heap.size:=by simp
    rw [hz] at hq
    have hbq:=PD.Bq.start l ha
    refine ⟨[a],_,hq,HD1.out.moved (Ext.alloc _ _),fun j hj=>?_,?_,by omega,by simp,fun h=>by simp at h,fun y r hy=>?_⟩
    ·simp [Value.ownBlock] at hj;subst hj;exact ⟨HD.out.ext.size,by omega⟩
    ·have:=PD.far0_le ((List.replicate k (-1:Int)).set a 0) k;simp;omega
    ·simp at hy;obtain ⟨rfl,rfl⟩:=hy;exact ⟨0,by simpa using hbq.zero,hbq⟩
   clear hR HD HD1
   go_wp2
   obtain ⟨wq,hwq⟩:∃ x,x=wr:=⟨_,rfl⟩
   subst hwq
   go_loopg [7] (k+1) (fun gk v7 wr=>Hid (FaR w k l a gd gk v7 wr))
   case atStart=>exact HF0
   case round=>
    clear HF0
    obtain ⟨q,d,h1,h2,h3,h4,h5,h6,h7,h8⟩:=hrel.out.all
    have HREL:=Lib.hid hrel.out
    rcases q with _ | ⟨x,q⟩
    ·obtain ⟨A,c,rfl,hqc,hcm⟩:=h1.form
     have HP:Hid (FarPost w k l a (.returned (.slice (some ⟨gd,0,none⟩) k k)) wr):=⟨gd,k,d,rfl,h7 rfl,h2⟩
     clear h1 h2 h3 h4 h5 h6 h7 h8 hrel
     go_wp2
     go_ret
     exact HP.out
    ·obtain ⟨A,c,rfl,hqc,hcm⟩:=h1.form
     obtain ⟨qg,qo,rfl,_,_,_,qc,_⟩:=h1.pop
     obtain ⟨h0,hx,hbq⟩:=h8 x q rfl
     have hxn:x < k:=(hbq.qv x (by simp)).1
     obtain ⟨NA,nc,g1,g2,g3⟩:=HB.out.row x hxn
     have g1:=(h2.ext.cell (p:=⟨G,x,none⟩) HB.out.lt).trans g1
     have HI0:Hid (FaI w k l a gd gk x 0 (N x) (.slice (some ⟨qg,qo,none⟩) (x::q).length c) wr):=⟨q,d,h0,h1,h2,h3,by simpa using h4,h5,h6,hx,hbq,fun j b hj=>by omega⟩
     have HNA:=Lib.hid g2
     obtain ⟨nl,hnl⟩:∃ z,z=(N x).length:=⟨_,rfl⟩
     have hnl4:nl≤400:=by omega
     rw [←hnl] at g1
     have HNL:=Lib.hid hnl
     have hxk:(x:Int) < (k:Int):=by omega
     have hql:(0:Int) < (q.length:Int)+1:=by omega
     have hlen:q.length≤1000:=by simp at h4;omega
     have HX0:Hid (Ext w wr):=h2.ext
     clear h1 h2 h3 h4 h5 h6 h7 h8 hrel hx hbq g2 g3 hnl HREL
     simp only [List.length_cons] at HI0 hqc ⊢
     go_wp2
     obtain ⟨wp,hwp⟩:∃ z,z=wr:=⟨_,rfl⟩
     subst hwp
     go_loopw [7,39] (fun v7 v39 wr=>∃ i:Nat,i≤nl∧v39=.int .i64 i∧Hid (FaI w k l a gd gk x i (N x) v7 wr)) (fun _ v39 _=>nl - (intOf v39).toNat)
     case atStart=>exact ⟨0,by omega,rfl,HI0⟩
     case round=>
      obtain ⟨i,hi,rfl,hI⟩:=hrel
      clear HI0
      by_cases hin:i < nl
      ·have hin':(i:Int) < (nl:Int):=by omega
       have hi0:(0:Int)≤(i:Int):=by omega
       obtain ⟨b,hb⟩:∃ b,(N x)[i]?=some b:=⟨_,List.getElem?_eq_getElem (by rw [←HNL.out];exact hin)⟩
       have hbm:b∈N x:=List.mem_of_getElem? hb
       obtain ⟨hbn,hadj⟩:=(HN.out x hxn b).1 hbm
       obtain ⟨nb,no,rfl,nlt,b0⟩:∃ nb no,NA=some ⟨nb,no,none⟩∧nb < wr.heap.size∧wr.cell? ⟨nb,no+i,none⟩=some (.int .i64 (b:Int)):=by
        obtain ⟨_,_,_,_,hdr,_⟩:=hI.out.all
        rcases HNA.out.ext hdr.ext with h | ⟨nb,no,h,hlt,hc⟩
        ·have:=congrArg List.length h
         simp at this
         rw [this] at hb;simp at hb
        ·exact ⟨nb,no,h,hlt,hc i b (by simp [hb])⟩
       obtain ⟨q,d,h0,h1,h2,h3,h4,h5,h6,h7,h8,h9⟩:=hI.out.all
       obtain ⟨cb,fb⟩:=h2.cell h6 hbn
       obtain ⟨cx,fx⟩:=h2.cell h6 hxn
       obtain ⟨A,c2,rfl,hqc2,hcm2⟩:=h1.form
       obtain ⟨qg2,qo2,rfl,_,_,_,qc2,_⟩:=h1.pop
       have hh0:(h0:Int)≤60:=by have:=h8.toBase.below hxn;omega
       rw [h7] at cx
       obtain ⟨db,hdb⟩:∃ z,PD.g d b=z:=⟨_,rfl⟩
       rw [hdb] at cb
       have HDB:=Lib.hid hdb
       have HFI:=Lib.hid (⟨h1,h2,h3,h4,h5,h6,h7,h8,h9⟩:_∧_∧_∧_∧_∧_∧_∧_∧_)
       have hbk:(b:Int) < (k:Int):=by omega
       have hql2:(0:Int) < (q.length:Int)+1:=by omega
       have hlen2:q.length≤1000:=by omega
       have HBB:=Lib.hid hb
       have HADJ:=Lib.hid hadj
       simp only [List.length_cons] at hqc2 ⊢
       clear h1 h2 h3 h4 h5 h6 h7 h8 h9 hdb hb hbm hadj hI
       by_cases hneg:db < 0
       ·have HD2:Hid (DRw w k gd k (d.set b ((h0:Int)+1)) (wr.setCell ⟨gd,b,none⟩ (.int .i64 ((h0:Int)+1)))):=HFI.out.2.1.set b _
        have HQ2:Hid (QwAt ((wr.setCell ⟨gd,b,none⟩ (.int .i64 ((h0:Int)+1))).alloc (.cells #[.int .i64 (b:Int)] 3)) (.slice (some ⟨qg2,qo2,none⟩) (q.length+1) c2) (x::q)):=by
         have q1:=HFI.out.1.chg ((Chg.refl (fun j=>j=gd) wr).setCell (p:=⟨gd,b,none⟩) (fun _=>rfl) (.int .i64 ((h0:Int)+1))) (fun j hj e=>(HFI.out.2.2.1 j hj).2 e)
         exact q1.chg (Chg.of_below (Ext.alloc _ _)) (fun j hj=>by have:=q1.lt hj;omega)
        have hql3:Hid ((x::q).length≤100000):=by unfold Hid;rw [List.length_cons];omega
        have hB3:Hid (((wr.setCell ⟨gd,b,none⟩ (.int .i64 ((h0:Int)+1))).alloc (.cells #[.int .i64 (b:Int)] 3)).cell? ⟨wr.heap.size,0,none⟩=some (.int .i64 (b:Int))):=cell_new1 (by simp) _ _
        have HMK:Hid (∀ v' w',QwAt w' v' (x::q++[b])→Chg (fun j=>(Value.slice (some ⟨qg2,qo2,none⟩) (q.length+1) c2).ownBlock=some j) ((wr.setCell ⟨gd,b,none⟩ (.int .i64 ((h0:Int)+1))).alloc (.cells #[.int .i64 (b:Int)] 3)) w'→(v'.ownBlock=(Value.slice (some ⟨qg2,qo2,none⟩) (q.length+1) c2).ownBlock∨v'.ownBlock=some ((wr.setCell ⟨gd,b,none⟩ (.int .i64 ((h0:Int)+1))).alloc (.cells #[.int .i64 (b:Int)] 3)).heap.size)→FaI w k l a gd gk x (i+1) (N x) v' w'):=fun v' w' hq' hc' hat'=>by
         obtain ⟨h1,h2,h3,h4,h5,h6,h7,h8,h9⟩:=HFI.out
         exact FaI.mark h3 h4 h5 h6 h7 h8 h9 HBB.out hbn HADJ.out (by rw [HDB.out];exact hneg) (HD2.out.moved (Ext.alloc _ _)) hq' hc' hat'
        clear HFI
        go_wp2_with (at_builtin;refine wpList_qpush _ rfl (.tmp 58) (.tmp 60) rfl _ (x::q) rfl HQ2.out hql3.out wr.heap.size b rfl hB3.out ?_;intro v' w' hq' hc' hat';have HN2:=Lib.hid (HMK.out v' w' hq' hc' hat');clear hq' hc' hat')
        go_roundw
        case rel=>exact ⟨i+1,by omega,by go_num,HN2⟩
        case measure=>simp [intOf];omega
       ·have HN2:Hid (FaI w k l a gd gk x (i+1) (N x) (.slice (some ⟨qg2,qo2,none⟩) (q.length+1) c2) wr):=by
         obtain ⟨h1,h2,h3,h4,h5,h6,h7,h8,h9⟩:=HFI.out
         refine ⟨q,d,h0,h1,h2,h3,h4,h5,h6,h7,h8,fun j y hj hy=>?_⟩
         by_cases e:j=i
         ·subst e;rw [HBB.out] at hy;injection hy with hy;subst hy;rw [HDB.out];omega
         ·exact h9 j y (by omega) hy
        clear HFI
        go_wp2
        go_roundw
        case rel=>exact ⟨i+1,by omega,by go_num,HN2⟩
        case measure=>simp [intOf];omega
      ·have e:i=(N x).length:=by rw [←HNL.out];omega
       have hei:i=nl:=by omega
       obtain ⟨q,d,h0,h1,_⟩:=hI.out.all
       obtain ⟨A,c2,rfl,hqc2,hcm2⟩:=h1.form
       have HE:Hid (_):=Lib.hid ((by rw [←e];exact hI.out:FaI w k l a gd gk x (N x).length (N x) (.slice A (x::q).length c2) wr).done (HN.out x hxn))
       obtain ⟨qg2,qo2,rfl,_,hmc,_,HFR,hgk⟩:=HE.out
       have HFR:=Lib.hid HFR
       simp only [List.length_cons] at HFR hqc2 ⊢
       have hc1:(1:Int)≤(c2:Int):=by omega
       have hm1:(1:Int)≤(q.length:Int)+1:=by omega
       subst hei
       clear h1 hI HE e
       by_cases hcc:c2=1
       ·subst hcc
        have HFR2:Hid (FaR w k l a gd (gk - 1) (.slice (some ⟨qg2,qo2,none⟩) 0 0) wr):=by
         have hq0:q.length=0:=by omega
         have:=HFR.out
         rw [hq0] at this
         unfold Hid;simpa using this
        clear HFR
        go_wp2
        go_roundg (gk - 1)
        case measure=>omega
        case rel=>exact HFR2
       ·have HFR2:Hid (FaR w k l a gd (gk - 1) (.slice (some ⟨qg2,qo2+1,none⟩) q.length (c2 - 1)) wr):=by unfold Hid;simpa [hcc] using HFR.out
        clear HFR
        go_wp2
        go_roundg (gk - 1)
        case measure=>omega
        case rel=>exact HFR2
theorem next_at {n:Nat} {l:List AK.Ed} {d:List Int} {N:List Nat} {y i c:Nat} (hN:∀ x,x∈N↔(x < n∧PD.adj l y x)) (hs:N.Pairwise (fun x y=>x≤y)) (hc:N[i]?=some c) (hd:PD.g d c=PD.g d y - 1) (hno:∀ j z,j < i→N[j]?=some z→PD.g d z≠PD.g d y - 1):PD.Next n l d y c:=by
 have hm:=(hN c).1 (List.mem_of_getElem? hc)
 refine ⟨hm.1,hm.2,hd,fun c' hlt hadj he=>?_⟩
 obtain ⟨j,hj⟩:=List.getElem?_of_mem ((hN c').2 ⟨by have:=hm.1;omega,hadj⟩)
 by_cases h1:j < i
 ·exact hno j c' h1 hj he
 ·by_cases h2:j=i
  ·subst h2;rw [hc] at hj;injection hj with hj;omega
  ·have h3:=(List.getElem?_eq_some_iff.1 hj).1
   have h4:=(List.getElem?_eq_some_iff.1 hc).1
   have h5:=(List.pairwise_iff_getElem.1 hs) i j h4 h3 (by omega)
   rw [(List.getElem?_eq_some_iff.1 hc).2,(List.getElem?_eq_some_iff.1 hj).2] at h5
   omega
structure WyR (w:World) (k:Nat) (l:List AK.Ed) (d:List Int) (x y:Nat) (v:Value) (wr:World):Prop where
 all:∃ out,PD.On k l d x y out∧wr.ownsRow 0 3 1 v out.length (natsV out)∧out.length+(PD.g d y).toNat≤100
 own:∀ j,v.ownBlock=some j→w.heap.size≤j
 ext:Ext w wr
 y:y < k∧0≤PD.g d y
theorem natsV_snoc (q:List Nat) (x:Nat):natsV (q++[x])=natsV q++[.int .i64 (x:Int)]:=by simp [natsV]
theorem WyR.moved {w wr w':World} {k:Nat} {l:List AK.Ed} {d:List Int} {x y:Nat} {v:Value} (h:WyR w k l d x y v wr) (hx:Ext wr w'):WyR w k l d x y v w':=by
 obtain ⟨out,h1,h2,h3⟩:=h.all
 exact ⟨⟨out,h1,own_chg h2 (Chg.of_below hx) (fun j hj=>by have:=own_lt h2 hj;omega),h3⟩,h.own,Ext.trans h.ext hx,h.y⟩
theorem WyR.push {w wr w':World} {k:Nat} {l:List AK.Ed} {d:List Int} {x y c g cc:Nat} {v:Value} {out:List Nat} (hon:PD.On k l d x y out) (hlen:out.length+(PD.g d y).toNat≤100) (hown:∀ j,v.ownBlock=some j→w.heap.size≤j) (hx:Ext w wr) (h0:0 < PD.g d y) (hn:PD.Next k l d y c)
  (ho:w'.ownsRow 0 3 1 (.slice (some ⟨g,0,none⟩) (out.length+1) cc) (out.length+1) (natsV out++[.int .i64 (c:Int)])) (hc:Chg (fun j=>v.ownBlock=some j) wr w') (hat:v.ownBlock=some g∨g=wr.heap.size):WyR w k l d x c (.slice (some ⟨g,0,none⟩) (out.length+1) cc) w':=by
 refine ⟨⟨out++[c],hon.step h0 hn,by rw [natsV_snoc,List.length_append];exact ho,?_⟩,fun j hj=>?_,((Chg.of_below hx).trans hc (fun j _ hj=>hown j hj)).below (Nat.le_refl _) (fun _ _ h=>h),hn.lt,by have:=hn.val;omega⟩
 ·have:=hn.val;simp;omega
 ·simp [Value.ownBlock] at hj;subst hj
  rcases hat with hat | hat
  ·exact hown _ hat
  ·have:=hx.size;omega
def ShPost (w:World) (n:Int) (l:List AK.Ed) (a b:Int) (e:Ending) (w':World):Prop:=
 Ext w w'∧((ckF n l [a,b]≠0∧e=.returned (.tuple #[.slice none 0 0,errOf (ckF n l [a,b])]))∨
  ∃ (k x y:Nat) (d:List Int),ckF n l [a,b]=0∧n=(k:Int)∧a=(x:Int)∧b=(y:Int)∧PD.IsDist k l y d∧
   ((PD.g d x < 0∧e=.returned (.tuple #[.slice none 0 0,errOf 4]))∨
    (0≤PD.g d x∧∃ A c p,e=.returned (.tuple #[.slice A p.length c,.nilIface])∧PD.Way k l d x p∧w'.ownsRow 0 3 1 (.slice A p.length c) p.length (natsV p)∧p.length≤100)))
set_option maxRecDepth 100000 in
theorem short_any (w:World) (n:Int) (A:Option Addr) (m c:Nat) (l:List AK.Ed) (hl:l.length=m) (hlm:m≤9223372036854775807) (h:EdsAt w A l) (a b:Int):
  Calls Tryz.prog 35 #[.int .i64 n,.slice A m c,.int .i64 a,.int .i64 b] w (ShPost w n l a b):=by
 have H:=Lib.hid h
 have HL:=Lib.hid hl
 have HI1:Hid (IntsAt (w.alloc (.cells #[.int .i64 a,.int .i64 b] 3)) (some ⟨w.heap.size,0,none⟩) [a,b]):=by
  refine .inr ⟨w.heap.size,0,rfl,by simp,fun i v hv=>?_⟩
  have hb:=Blk.new w 3 #[.int .i64 a,.int .i64 b]
  match i,hv with
  | 0,hv=>simp at hv;subst hv;exact hb.cell 0
  | 1,hv=>simp at hv;subst hv;exact hb.cell 1
 clear h hl
 go_enter Tryz.func35,Tryz.ntmps35
 go_wp2
 go_step3
 go_wp2_with fail
 refine (checked_any _ n A m c l HL.out hlm (H.out.ext (Ext.alloc w _)) (some ⟨w.heap.size,0,none⟩) 2 2 [a,b] HI1.out rfl (by omega)).mono ?_
 rintro e w1 ⟨rfl,hx1⟩
 have HX1:Hid (Ext w w1):=Ext.trans (Ext.alloc _ _) hx1
 clear hx1 HI1
 by_cases h0:ckF n l [a,b]=0
 ·rw [h0,errOf_0]
  obtain ⟨k,rfl,hk0,hk60,hf,_,hz⟩:=ckF_zero h0
  obtain ⟨x,rfl,hxk⟩:=hz a (by simp)
  obtain ⟨y,rfl,hyk⟩:=hz b (by simp)
  have HF:=Lib.hid hf
  have H0:=Lib.hid h0
  clear hf hz h0
  go_wp2_with fail
  refine (beside_any w1 k A m c l HL.out (H.out.ext HX1.out) HF.out hk0 hk60).mono ?_
  rintro e w2 ⟨G,cG,N,rfl,hb,hN,hs,hx2⟩
  have HX2:Hid (Ext w w2):=Ext.trans HX1.out hx2
  have HB:=Lib.hid hb
  have HN:=Lib.hid hN
  have HS:=Lib.hid hs
  clear hb hN hx2 hs
  go_wp2_with fail
  refine (far_any w2 k y G cG l N HB.out HN.out hyk hk60).mono ?_
  rintro e w3 ⟨gd,cd,d,rfl,hd,hr⟩
  have HX3:Hid (Ext w w3):=Ext.trans HX2.out hr.ext
  have HB3:Hid (BesAt w3 G k N):=HB.out.ext hr.ext
  have HD:=Lib.hid hd
  have HR:Hid (DRw w k gd cd d w3):=⟨hr.row,HX3.out,Nat.le_trans HX2.out.size hr.new⟩
  obtain ⟨cx,fx⟩:=hr.cell hd.len hxk
  have hxk':(x:Int) < (k:Int):=by omega
  clear hd hr
  obtain ⟨dx,hdx⟩:∃ z,PD.g d x=z:=⟨_,rfl⟩
  rw [hdx] at cx
  have HDX:=Lib.hid hdx
  clear hdx
  by_cases hneg:dx < 0
  ·have HP:Hid (ShPost w k l x y (.returned (.tuple #[.slice none 0 0,errOf 4])) w3):=⟨HX3.out,.inr ⟨k,x,y,d,H0.out,rfl,rfl,rfl,HD.out,.inl ⟨by rw [HDX.out];exact hneg,rfl⟩⟩⟩
   go_wp2
   go_ret2
   exact HP.out
  ·go_wp2
   go_step3
   have HW0:Hid (WyR w3 k l d x x (.slice (some ⟨w3.heap.size,0,none⟩) 1 1) (w3.alloc (.cells #[.int .i64 (x:Int)] 3))):=by
    refine ⟨⟨[x],PD.On.start k l d x,by simpa [natsV] using World.ownsRow_lit w3 #[.int .i64 (x:Int)] (e:=3) (size:=1) (base:=0) 1 (Nat.zero_le _) (by unfold maxLen;omega) rfl,?_⟩,fun j hj=>by simp [Value.ownBlock] at hj;omega,Ext.alloc _ _,hxk,by rw [HDX.out];omega⟩
    have:=HD.out.toBase.below hxk
    simp;omega
   go_wp2
   go_loopw [2,13] (fun v2 v13 wr=>∃ z:Nat,v2=.int .i64 z∧Hid (WyR w3 k l d x z v13 wr)) (fun v2 _ _=>(PD.g d (intOf v2).toNat).toNat)
   case atStart=>exact ⟨x,rfl,HW0⟩
   case round=>
    obtain ⟨z,rfl,hW⟩:=hrel
    obtain ⟨vo,hvo⟩:∃ t,t=u13:=⟨_,rfl⟩
    subst hvo
    clear HW0 cx fx
    have hzk:=hW.out.y.1
    have hz0:=hW.out.y.2
    by_cases hzy:z=y
    ·subst hzy
     obtain ⟨out,h1,h2,h3⟩:=hW.out.all
     obtain ⟨A13,c13,rfl,_⟩:=own_slice3 h2
     have HP:Hid (ShPost w k l x z (.returned (.tuple #[.slice A13 out.length c13,.nilIface])) wr):=
      ⟨Ext.trans HX3.out hW.out.ext,.inr ⟨k,x,z,d,H0.out,rfl,rfl,rfl,HD.out,.inr ⟨by rw [HDX.out];omega,A13,c13,out,rfl,h1.stop HD.out.zero,h2,by omega⟩⟩⟩
     clear h1 h2 h3 hW
     go_wp2
     go_ret2
     exact HP.out
    ·have hpos:0 < PD.g d z:=by
      by_cases e:PD.g d z=0
      ·exact absurd (HD.out.src z hzk e) hzy
      ·omega
     have HPOS:=Lib.hid hpos
     have hne:((z:Int) == (y:Int))=false:=by simpa using (show ¬ (z:Int)=(y:Int) by omega)
     have hne2:¬ (z:Int)=(y:Int):=by omega
     obtain ⟨NA,nc,g1,g2,g3⟩:=HB3.out.row z hzk
     have g1:=(hW.out.ext.cell (p:=⟨G,z,none⟩) HB3.out.lt).trans g1
     have HNA:=Lib.hid g2
     obtain ⟨nl,hnl⟩:∃ t,t=(N z).length:=⟨_,rfl⟩
     have hnl4:nl≤400:=by omega
     rw [←hnl] at g1
     have HNL:=Lib.hid hnl
     have hzk':(z:Int) < (k:Int):=by omega
     clear g2 g3 hnl hpos hz0
     go_wp2
     have HI0:Hid (WyR w3 k l d x z vo wr∧∀ j t,j < 0→(N z)[j]?=some t→PD.g d t≠PD.g d z - 1):=⟨hW.out,fun j t hj=>by omega⟩
     obtain ⟨wq,hwq⟩:∃ t,t=wr:=⟨_,rfl⟩
     subst hwq
     clear hW g1
     go_loopw [2,13,47] (fun v2 v13 v47 wr=>∃ i:Nat,i≤nl∧v2=.int .i64 z∧vo=v13∧v47=.int .i64 i∧Hid (WyR w3 k l d x z vo wr∧∀ j t,j < i→(N z)[j]?=some t→PD.g d t≠PD.g d z - 1)) (fun _ _ v47 _=>nl - (intOf v47).toNat)
     case atStart=>exact ⟨0,by omega,rfl,rfl,rfl,HI0.out⟩
     case round=>
      obtain ⟨i,hi,rfl,rfl,rfl,hI⟩:=hrel
      clear HI0
      by_cases hin:i < nl
      ·have hin':(i:Int) < (nl:Int):=by omega
       have hi0:(0:Int)≤(i:Int):=by omega
       obtain ⟨b,hb⟩:∃ b,(N z)[i]?=some b:=⟨_,List.getElem?_eq_getElem (by rw [←HNL.out];exact hin)⟩
       have hbm:b∈N z:=List.mem_of_getElem? hb
       obtain ⟨hbn,hadj⟩:=(HN.out z hzk b).1 hbm
       have HW:=Lib.hid hI.out.1
       obtain ⟨nb,no,rfl,b0⟩:∃ nb no,NA=some ⟨nb,no,none⟩∧wr.cell? ⟨nb,no+i,none⟩=some (.int .i64 (b:Int)):=by
        rcases HNA.out.ext HW.out.ext with h | ⟨nb,no,h,hlt,hc⟩
        ·have:=congrArg List.length h
         simp at this
         rw [this] at hb;simp at hb
        ·exact ⟨nb,no,h,hc i b (by simp [hb])⟩
       obtain ⟨cb,_⟩:=(HR.out.moved HW.out.ext).cell HD.out.len hbn
       obtain ⟨cz,_⟩:=(HR.out.moved HW.out.ext).cell HD.out.len hzk
       have hbk:(b:Int) < (k:Int):=by omega
       obtain ⟨db,hdb⟩:∃ t,PD.g d b=t:=⟨_,rfl⟩
       obtain ⟨dz,hdz⟩:∃ t,PD.g d z=t:=⟨_,rfl⟩
       rw [hdb] at cb
       rw [hdz] at cz
       have hdz1:0 < dz:=by rw [←hdz];exact HPOS.out
       have hdz2:dz≤60:=by rw [←hdz];have:=HD.out.toBase.below hzk;omega
       have HDB:=Lib.hid hdb
       have HDZ:=Lib.hid hdz
       have HBB:=Lib.hid hb
       have HNO:=Lib.hid hI.out.2
       clear hI hb hbm hadj hdb hdz
       by_cases hE:db=dz - 1
       ·have HNX:Hid (PD.Next k l d z b):=next_at (HN.out z hzk) (HS.out z hzk) HBB.out (by rw [HDB.out,HDZ.out];exact hE) HNO.out
        subst hE
        obtain ⟨out,h1,h2,h3⟩:=HW.out.all
        have HO:=Lib.hid h2
        have HON:=Lib.hid h1
        have hol:out.length≤100:=by omega
        have HOL:=Lib.hid h3
        have HWO:=Lib.hid HW.out.own
        have HWX:=Lib.hid HW.out.ext
        clear h1 h2 h3 HW HNO
        go_wp2
        go_quiet (fail)
        have HWX2:Hid (Ext w3 (wr.drewN nq)):=Ext.trans HWX.out (Ext.drewN _ _)
        have HO2:Hid ((wr.drewN nq).ownsRow 0 3 1 vo out.length (natsV out)):=HO.out
        generalize wr.drewN nq=w5 at HWX2 HO2 ⊢
        have HO3:Hid ((w5.alloc (.cells #[.int .i64 (b:Int)] 3)).ownsRow 0 3 1 vo out.length (natsV out)):=own_chg HO2.out (Chg.of_below (Ext.alloc w5 _)) (fun j hj=>by have:=own_lt HO2.out hj;omega)
        have HX6:Hid (Ext w3 (w5.alloc (.cells #[.int .i64 (b:Int)] 3))):=Ext.trans HWX2.out (Ext.alloc _ _)
        clear HO cb cz b0
        go_wp2_with (at_builtin;refine wpList_push _ rfl (.tmp 62) (.tmp 64) 79 rfl 3 (.int .i64 0) 8 Tryz.underlying79 infoI rfl vo out.length (natsV out) rfl HO3.out ⟨by omega,by omega⟩ (.int .i64 (b:Int)) w5.heap.size rfl (cell_new1 rfl _ _) rfl ?_;intro g2 c2 w6 ho hc hat _;have HW6:=Lib.hid (WyR.push HON.out HOL.out HWO.out HX6.out HPOS.out HNX.out ho hc hat);clear ho hc hat)
        go_roundw
        case rel=>exact ⟨b,rfl,HW6⟩
        case measure=>simp [intOf,HDB.out,HDZ.out];omega
       ·have hE2:(db == dz - 1)=false:=by simpa using hE
        have HN2:Hid (∀ j t,j < i+1→(N z)[j]?=some t→PD.g d t≠PD.g d z - 1):=fun j t hj ht=>by
         by_cases e:j=i
         ·subst e;rw [HBB.out] at ht;injection ht with ht;subst ht;rw [HDB.out,HDZ.out];exact hE
         ·exact HNO.out j t (by omega) ht
        go_wp2
        go_quiet (fail)
        have HN3:Hid (WyR w3 k l d x z vo (wr.drewN nq)∧∀ j t,j < i+1→(N z)[j]?=some t→PD.g d t≠PD.g d z - 1):=⟨HW.out.moved (Ext.drewN _ _),HN2.out⟩
        clear HN2 HW HNO
        go_wp2
        go_roundw
        case rel=>exact ⟨i+1,by omega,rfl,rfl,by go_num,HN3.out⟩
        case measure=>simp [intOf];omega
      ·exfalso
       obtain ⟨cc,h1,h2,h3⟩:=HD.out.next hzk HPOS.out
       obtain ⟨j,hj⟩:=List.getElem?_of_mem ((HN.out z hzk cc).2 ⟨h1,h2⟩)
       exact hI.out.2 j cc (by have:=(List.getElem?_eq_some_iff.1 hj).1;have:=HNL.out;omega) hj h3
 ·rw [errOf_ne h0]
  have HP:Hid (ShPost w n l a b (.returned (.tuple #[.slice none 0 0,.iface 52 (.int .i64 (ckF n l [a,b]))])) w1):=
   ⟨HX1.out,.inl ⟨h0,by rw [errOf_ne h0]⟩⟩
  go_wp2
  go_ret2
  exact HP.out
end Go.Proofs.YtkoajpeabicpdaaGreatDoor
