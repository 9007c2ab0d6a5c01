/-
Walk of the references' EdgesFault. Condition: the edges lie in memory as 'EdsAt' says.
-/
import Derived.Test.YtkoajpeabicpdaaGreatDoorBs5
import Derived.Test.YtkoajpeabicpdaaGreatDoorBs30
import Derived.Test.YtkoajpeabicpdaaGreatDoorBs7
import Derived.Test.YtkoajpeabicpdaaGreatDoorBs40
import Derived.Test.YtkoajpeabicpdaaGreatDoorBs41
import Derived.Deep.RegionHeld3
set_option linter.unusedVariables false
set_option maxHeartbeats 8000000
namespace Go.Proofs.YtkoajpeabicpdaaGreatDoor
open Go Go.RowKit
def NegRow (w:World) (k:Nat) (v:Value) (wr:World):Prop:=wr.ownsRow 0 3 1 v k (intsV (List.replicate k (-1)))∧Ext w wr∧∀ j,v.ownBlock=some j→w.heap.size≤j
theorem NegRow.push {w wr w2 w':World} {k g c:Nat} {v:Value} (h:NegRow w k v wr) (hx:Ext wr w2) (ho:w'.ownsRow 0 3 1 (.slice (some ⟨g,0,none⟩) (k+1) c) (k+1) (intsV (List.replicate k (-1))++[.int .i64 (-1)])) (hc:Chg (fun j=>v.ownBlock=some j) w2 w') (hat:v.ownBlock=some g∨g=w2.heap.size):NegRow w (k+1) (.slice (some ⟨g,0,none⟩) (k+1) c) w':=by
 obtain ⟨h1,h2,h3⟩:=h
 have h4:Ext w w2:=Ext.trans h2 hx
 refine ⟨by simpa [intsV,List.replicate_succ'] using ho,((Chg.of_below h4).trans hc (fun j _ hj=>h3 j hj)).below (Nat.le_refl _) (fun _ _ h=>h),fun j hj=>?_⟩
 simp [Value.ownBlock] at hj;subst hj
 rcases hat with hat | hat
 ·exact h3 _ hat
 ·have:=h4.size;omega
set_option maxRecDepth 100000 in
theorem farof_any (w:World) (n a:Nat) (A:Option Addr) (m c:Nat) (l:List AK.Ed) (hl:l.length=m) (h:EdsAt w A l) (hf:Fine n l) (ha:a < n) (hn:n≤60):
  Calls Tryz.prog 98 #[.int .i64 n,.slice A m c,.int .i64 a] w (FarPost w n l a):=by
 have H:=Lib.hid h
 have HL:=Lib.hid hl
 have HF:=Lib.hid hf
 have hm2:m≤200:=by rw [←hl];exact hf.1
 clear h hl hf
 go_enter Tryz.func98,Tryz.ntmps98
 go_wp2
 have HN0:Hid (NegRow w 0 (.slice none 0 0) w):=⟨by simpa [intsV] using World.ownsRow_nil w 0 3 1,Ext.refl _,fun j hj=>by simp [Value.ownBlock] at hj⟩
 go_loopw [7,8] (fun v7 v8 wr=>∃ k:Nat,k≤n∧v8=.int .i64 k∧Hid (NegRow w k v7 wr)) (fun _ v8 _=>n - (intOf v8).toNat)
 case atStart=>exact ⟨0,by omega,rfl,HN0⟩
 case round=>
  obtain ⟨k,hk,rfl,hR⟩:=hrel
  clear HN0
  by_cases hkn:k < n
  ·have hkn':(k:Int) < (n:Int):=by omega
   go_wp2_with (at_builtin;refine wpList_push _ rfl (.tmp 16) (.tmp 17) 79 rfl 3 (.int .i64 0) 8 Tryz.underlying79 infoI rfl _ k _ rfl (own_chg hR.out.1 (Chg.of_below (Ext.alloc wr _)) (fun j hj=>by have:=own_lt hR.out.1 hj;omega)) ⟨by omega,by omega⟩ (.int .i64 (-1)) wr.heap.size rfl (cell_new1 rfl _ _) rfl ?_;intro g2 c2 w2 ho hc hat _;have HN:=Lib.hid (hR.out.push (Ext.alloc wr _) ho hc hat);clear ho hc hat)
   go_roundw
   case rel=>exact ⟨k+1,by omega,by go_num,HN⟩
   case measure=>simp [intOf];omega
  ·have e:k=n:=by omega
   subst e
   obtain ⟨gd,cd,rfl,hcd,hcm⟩:=own_form hR.out.1 (by omega)
   have HD0:Hid (DRw w k gd cd (List.replicate k (-1)) wr):=⟨hR.out.1,hR.out.2.1,hR.out.2.2 gd rfl⟩
   have ha':(a:Int) < (k:Int):=by omega
   have f0:=(HD0.out.cell (by simp) ha).2
   have c0:=(HD0.out.cell (by simp) ha).1
   have HD1:Hid (DRw w k gd cd ((List.replicate k (-1)).set a 0) (wr.setCell ⟨gd,a,none⟩ (.int .i64 0))):=HD0.out.set a 0
   have HL0:Hid (∃ d,PD.Lv k l a 0 0 d∧DRw w k gd cd d (wr.setCell ⟨gd,a,none⟩ (.int .i64 0))):=⟨_,PD.Lv.start l ha,HD1.out⟩
   clear HD0 HD1 hR
   go_wp2
   obtain ⟨wq,hwq⟩:∃ x,x=wr:=⟨_,rfl⟩
   subst hwq
   go_loopw [9] (fun v9 wr=>∃ r:Nat,r≤k∧v9=.int .i64 r∧Hid (∃ d,PD.Lv k l a r 0 d∧DRw w k gd cd d wr)) (fun v9 _=>k - (intOf v9).toNat)
   case atStart=>exact ⟨0,by omega,rfl,HL0⟩
   case round=>
    obtain ⟨r,hr,rfl,hR⟩:=hrel
    clear HL0 f0 c0
    by_cases hrk:r < k
    ·have hrk':(r:Int) < (k:Int):=by omega
     have HI0:Hid (∃ d,PD.Lv k l a r 0 d∧DRw w k gd cd d wr):=hR
     go_wp2
     obtain ⟨wp,hwp⟩:∃ x,x=wr:=⟨_,rfl⟩
     subst hwp
     go_loopw [10] (fun v10 wr=>∃ i:Nat,i≤m∧v10=.int .i64 i∧Hid (∃ d,PD.Lv k l a r i d∧DRw w k gd cd d wr)) (fun v10 _=>m - (intOf v10).toNat)
     case atStart=>exact ⟨0,by omega,rfl,HI0⟩
     case round=>
      obtain ⟨i,hi,rfl,hI⟩:=hrel
      clear HI0 hR
      by_cases him:i < m
      ·have him':(i:Int) < (m:Int):=by omega
       have hi0:(0:Int)≤(i:Int):=by omega
       obtain ⟨d,hLv,hDR⟩:=hI.out
       have LV:=Lib.hid hLv
       have DR:=Lib.hid hDR
       obtain ⟨bs,off,rfl,hbs,u,v,hlu,huv,hv,b0,b1⟩:=edge_at H.out HL.out HF.out him
       have hu:u < k:=by omega
       have b0:=(hDR.ext.cell (p:=⟨bs,off+i * 2,none⟩) hbs).trans b0
       have b1:=(hDR.ext.cell (p:=⟨bs,off+i * 2+1,none⟩) hbs).trans b1
       obtain ⟨cu,fu⟩:=hDR.cell hLv.len hu
       obtain ⟨cv,fv⟩:=hDR.cell hLv.len hv
       have hu':(u:Int) < (k:Int):=by omega
       have hv':(v:Int) < (k:Int):=by omega
       have hne:bs≠gd:=by have:=hDR.new;omega
       have hne2:gd≠bs:=fun e=>hne e.symm
       have huv1:u≠v:=by omega
       have huv2:v≠u:=by omega
       have HUV:Hid (PD.adj l u v):=.inl (List.mem_of_getElem? hlu)
       have HLU:=Lib.hid hlu
       obtain ⟨du,hdu⟩:∃ x,PD.g d u=x:=⟨_,rfl⟩
       obtain ⟨dv,hdv⟩:∃ x,PD.g d v=x:=⟨_,rfl⟩
       rw [hdu] at cu
       rw [hdv] at cv
       have HDU:=Lib.hid hdu
       have HDV:=Lib.hid hdv
       clear hLv hDR hI hlu hdu hdv
       by_cases p1:du=(r:Int)
       ·have HP1:=Lib.hid p1
        subst p1
        by_cases p2:dv < 0
        ·have HN:Hid (∃ d,PD.Lv k l a r (i+1) d∧DRw w k gd cd d (wr.setCell ⟨gd,v,none⟩ (.int .i64 ((r:Int)+1)))):=by
          have h1:=LV.out.mark hu hv HUV.out HDU.out (by rw [HDV.out];exact p2)
          have hl:=LV.out.len
          exact ⟨_,h1.step HLU.out (fun _=>by rw [PD.g_set_self (by omega)];omega) (fun h=>by rw [PD.g_set_self (by omega)] at h;omega),DR.out.set v _⟩
         have q1:¬ ((r:Int)+1=(r:Int)):=by omega
         go_wp2
         go_roundw
         case rel=>exact ⟨i+1,by omega,by go_num,HN⟩
         case measure=>simp [intOf];omega
        ·by_cases p3:dv=(r:Int)
         ·have HN:Hid (∃ d,PD.Lv k l a r (i+1) d∧DRw w k gd cd d wr):=⟨d,LV.out.step HLU.out (fun _=>by rw [HDV.out];omega) (fun _=>by rw [HDU.out];omega),DR.out⟩
          subst p3
          have q2:¬ ((r:Int) < 0):=by omega
          go_wp2
          go_roundw
          case rel=>exact ⟨i+1,by omega,by go_num,HN⟩
          case measure=>simp [intOf];omega
         ·have HN:Hid (∃ d,PD.Lv k l a r (i+1) d∧DRw w k gd cd d wr):=⟨d,LV.out.step HLU.out (fun _=>by rw [HDV.out];omega) (fun _=>by rw [HDU.out];omega),DR.out⟩
          have q3:(dv == (r:Int))=false:=by simpa using p3
          go_wp2
          go_roundw
          case rel=>exact ⟨i+1,by omega,by go_num,HN⟩
          case measure=>simp [intOf];omega
       ·have q1:(du == (r:Int))=false:=by simpa using p1
        by_cases p3:dv=(r:Int)
        ·subst p3
         by_cases p4:du < 0
         ·have HN:Hid (∃ d,PD.Lv k l a r (i+1) d∧DRw w k gd cd d (wr.setCell ⟨gd,u,none⟩ (.int .i64 ((r:Int)+1)))):=by
           have h1:=LV.out.mark hv hu (PD.adj_symm HUV.out) HDV.out (by rw [HDU.out];exact p4)
           have hl:=LV.out.len
           exact ⟨_,h1.step HLU.out (fun h=>by rw [PD.g_set_self (by omega)] at h;omega) (fun _=>by rw [PD.g_set_self (by omega)];omega),DR.out.set u _⟩
          go_wp2
          go_roundw
          case rel=>exact ⟨i+1,by omega,by go_num,HN⟩
          case measure=>simp [intOf];omega
         ·have HN:Hid (∃ d,PD.Lv k l a r (i+1) d∧DRw w k gd cd d wr):=⟨d,LV.out.step HLU.out (fun h=>absurd (HDU.out.symm.trans h) p1) (fun _=>by rw [HDU.out];omega),DR.out⟩
          go_wp2
          go_roundw
          case rel=>exact ⟨i+1,by omega,by go_num,HN⟩
          case measure=>simp [intOf];omega
        ·have HN:Hid (∃ d,PD.Lv k l a r (i+1) d∧DRw w k gd cd d wr):=⟨d,LV.out.step HLU.out (fun h=>absurd (HDU.out.symm.trans h) p1) (fun h=>absurd (HDV.out.symm.trans h) p3),DR.out⟩
         have q3:(dv == (r:Int))=false:=by simpa using p3
         go_wp2
         go_roundw
         case rel=>exact ⟨i+1,by omega,by go_num,HN⟩
         case measure=>simp [intOf];omega
      ·have e:i=m:=by omega
       subst e
       have HN:Hid (∃ d,PD.Lv k l a (r+1) 0 d∧DRw w k gd cd d wr):=by
        obtain ⟨d,h1,h2⟩:=hI.out
        rw [←HL.out] at h1
        exact ⟨d,h1.next,h2⟩
       go_wp2
       go_roundw
       case rel=>exact ⟨r+1,by omega,by go_num,HN⟩
       case measure=>simp [intOf];omega
    ·have e:r=k:=by omega
     subst e
     obtain ⟨d,h1,h2⟩:=hR.out
     have HP:Hid (FarPost w r l a (.returned (.slice (some ⟨gd,0,none⟩) r cd)) wr):=⟨gd,cd,d,rfl,h1.done,h2⟩
     clear h1 h2
     go_wp2
     go_ret
     exact HP.out
theorem adj_ek {n:Nat} {l:List AK.Ed} {u v:Nat} (hf:Fine n l):PD.adj l u v↔AK.ek u v∈l:=by
 unfold PD.adj AK.ek
 constructor
 ·rintro (h | h)
  ·obtain ⟨i,hi⟩:=List.getElem?_of_mem h
   have:=hf.2 i _ hi
   simp only at this
   rw [show min (u:Int) (v:Int)=u by omega,show max (u:Int) (v:Int)=v by omega];exact h
  ·obtain ⟨i,hi⟩:=List.getElem?_of_mem h
   have:=hf.2 i _ hi
   simp only at this
   rw [show min (u:Int) (v:Int)=v by omega,show max (u:Int) (v:Int)=u by omega];exact h
 ·intro h
  by_cases hle:u≤v
  ·rw [show min (u:Int) (v:Int)=u by omega,show max (u:Int) (v:Int)=v by omega] at h;exact .inl h
  ·rw [show min (u:Int) (v:Int)=v by omega,show max (u:Int) (v:Int)=u by omega] at h;exact .inr h
theorem placeV_pos {l:List AK.Ed} {x:AK.Ed}:decide (0≤RF.placeV (RF.place l x))=decide (x∈l):=by
 cases h:RF.place l x with
 | none=>have:=RF.place_mem.1 h;simp [RF.placeV,this]
 | some i=>have:=List.mem_of_getElem? (RF.place_get h);simp [RF.placeV,this]
def Cand (l:List AK.Ed) (d:List Int) (z c:Nat):Prop:=PD.adj l z c∧PD.g d c=PD.g d z - 1
def Least (n:Nat) (l:List AK.Ed) (d:List Int) (z j:Nat) (nx:Int):Prop:=(nx=-1∧∀ c,j≤c→c < n→¬ Cand l d z c)∨∃ c0:Nat,nx=(c0:Int)∧j≤c0∧c0 < n∧Cand l d z c0∧∀ c,j≤c→c < c0→¬ Cand l d z c
theorem Least.skip {n:Nat} {l:List AK.Ed} {d:List Int} {z c:Nat} {nx:Int} (h:Least n l d z (c+1) nx) (hc:¬ Cand l d z c):Least n l d z c nx:=by
 rcases h with ⟨h1,h2⟩ | ⟨c0,h1,h2,h3,h4,h5⟩
 ·exact .inl ⟨h1,fun c' h h'=>by
   by_cases e:c'=c
   ·subst e;exact hc
   ·exact h2 c' (by omega) h'⟩
 ·exact .inr ⟨c0,h1,by omega,h3,h4,fun c' h h'=>by
   by_cases e:c'=c
   ·subst e;exact hc
   ·exact h5 c' (by omega) h'⟩
theorem Least.take {n:Nat} {l:List AK.Ed} {d:List Int} {z c:Nat} (hn:c < n) (hc:Cand l d z c):Least n l d z c (c:Int):=.inr ⟨c,rfl,Nat.le_refl _,hn,hc,fun c' h h'=>by omega⟩
theorem Least.done {n a:Nat} {l:List AK.Ed} {d:List Int} {z:Nat} {nx:Int} (h:Least n l d z 0 nx) (hd:PD.IsDist n l a d) (hz:z < n) (h0:0 < PD.g d z):∃ c:Nat,nx=(c:Int)∧PD.Next n l d z c:=by
 rcases h with ⟨h1,h2⟩ | ⟨c0,h1,h2,h3,h4,h5⟩
 ·obtain ⟨c,q1,q2,q3⟩:=hd.next hz h0
  exact absurd ⟨q2,q3⟩ (h2 c (Nat.zero_le _) q1)
 ·exact ⟨c0,h1,h3,h4.1,h4.2,fun c' h' hadj he=>h5 c' (Nat.zero_le _) h' ⟨hadj,he⟩⟩
def SoPost (w:World) (k:Nat) (l:List AK.Ed) (x y:Nat) (e:Ending) (w':World):Prop:=
 Ext w w'∧∃ d,PD.IsDist k l y d∧((PD.g d x < 0∧e=.returned (.tuple #[.slice none 0 0,.bool false]))∨
  (0≤PD.g d x∧∃ A c p,e=.returned (.tuple #[.slice A p.length c,.bool true])∧PD.Way k l d x p∧w'.ownsRow 0 3 1 (.slice A p.length c) p.length (natsV p)∧p.length≤100))
set_option maxRecDepth 100000 in
theorem shortof_any (w:World) (k x y:Nat) (A:Option Addr) (m c:Nat) (l:List AK.Ed) (hl:l.length=m) (h:EdsAt w A l) (hf:Fine k l) (hxk:x < k) (hyk:y < k) (hk60:k≤60):
  Calls Tryz.prog 53 #[.int .i64 k,.slice A m c,.int .i64 x,.int .i64 y] w (SoPost w k l x y):=by
 have H:=Lib.hid h
 have HL:=Lib.hid hl
 have HF:=Lib.hid hf
 have hm2:m≤200:=by rw [←hl];exact hf.1
 clear h hl hf
 go_enter Tryz.func53,Tryz.ntmps53
 go_wp2_with fail
 refine (farof_any w k y A m c l HL.out H.out HF.out hyk hk60).mono ?_
 rintro e w3 ⟨gd,cd,d,rfl,hd,hr⟩
 have HX3:Hid (Ext w w3):=hr.ext
 have HD:=Lib.hid hd
 have HR:=Lib.hid hr
 obtain ⟨cx,fx⟩:=hr.cell hd.len hxk
 have hxk':(x:Int) < (k:Int):=by omega
 clear hd hr
 obtain ⟨dx,hdx⟩:∃ z,PD.g d x=z:=⟨_,rfl⟩
 rw [hdx] at cx
 have HDX:=Lib.hid hdx
 clear hdx
 by_cases hneg:dx < 0
 ·have HP:Hid (SoPost w k l x y (.returned (.tuple #[.slice none 0 0,.bool false])) w3):=⟨HX3.out,d,HD.out,.inl ⟨by rw [HDX.out];exact hneg,rfl⟩⟩
  go_wp2
  go_ret2
  exact HP.out
 ·have HW0:Hid (WyR w3 k l d x x (.slice (some ⟨w3.heap.size,0,none⟩) 1 1) (w3.alloc (.cells #[.int .i64 (x:Int)] 3))):=by
   refine ⟨⟨[x],PD.On.start k l d x,by simpa [natsV] using World.ownsRow_lit w3 #[.int .i64 (x:Int)] (e:=3) (size:=1) (base:=0) 1 (Nat.zero_le _) (by unfold maxLen;omega) rfl,?_⟩,fun j hj=>by simp [Value.ownBlock] at hj;omega,Ext.alloc _ _,hxk,by rw [HDX.out];omega⟩
   have:=HD.out.toBase.below hxk
   simp;omega
  go_wp2
  go_loopw [2,11] (fun v2 v11 wr=>∃ z:Nat,v2=.int .i64 z∧Hid (WyR w3 k l d x z v11 wr)) (fun v2 _ _=>(PD.g d (intOf v2).toNat).toNat)
  case atStart=>exact ⟨x,rfl,HW0⟩
  case round=>
   obtain ⟨z,rfl,hW⟩:=hrel
   obtain ⟨vo,hvo⟩:∃ t,t=u11:=⟨_,rfl⟩
   subst hvo
   clear HW0 cx fx
   have hzk:=hW.out.y.1
   have hz0:=hW.out.y.2
   have hzk':(z:Int) < (k:Int):=by omega
   obtain ⟨cz,_⟩:=(HR.out.moved hW.out.ext).cell HD.out.len hzk
   obtain ⟨dz,hdz⟩:∃ t,PD.g d z=t:=⟨_,rfl⟩
   rw [hdz] at cz
   have hdz2:dz≤60:=by rw [←hdz];have:=HD.out.toBase.below hzk;omega
   have HDZ:=Lib.hid hdz
   by_cases hpos:0 < dz
   ·have HPOS:Hid (0 < PD.g d z):=by rw [Hid,hdz];exact hpos
    clear hdz hz0
    have HI0:Hid (WyR w3 k l d x z vo wr∧Least k l d z k (-1)):=⟨hW.out,.inl ⟨rfl,fun c h h'=>by omega⟩⟩
    go_wp2
    clear cz
    obtain ⟨wq,hwq⟩:∃ t,t=wr:=⟨_,rfl⟩
    subst hwq
    clear hW
    go_loopw [12,13] (fun v12 v13 wr=>∃ (j:Nat) (t nx:Int),j≤k∧t+1=(j:Int)∧v12=.int .i64 nx∧v13=.int .i64 t∧Hid (WyR w3 k l d x z vo wr∧Least k l d z j nx)) (fun _ v13 _=>(intOf v13+1).toNat)
    case atStart=>exact ⟨k,_,_,Nat.le_refl _,by omega,rfl,rfl,HI0.out⟩
    case round=>
     obtain ⟨j,t,nx,hjk,htj,rfl,rfl,hI⟩:=hrel
     clear HI0
     by_cases hj0:0≤t
     ·obtain ⟨cc,rfl⟩:=Int.eq_ofNat_of_zero_le hj0
      have hjc:j=cc+1:=by omega
      subst hjc
      clear htj
      have hck:cc < k:=by omega
      have hck':(cc:Int) < (k:Int):=by omega
      have hW:=Lib.hid hI.out.1
      have HLE:=Lib.hid hI.out.2
      obtain ⟨cz,_⟩:=(HR.out.moved hW.out.ext).cell HD.out.len hzk
      obtain ⟨cb,_⟩:=(HR.out.moved hW.out.ext).cell HD.out.len hck
      rw [HDZ.out] at cz
      obtain ⟨db,hdb⟩:∃ t,PD.g d cc=t:=⟨_,rfl⟩
      rw [hdb] at cb
      have HDB:=Lib.hid hdb
      clear hI hdb
      by_cases hE:db=dz - 1
      ·have hwd:IntKind.i64.wrap (dz - 1)=dz - 1:=IntWalk.i64_in _ (by omega)
       subst hE
       go_wp2
       have HED:Hid (EdsAt wr A l):=(H.out.ext HX3.out).ext hW.out.ext
       by_cases hA:AK.ek z cc∈l
       ·have HPV:Hid (decide (0≤RF.placeV (RF.place l (AK.ek z cc)))=true):=by rw [Hid,placeV_pos];simpa using hA
        have HLN:Hid (Least k l d z cc (cc:Int)):=Least.take hck ⟨(adj_ek HF.out).2 hA,by rw [HDB.out,HDZ.out]⟩
        obtain ⟨pv,hpv⟩:∃ t,RF.placeV (RF.place l (AK.ek z cc))=t:=⟨_,rfl⟩
        rw [hpv] at HPV
        have HPVV:=Lib.hid hpv
        have hpv0:(0:Int)≤pv:=by simpa using HPV.out
        have hpv1:=HPV.out
        clear hpv
        first
         | (go_region_with ((go_at_call 99;refine (place_any wr.drew A m c l z cc HL.out (by omega) (HED.out.ext (Ext.drew _))).mono ?_;rintro e w5 ⟨rfl,hb5⟩;rw [HPVV.out];have HE5:Hid (Ext wr w5):=Ext.trans (Ext.drew wr) hb5;have hW5:=Lib.hid (hW.out.moved HE5.out);clear hb5)))
         | fail
        all_goals
         have HN3:Hid (WyR w3 k l d x z vo w5∧Least k l d z cc (cc:Int)):=⟨hW5.out,HLN.out⟩
         clear HLN hW HLE HPV HPVV hW5
         go_wp2
         go_roundw
         case rel=>exact ⟨cc,_,(cc:Int),by omega,by omega,rfl,rfl,HN3.out⟩
         case measure=>simp [intOf] <;> omega
       ·have HPV:Hid (decide (0≤RF.placeV (RF.place l (AK.ek z cc)))=false):=by rw [Hid,placeV_pos];simpa using hA
        have HLN:Hid (Least k l d z cc nx):=HLE.out.skip (fun hc=>hA ((adj_ek HF.out).1 hc.1))
        obtain ⟨pv,hpv⟩:∃ t,RF.placeV (RF.place l (AK.ek z cc))=t:=⟨_,rfl⟩
        rw [hpv] at HPV
        have HPVV:=Lib.hid hpv
        have hpv0:¬ (0:Int)≤pv:=by simpa using HPV.out
        have hpv1:=HPV.out
        clear hpv
        first
         | (go_region_with ((go_at_call 99;refine (place_any wr.drew A m c l z cc HL.out (by omega) (HED.out.ext (Ext.drew _))).mono ?_;rintro e w5 ⟨rfl,hb5⟩;rw [HPVV.out];have HE5:Hid (Ext wr w5):=Ext.trans (Ext.drew wr) hb5;have hW5:=Lib.hid (hW.out.moved HE5.out);clear hb5)))
         | fail
        all_goals
         have HN3:Hid (WyR w3 k l d x z vo w5∧Least k l d z cc nx):=⟨hW5.out,HLN.out⟩
         clear HLN hW HLE HPV HPVV hW5
         go_wp2
         go_roundw
         case rel=>exact ⟨cc,_,nx,by omega,by omega,rfl,rfl,HN3.out⟩
         case measure=>simp [intOf] <;> omega
      ·have hE2:(db == dz - 1)=false:=by simpa using hE
       have HLN:Hid (Least k l d z cc nx):=HLE.out.skip (fun hc=>by rw [Cand,HDB.out,HDZ.out] at hc;exact hE hc.2)
       go_wp2
       go_quiet (fail)
       have HN3:Hid (WyR w3 k l d x z vo (wr.drewN nq)∧Least k l d z cc nx):=⟨hW.out.moved (Ext.drewN _ _),HLN.out⟩
       clear HLN hW HLE
       go_wp2
       go_roundw
       case rel=>exact ⟨cc,_,nx,by omega,by omega,rfl,rfl,HN3.out⟩
       case measure=>simp [intOf] <;> omega
     ·have hj:j=0:=by omega
      have ht:t=-1:=by omega
      subst hj;subst ht
      obtain ⟨c0,hnx,hnext⟩:=hI.out.2.done HD.out hzk HPOS.out
      subst hnx
      have HNX:=Lib.hid hnext
      obtain ⟨out,h1,h2,h3⟩:=hI.out.1.all
      have HO:=Lib.hid h2
      have HON:=Lib.hid h1
      have hol:out.length≤100:=by omega
      have HOL:=Lib.hid h3
      have HWO:=Lib.hid hI.out.1.own
      have HWX:=Lib.hid hI.out.1.ext
      clear h1 h2 h3 hI hnext
      have HO3:Hid ((wr.alloc (.cells #[.int .i64 (c0:Int)] 3)).ownsRow 0 3 1 vo out.length (natsV out)):=own_chg HO.out (Chg.of_below (Ext.alloc wr _)) (fun j hj=>by have:=own_lt HO.out hj;omega)
      have HX6:Hid (Ext w3 (wr.alloc (.cells #[.int .i64 (c0:Int)] 3))):=Ext.trans HWX.out (Ext.alloc _ _)
      have hv:PD.g d c0=dz - 1:=by rw [←HDZ.out];exact HNX.out.val
      have HVV:=Lib.hid hv
      clear HO hv
      go_wp2_with (at_builtin;refine wpList_push _ rfl (.tmp 55) (.tmp 57) 79 rfl 3 (.int .i64 0) 8 Tryz.underlying79 infoI rfl vo out.length (natsV out) rfl HO3.out ⟨by omega,by omega⟩ (.int .i64 (c0:Int)) wr.heap.size rfl (cell_new1 rfl _ _) rfl ?_;intro g2 c2 w6 ho hc hat _;have HW6:=Lib.hid (WyR.push HON.out HOL.out HWO.out HX6.out HPOS.out HNX.out ho hc hat);clear ho hc hat)
      go_roundw
      case rel=>exact ⟨c0,rfl,HW6⟩
      case measure=>simp [intOf,HVV.out,HDZ.out];omega
   ·have e0:dz=0:=by rw [←hdz] at hpos ⊢;omega
    have hzy:z=y:=HD.out.src z hzk (by rw [hdz];exact e0)
    obtain ⟨out,h1,h2,h3⟩:=hW.out.all
    obtain ⟨A11,c11,rfl,_⟩:=own_slice3 h2
    have HP:Hid (SoPost w k l x y (.returned (.tuple #[.slice A11 out.length c11,.bool true])) wr):=
     ⟨Ext.trans HX3.out hW.out.ext,d,HD.out,.inr ⟨by rw [HDX.out];omega,A11,c11,out,rfl,h1.stop (by rw [hdz];exact e0),h2,by omega⟩⟩
    clear h1 h2 h3 hW hdz hz0 hzy
    subst e0
    have hp0:¬ (0:Int) < 0:=by omega
    go_wp2
    go_ret2
    exact HP.out
end Go.Proofs.YtkoajpeabicpdaaGreatDoor
