/-
An edge as a value. No conditions.
-/
import Derived.Test.YtkoajpeabicpdaaGreatDoorRows
import Derived.Test.YtkoajpeabicpdaaGreatDoorBs2
import Derived.Test.YtkoajpeabicpdaaGreatDoorBs1
import Derived.WalkKit
import Derived.ProofKit
import Derived.WalkSpells
import Derived.Lib.Hide
import Derived.Outline
import Derived.RegionTactic
import Derived.BigRegion
import Derived.Deep.QuietTactic
import Derived.BigQuiet
import Derived.Deep.DeepFit
import Derived.Deep.DeepCutAuto
import Derived.Deep.CutBlock
import Derived.StillTailTactics
import Derived.Deep.RegionHeld3
import Derived.Laws.AppendOwnNone
import Derived.Deep.DrawnRows
import Derived.Deep.LoopGhost
import Derived.Deep.Slices
import Derived.Below
import Derived.Test.YtkoajpeabicpdaaGreatDoorBs4
import Derived.Test.YtkoajpeabicpdaaGreatDoorBs3
set_option linter.unusedVariables false
set_option maxHeartbeats 8000000
namespace Go.Proofs.YtkoajpeabicpdaaGreatDoor
open Go Go.RowKit
abbrev edV (x:AK.Ed):Value:=.agg #[.int .i64 x.1,.int .i64 x.2]
theorem ed_ret {x y a b:Int} (h1:x=min a b) (h2:y=max a b):Ending.returned (.agg #[.int .i64 x,.int .i64 y])=.returned (edV (AK.ek a b)):=by subst h1;subst h2;rfl
open Go.ChangeShapes Go.WideShapes
namespace RF
def place:List AK.Ed→AK.Ed→Option Nat
 | [],_=>none
 | y::r,x=>if y=x then some 0 else (place r x).map (·+1)
def placeV:Option Nat→Int
 | none=>-1
 | some i=>(i:Int)
theorem place_some {x:AK.Ed}:∀ {l:List AK.Ed} {i:Nat},l[i]?=some x→(∀ j,j < i→l[j]?≠some x)→place l x=some i
 | [],i,h,_=>by simp at h
 | y::r,0,h,_=>by simp at h;simp [place,h]
 | y::r,i+1,h,hn=>by
  have h0:=hn 0 (by omega)
  simp at h0 h
  rw [place,if_neg h0,place_some h (fun j hj=>by have:=hn (j+1) (by omega);simpa using this)];rfl
theorem place_none {x:AK.Ed}:∀ {l:List AK.Ed},(∀ j,j < l.length→l[j]?≠some x)→place l x=none
 | [],_=>rfl
 | y::r,hn=>by
  have h0:=hn 0 (by simp)
  simp at h0
  rw [place,if_neg h0,place_none (fun j hj=>by have:=hn (j+1) (by simp;omega);simpa using this)];rfl
theorem place_get {x:AK.Ed}:∀ {l:List AK.Ed} {i:Nat},place l x=some i→l[i]?=some x
 | [],i,h=>by simp [place] at h
 | y::r,i,h=>by
  rw [place] at h
  split at h
  ·injection h with h;subst h;rename_i e;simp [e]
  ·cases hp:place r x with
   | none=>rw [hp] at h;simp at h
   | some j=>rw [hp] at h;simp at h;subst h;simpa using place_get hp
theorem place_mem {x:AK.Ed}:∀ {l:List AK.Ed},place l x=none↔x ∉ l
 | []=>by simp [place]
 | y::r=>by
  rw [place]
  split
  ·rename_i e;simp [e]
  ·rename_i e
   rw [Option.map_eq_none_iff,place_mem]
   simp [Ne.symm e]
end RF
def EdsAt (w:World) (A:Option Addr) (l:List AK.Ed):Prop:=l=[]∨∃ b off,A=some ⟨b,off,none⟩∧b < w.heap.size∧∀ (i:Nat) (x:AK.Ed),l[i]?=some x→w.cell? ⟨b,off+i * 2,none⟩=some (.int .i64 x.1)∧w.cell? ⟨b,off+i * 2+1,none⟩=some (.int .i64 x.2)
theorem EdsAt.chg {S:Nat→Prop} {w w':World} {A:Option Addr} {l:List AK.Ed} (h:EdsAt w A l) (hc:Chg S w w') (hn:l≠[]→∀ x,A=some x→¬ S x.block):EdsAt w' A l:=by
 by_cases h0:l=[]
 ·exact .inl h0
 rcases h with h | ⟨b,off,rfl,hb,he⟩
 ·exact absurd h h0
 ·have hs:¬ S b:=hn h0 _ rfl
  exact .inr ⟨b,off,rfl,Nat.lt_of_lt_of_le hb hc.size,fun i e h=>⟨(hc.cell (p:=⟨b,_,none⟩) hb hs).trans (he i e h).1,(hc.cell (p:=⟨b,_,none⟩) hb hs).trans (he i e h).2⟩⟩
theorem EdsAt.ext {w w':World} {A:Option Addr} {l:List AK.Ed} (h:EdsAt w A l) (hb:Below w.heap.size w w'):EdsAt w' A l:=by
 rcases h with h | ⟨b,off,rfl,hl,he⟩
 ·exact .inl h
 ·exact EdsAt.chg (.inr ⟨b,off,rfl,hl,he⟩) (Chg.of_below hb) (by rintro _ x hx;injection hx with hx;subst hx;simp only;omega)
def edC (x:AK.Ed):List Value:=[.int .i64 x.1,.int .i64 x.2]
theorem edC_len (x:AK.Ed):(edC x).length=2:=rfl
theorem infoEdge:(Tryz.prog.info? 93).map (fun i=>(i.zero,i.size,i.bytes))=some (some (.agg #[.int .i64 0,.int .i64 0]),2,16):=by kernel_rfl
def DRow (w:World) (v:Value) (l:List AK.Ed):Prop:=w.ownsRow 0 93 2 v l.length (rowsOf edC l)
theorem edC_one {l:List AK.Ed}:∀ u∈rowsOf edC l,u.oneCell'=true:=by
 intro u hu
 unfold rowsOf at hu
 rw [List.mem_flatMap] at hu
 obtain ⟨e,_,h⟩:=hu
 simp [edC] at h
 rcases h with rfl | rfl <;> rfl
theorem DRow.eds {w:World} {A:Option Addr} {n c:Nat} {l:List AK.Ed} (h:DRow w (.slice A n c) l) (hn:l.length=n):EdsAt w A l∧n≤c:=by
 unfold DRow at h
 rw [hn] at h
 rcases Nat.eq_zero_or_pos n with h0 | h0
 ·exact ⟨.inl (List.eq_nil_of_length_eq_zero (by omega)),by omega⟩
 obtain ⟨g,cap,hv,hc,_⟩:=own_form h h0
 simp only [Value.slice.injEq,true_and] at hv
 obtain ⟨rfl,rfl⟩:=hv
 refine ⟨.inr ⟨g,0,rfl,own_lt h (by simp [Value.ownBlock]),fun i x hx=>?_⟩,hc⟩
 have hi:i < n:=by have:=(List.getElem?_eq_some_iff.1 hx).1;omega
 have key:∀ j v,(edC x)[j]?=some v→w.cell? ⟨g,i * 2+j,none⟩=some v:=fun j v hv=>by
  have hj:j < 2:=(List.getElem?_eq_some_iff.1 hv).1
  rw [World.ownsRow.cellAt h (i * 2+j) (by omega)]
  exact rowsOf_get (f:=edC) (S:=2) (fun a _=>edC_len a) hx hv
 refine ⟨?_,?_⟩
 ·have:=key 0 _ rfl;simpa using this
 ·have:=key 1 _ rfl;simpa [Nat.add_assoc] using this
theorem EdsAt.cells {w:World} {b off:Nat} {l:List AK.Ed} (he:∀ (i:Nat) (x:AK.Ed),l[i]?=some x→w.cell? ⟨b,off+i * 2,none⟩=some (.int .i64 x.1)∧w.cell? ⟨b,off+i * 2+1,none⟩=some (.int .i64 x.2)) (k d:Nat):∀ j u,(rowsOf edC ((l.drop k).take d))[j]?=some u→w.cell? ((⟨b,off+k * 2,none⟩:Addr).add j)=some u:=by
 intro j u hj
 rw [Addr.add_mid]
 have hlt:=(List.getElem?_eq_some_iff.1 hj).1
 rw [rowsOf_len (f:=edC) (S:=2) (fun a _=>edC_len a)] at hlt
 have hi:j / 2 < ((l.drop k).take d).length:=by omega
 obtain ⟨e,hee⟩:∃ e,((l.drop k).take d)[j / 2]?=some e:=⟨_,List.getElem?_eq_getElem hi⟩
 have hee':l[k+j / 2]?=some e:=by
  rw [List.getElem?_take] at hee
  split at hee
  ·rwa [List.getElem?_drop] at hee
  ·cases hee
 obtain ⟨h0,h1⟩:=he _ _ hee'
 have hm:j=j / 2 * 2+j % 2:=by omega
 have key:∀ v,(edC e)[j % 2]?=some v→u=v:=fun v hv=>by
  have:=rowsOf_get (f:=edC) (S:=2) (fun a _=>edC_len a) hee hv
  rw [←hm,hj] at this
  exact Option.some.inj this
 have hr:j % 2=0∨j % 2=1:=by omega
 rcases hr with hr | hr
 ·rw [key (.int .i64 e.1) (by rw [hr];rfl),←h0];congr 2;omega
 ·rw [key (.int .i64 e.2) (by rw [hr];rfl),←h1];congr 2;omega
theorem rof_any (w:World) (a b:Int):
  Calls Tryz.prog 138 #[.int .i64 a,.int .i64 b] w fun e w'=>e=.returned (edV (AK.ek a b))∧Below w.heap.size w w':=by
 by_cases h:a < b
 ·go_enter Tryz.func138,Tryz.ntmps138
  go_wp2
  exact bodyPost_ret (v:=.agg #[.int .i64 a,.int .i64 b]) (by simp [results,Tryz.results138,go_sem]) rfl ⟨ed_ret (by omega) (by omega),(Below.refl _ _).alloc (Nat.le_refl _) _⟩
 ·go_enter Tryz.func138,Tryz.ntmps138
  go_wp2
  exact bodyPost_ret (v:=.agg #[.int .i64 b,.int .i64 a]) (by simp [results,Tryz.results138,go_sem]) rfl ⟨ed_ret (by omega) (by omega),(Below.refl _ _).alloc (Nat.le_refl _) _⟩
theorem place_any (w:World) (A:Option Addr) (n c:Nat) (l:List AK.Ed) (a b:Int) (hl:l.length=n) (hn:n≤1000000) (h:EdsAt w A l):
  Calls Tryz.prog 99 #[.slice A n c,.int .i64 a,.int .i64 b] w fun e w'=>e=.returned (.int .i64 (RF.placeV (RF.place l (AK.ek a b))))∧Below w.heap.size w w':=by
 have H:=Lib.hid h
 have HL:=Lib.hid hl
 clear h hl
 go_enter Tryz.func99,Tryz.ntmps99
 go_wp2_with fail
 refine (rof_any w a b).mono ?_
 rintro e w1 ⟨rfl,hb1⟩
 have hS:=hb1.size
 have BL:Hid (Blk (w1.alloc (.cells #[.int .i64 (AK.ek a b).1,.int .i64 (AK.ek a b).2] 93)) w1.heap.size 93 #[.int .i64 (AK.ek a b).1,.int .i64 (AK.ek a b).2]):=Blk.new _ _ _
 have B1:Hid (Below w.heap.size w (w1.alloc (.cells #[.int .i64 (AK.ek a b).1,.int .i64 (AK.ek a b).2] 93))):=hb1.alloc hS _
 obtain ⟨x,hx⟩:∃ x,x=AK.ek a b:=⟨_,rfl⟩
 rw [←hx] at BL B1 ⊢
 obtain ⟨x1,x2⟩:=x
 have HXX:=Lib.hid hx
 clear hx hb1
 go_wp2
 go_loopw [8] (fun v wr=>∃ k:Nat,k≤n∧v=.int .i64 k∧Hid ((∀ j,j < k→l[j]?≠some (x1,x2))∧Blk wr w1.heap.size 93 #[.int .i64 x1,.int .i64 x2]∧Below w.heap.size w wr)) (fun v _=>n - (intOf v).toNat)
 case atStart=>exact ⟨0,by omega,rfl,fun j hj=>absurd hj (Nat.not_lt_zero _),BL.out,B1.out⟩
 case round=>
  obtain ⟨k,hk,rfl,HR⟩:=hrel
  by_cases hlt:k < n
  ·obtain ⟨y,hy⟩:∃ y,l[k]?=some y:=⟨_,List.getElem?_eq_getElem (by have:=HL.out;omega)⟩
   rcases (H.out.ext (HR.out.2.2)) with h0 | ⟨bb,off,rfl,hbl,hev⟩
   ·rw [h0] at hy;simp at hy
   obtain ⟨e1,e2⟩:=hev k y hy
   obtain ⟨y1,y2⟩:=y
   simp only at e1 e2
   have HY:=Lib.hid hy
   have f0:wr.cell? ⟨w1.heap.size,0,none⟩=some (.int .i64 x1):=HR.out.2.1.cell 0
   have f1:wr.cell? ⟨w1.heap.size,1,none⟩=some (.int .i64 x2):=HR.out.2.1.cell 1
   have z0:(0:Int)≤(k:Int):=by omega
   have z1:(k:Int) < (n:Int):=by omega
   clear hev hy
   by_cases q1:y1=x1
   ·have q1':(y1 == x1)=true:=by simpa using q1
    have Q1:=Lib.hid q1
    clear q1
    by_cases q2:y2=x2
    ·have q2':(y2 == x2)=true:=by simpa using q2
     have HF:Hid (RF.placeV (RF.place l (x1,x2))=(k:Int)):=by unfold Hid;rw [RF.place_some (i:=k) (by rw [HY.out,Q1.out,q2]) HR.out.1];rfl
     clear q2
     go_wp2
     go_quiet (fail)
     go_wp2
     go_ret
     exact ⟨by rw [←HXX.out,HF.out];rfl,below_drewN' HR.out.2.2 _⟩
    ·have q2':(y2 == x2)=false:=by simpa using q2
     have HN:Hid (∀ j,j < k+1→l[j]?≠some (x1,x2)):=fun j hj=>by
      by_cases e:j=k
      ·subst e;rw [HY.out];intro h;injection h with h;exact q2 (Prod.mk.inj h).2
      ·exact HR.out.1 j (by omega)
     clear q2
     go_wp2
     go_quiet (fail)
     go_wp2
     go_roundw
     case rel=>exact ⟨k+1,by omega,by go_num,HN.out,HR.out.2.1.drewN _,below_drewN' HR.out.2.2 _⟩
     case measure=>simp [intOf];omega
   ·have q1':(y1 == x1)=false:=by simpa using q1
    have HN:Hid (∀ j,j < k+1→l[j]?≠some (x1,x2)):=fun j hj=>by
     by_cases e:j=k
     ·subst e;rw [HY.out];intro h;injection h with h;exact q1 (Prod.mk.inj h).1
     ·exact HR.out.1 j (by omega)
    clear q1
    go_wp2
    go_quiet (fail)
    go_wp2
    go_roundw
    case rel=>exact ⟨k+1,by omega,by go_num,HN.out,HR.out.2.1.drewN _,below_drewN' HR.out.2.2 _⟩
    case measure=>simp [intOf];omega
  ·have HF:Hid (RF.placeV (RF.place l (x1,x2))=-1):=by unfold Hid;rw [RF.place_none (fun j hj=>HR.out.1 j (by have:=HL.out;omega))];rfl
   go_wp2
   go_ret
   exact ⟨by rw [←HXX.out,HF.out];rfl,HR.out.2.2⟩
end Go.Proofs.YtkoajpeabicpdaaGreatDoor
namespace Go.Proofs.YtkoajpeabicpdaaGreatDoor
open Go Go.RowKit
def eCode (n:Int) (l:List AK.Ed) (i:Nat):Int:=match l[i]? with
 | none=>0
 | some x=>if x.1 < 0∨x.2≤x.1∨n≤x.2 then 1 else match i with
  | 0=>0
  | j+1=>match l[j]? with
   | none=>0
   | some y=>if x.1 < y.1∨(x.1=y.1∧x.2≤y.2) then 2 else 0
def efGo (c:Nat→Int):Nat→Nat→Int × Int
 | 0,_=>(0,0)
 | f+1,i=>if c i=0 then efGo c f (i+1) else ((i:Int),c i)
def edgF (n:Int) (l:List AK.Ed):Int × Int:=if n < 1∨60 < n then (0,1) else if 200 < l.length then (0,3) else efGo (eCode n l) l.length 0
theorem efGo_ok {c:Nat→Int} {f i:Nat} (h:c i=0):efGo c (f+1) i=efGo c f (i+1):=by simp [efGo,h]
theorem efGo_bad {c:Nat→Int} {f i:Nat} {x:Int} (h:c i=x) (hx:x≠0):efGo c (f+1) i=((i:Int),x):=by simp [efGo,h,hx]
def errOf (x:Int):Value:=if x=0 then .nilIface else .iface 52 (.int .i64 x)
theorem eCode_bad {n:Int} {l:List AK.Ed} {i:Nat} {x:AK.Ed} (hx:l[i]?=some x) (h:x.1 < 0∨x.2≤x.1∨n≤x.2):eCode n l i=1:=by simp only [eCode,hx];rw [if_pos h]
theorem eCode_0 {n:Int} {l:List AK.Ed} {x:AK.Ed} (hx:l[0]?=some x) (h:¬ (x.1 < 0∨x.2≤x.1∨n≤x.2)):eCode n l 0=0:=by simp only [eCode,hx];rw [if_neg h]
theorem eCode_2 {n:Int} {l:List AK.Ed} {j:Nat} {x y:AK.Ed} (hx:l[j+1]?=some x) (hy:l[j]?=some y) (h:¬ (x.1 < 0∨x.2≤x.1∨n≤x.2)) (h2:x.1 < y.1∨(x.1=y.1∧x.2≤y.2)):eCode n l (j+1)=2:=by simp only [eCode,hx,hy];rw [if_neg h,if_pos h2]
theorem eCode_ok {n:Int} {l:List AK.Ed} {j:Nat} {x y:AK.Ed} (hx:l[j+1]?=some x) (hy:l[j]?=some y) (h:¬ (x.1 < 0∨x.2≤x.1∨n≤x.2)) (h2:¬ (x.1 < y.1∨(x.1=y.1∧x.2≤y.2))):eCode n l (j+1)=0:=by simp only [eCode,hx,hy];rw [if_neg h,if_neg h2]
def CkPost (w:World) (r:Int × Int) (e:Ending) (w':World):Prop:=e=.returned (.tuple #[.int .i64 r.1,errOf r.2])∧Ext w w'
set_option maxRecDepth 100000 in
theorem check_any (w:World) (n:Int) (A:Option Addr) (len c:Nat) (l:List AK.Ed) (hl:l.length=len) (hlm:len≤9223372036854775807) (h:EdsAt w A l):
  Calls Tryz.prog 57 #[.int .i64 n,.slice A len c] w (CkPost w (edgF n l)):=by
 have H:=Lib.hid h
 have HL:=Lib.hid hl
 clear h hl
 by_cases h1:n < 1
 ·have hp:Hid (edgF n l=(0,1)):=by unfold Hid edgF;rw [if_pos (.inl h1)]
  go_enter Tryz.func57,Tryz.ntmps57
  go_wp2
  go_ret2
  exact ⟨by rw [hp.out];rfl,Ext.refl _⟩
 by_cases h2:60 < n
 ·have hp:Hid (edgF n l=(0,1)):=by unfold Hid edgF;rw [if_pos (.inr h2)]
  go_enter Tryz.func57,Tryz.ntmps57
  go_wp2
  go_ret2
  exact ⟨by rw [hp.out];rfl,Ext.refl _⟩
 by_cases h3:200 < len
 ·have hp:Hid (edgF n l=(0,3)):=by unfold Hid edgF;rw [if_neg (by omega),HL.out,if_pos h3]
  have h3':(200:Int) < (len:Int):=by omega
  go_enter Tryz.func57,Tryz.ntmps57
  go_wp2
  go_ret2
  exact ⟨by rw [hp.out];rfl,Ext.refl _⟩
 have hp:Hid (edgF n l=efGo (eCode n l) len 0):=by unfold Hid edgF;rw [if_neg (by omega),HL.out,if_neg h3]
 have h3':¬ (200:Int) < (len:Int):=by omega
 clear h3
 go_enter Tryz.func57,Tryz.ntmps57
 go_wp2
 go_loopw [21] (fun v wr=>∃ i:Nat,i≤len∧v=.int .i64 i∧Hid (Ext w wr∧edgF n l=efGo (eCode n l) (len - i) i)) (fun v _=>len - (intOf v).toNat)
 case atStart=>exact ⟨0,by omega,rfl,Ext.refl _,hp.out⟩
 case round=>
  obtain ⟨i,hi,rfl,hR⟩:=hrel
  clear hp
  have HE:Hid (Ext w wr):=hR.out.1
  have HF:Hid (edgF n l=efGo (eCode n l) (len - i) i):=hR.out.2
  clear hR
  by_cases hil:i < len
  ·have hil':(i:Int) < (len:Int):=by omega
   have hi0:(0:Int)≤(i:Int):=by omega
   obtain ⟨f,hf⟩:∃ f,len - i=f+1:=⟨len - i - 1,by omega⟩
   rw [hf] at HF
   obtain ⟨x,hx⟩:∃ x,l[i]?=some x:=⟨_,List.getElem?_eq_getElem (by rw [HL.out];exact hil)⟩
   obtain ⟨bs,off,rfl,hbs,hcs⟩:∃ b off,A=some ⟨b,off,none⟩∧b < w.heap.size∧∀ (i:Nat) (x:AK.Ed),l[i]?=some x→w.cell? ⟨b,off+i * 2,none⟩=some (.int .i64 x.1)∧w.cell? ⟨b,off+i * 2+1,none⟩=some (.int .i64 x.2):=by
    rcases H.out with h0 | h0
    ·rw [h0] at hx;simp at hx
    ·exact h0
   have a0:=(HE.out.cell (p:=⟨bs,off+i * 2,none⟩) hbs).trans (hcs i x hx).1
   have a1:=(HE.out.cell (p:=⟨bs,off+i * 2+1,none⟩) hbs).trans (hcs i x hx).2
   have HX:=Lib.hid hx
   have HCS:=Lib.hid hcs
   have HN:Hid (Ext w (wr.alloc (.cells #[.int .i64 x.1,.int .i64 x.2] 93))):=Ext.trans HE.out (Ext.alloc _ _)
   obtain ⟨x1,x2⟩:=x
   simp only at a0 a1 HN
   clear hx hcs
   by_cases c1:x1 < 0
   ·have HP:Hid (edgF n l=((i:Int),1)):=by rw [Hid,HF.out];exact efGo_bad (eCode_bad HX.out (.inl c1)) (by decide)
    clear HF
    go_wp2
    go_ret2
    exact ⟨by rw [HP.out];rfl,HN.out⟩
   by_cases c2:x2≤x1
   ·have HP:Hid (edgF n l=((i:Int),1)):=by rw [Hid,HF.out];exact efGo_bad (eCode_bad HX.out (.inr (.inl c2))) (by decide)
    clear HF
    go_wp2
    go_ret2
    exact ⟨by rw [HP.out];rfl,HN.out⟩
   by_cases c3:n≤x2
   ·have HP:Hid (edgF n l=((i:Int),1)):=by rw [Hid,HF.out];exact efGo_bad (eCode_bad HX.out (.inr (.inr c3))) (by decide)
    clear HF
    go_wp2
    go_ret2
    exact ⟨by rw [HP.out];rfl,HN.out⟩
   have HOK:Hid (¬ (x1 < 0∨x2≤x1∨n≤x2)):=by unfold Hid;omega
   by_cases hz:i=0
   ·subst hz
    have b0:wr.cell? ⟨bs,off,none⟩=some (.int .i64 x1):=by simpa using a0
    have b1:wr.cell? ⟨bs,off+1,none⟩=some (.int .i64 x2):=by simpa using a1
    have HP:Hid (edgF n l=efGo (eCode n l) f (0+1)):=by rw [Hid,HF.out];exact efGo_ok (eCode_0 HX.out HOK.out)
    clear HF a0 a1
    go_wp2
    go_quiet (fail)
    have HN2:Hid (Ext w ((wr.alloc (.cells #[.int .i64 x1,.int .i64 x2] 93)).drewN nq)):=Ext.trans HN.out (Ext.drewN _ _)
    go_wp2
    go_roundw
    case rel=>exact ⟨1,by omega,by rfl,HN2.out,by rw [HP.out,show len - 1=f by omega]⟩
    case measure=>simp [intOf];omega
   ·obtain ⟨j,hj⟩:∃ j,j=i - 1:=⟨_,rfl⟩
    have hji:i=j+1:=by omega
    obtain ⟨y,hy⟩:∃ y,l[j]?=some y:=⟨_,List.getElem?_eq_getElem (by rw [HL.out];omega)⟩
    have p0:=(HE.out.cell (p:=⟨bs,off+j * 2,none⟩) hbs).trans (HCS.out j y hy).1
    have p1:=(HE.out.cell (p:=⟨bs,off+j * 2+1,none⟩) hbs).trans (HCS.out j y hy).2
    have hbr:bs < wr.heap.size:=Nat.lt_of_lt_of_le hbs HE.out.size
    have p0:=fun o=>((Ext.alloc wr o).cell (p:=⟨bs,off+j * 2,none⟩) hbr).trans p0
    have p1:=fun o=>((Ext.alloc wr o).cell (p:=⟨bs,off+j * 2+1,none⟩) hbr).trans p1
    have HY:=Lib.hid hy
    obtain ⟨y1,y2⟩:=y
    simp only at p0 p1
    have hip:decide (0 < i)=true:=by simp;omega
    have hij:(i:Int) - 1=(j:Int):=by omega
    have hjl:(j:Int) < (len:Int):=by omega
    have hwj:IntKind.i64.wrap ((i:Int) - 1)=(j:Int):=(IntWalk.i64_in _ (by omega)).trans hij
    have HXI:Hid (l[j+1]?=some (x1,x2)):=by rw [Hid,←hji];exact HX.out
    have HJI:=Lib.hid hji
    clear hy hj hji
    by_cases d1:x1 < y1
    ·have HP:Hid (edgF n l=((i:Int),2)):=by rw [Hid,HF.out];exact efGo_bad (by rw [HJI.out];exact eCode_2 HXI.out HY.out HOK.out (.inl d1)) (by decide)
     have e1:decide (x1 < y1)=true:=by simpa using d1
     clear HF
     go_wp2
     go_quiet (fail)
     have HN2:Hid (Ext w ((wr.alloc (.cells #[.int .i64 x1,.int .i64 x2] 93)).drewN nq)):=Ext.trans HN.out (Ext.drewN _ _)
     go_wp2
     go_ret2
     exact ⟨by rw [HP.out];rfl,HN2.out⟩
    have e1:decide (x1 < y1)=false:=by simpa using d1
    by_cases d2:x1=y1
    ·have e2:decide (x1=y1)=true:=by simpa using d2
     by_cases d3:x2≤y2
     ·have HP:Hid (edgF n l=((i:Int),2)):=by rw [Hid,HF.out];exact efGo_bad (by rw [HJI.out];exact eCode_2 HXI.out HY.out HOK.out (.inr ⟨d2,d3⟩)) (by decide)
      clear HF
      subst d2
      go_wp2
      go_quiet (fail)
      have HN2:Hid (Ext w ((wr.alloc (.cells #[.int .i64 x1,.int .i64 x2] 93)).drewN nq)):=Ext.trans HN.out (Ext.drewN _ _)
      go_wp2
      go_ret2
      exact ⟨by rw [HP.out];rfl,HN2.out⟩
     ·have HP:Hid (edgF n l=efGo (eCode n l) f (i+1)):=by rw [Hid,HF.out];exact efGo_ok (by rw [HJI.out];exact eCode_ok HXI.out HY.out HOK.out (by simp only at *;omega))
      clear HF
      subst d2
      go_wp2
      go_quiet (fail)
      have HN2:Hid (Ext w ((wr.alloc (.cells #[.int .i64 x1,.int .i64 x2] 93)).drewN nq)):=Ext.trans HN.out (Ext.drewN _ _)
      go_wp2
      go_roundw
      case rel=>exact ⟨i+1,by omega,by go_num,HN2.out,by rw [HP.out,show len - (i+1)=f by omega]⟩
      case measure=>simp [intOf];omega
    ·have e2:decide (x1=y1)=false:=by simpa using d2
     have e3:(x1 == y1)=false:=by simpa using d2
     have HP:Hid (edgF n l=efGo (eCode n l) f (i+1)):=by rw [Hid,HF.out];exact efGo_ok (by rw [HJI.out];exact eCode_ok HXI.out HY.out HOK.out (by simp only at *;omega))
     clear HF
     go_wp2
     go_quiet (fail)
     have HN2:Hid (Ext w ((wr.alloc (.cells #[.int .i64 x1,.int .i64 x2] 93)).drewN nq)):=Ext.trans HN.out (Ext.drewN _ _)
     go_wp2
     go_roundw
     case rel=>exact ⟨i+1,by omega,by go_num,HN2.out,by rw [HP.out,show len - (i+1)=f by omega]⟩
     case measure=>simp [intOf];omega
  ·have e:i=len:=by omega
   subst e
   have HP:Hid (edgF n l=(0,0)):=by rw [Hid,HF.out,Nat.sub_self];rfl
   clear HF
   go_wp2
   go_ret2
   exact ⟨by rw [HP.out];rfl,HE.out⟩
theorem efGo_zero {c:Nat→Int}:∀ {f i:Nat},(efGo c f i).2=0→∀ j,i≤j→j < i+f→c j=0
 | 0,i,_,j,h1,h2=>by omega
 | f+1,i,h,j,h1,h2=>by
  by_cases h0:c i=0
  ·rw [efGo_ok h0] at h
   by_cases e:j=i
   ·rw [e];exact h0
   ·exact efGo_zero h j (by omega) (by omega)
  ·rw [efGo_bad rfl h0] at h
   exact absurd h h0
theorem fine_of {n:Int} {l:List AK.Ed} (h:(edgF n l).2=0):1≤n∧n≤60∧l.length≤200∧∀ (i:Nat) (x:AK.Ed),l[i]?=some x→0≤x.1∧x.1 < x.2∧x.2 < n:=by
 unfold edgF at h
 by_cases h1:n < 1∨60 < n
 ·rw [if_pos h1] at h;simp at h
 ·rw [if_neg h1] at h
  by_cases h2:200 < l.length
  ·rw [if_pos h2] at h;simp at h
  ·rw [if_neg h2] at h
   refine ⟨by omega,by omega,by omega,fun i x hx=>?_⟩
   have hi:=(List.getElem?_eq_some_iff.1 hx).1
   have hc:=efGo_zero h i (Nat.zero_le _) (by omega)
   by_cases hb:x.1 < 0∨x.2≤x.1∨n≤x.2
   ·rw [eCode_bad hx hb] at hc;omega
   ·omega
theorem errOf_0:errOf 0=.nilIface:=rfl
theorem errOf_ne {x:Int} (h:x≠0):errOf x=.iface 52 (.int .i64 x):=by simp [errOf,h]
theorem dg_one:∀ d,d < 10→(⟨#[48,49,50,51,52,53,54,55,56,57]⟩:ByteArray).extract d (d+1)=⟨#[UInt8.ofNat (48+d)]⟩:=by
 intro d hd
 have:d=0∨d=1∨d=2∨d=3∨d=4∨d=5∨d=6∨d=7∨d=8∨d=9:=by omega
 rcases this with rfl | rfl | rfl | rfl | rfl | rfl | rfl | rfl | rfl | rfl <;> rfl
end Go.Proofs.YtkoajpeabicpdaaGreatDoor
