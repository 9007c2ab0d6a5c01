/-
Edges as bytes, in plain Lean; walk of note.Encode. Condition: the edges lie in memory as 'EdsAt' says.
-/
import Derived.Test.YtkoajpeabicpdaaGreatDoorBs5
import Derived.Test.YtkoajpeabicpdaaGreatDoorBs7
import Derived.Test.YtkoajpeabicpdaaGreatDoorBs8
import Derived.Test.YtkoajpeabicpdaaGreatDoorBs4
import Derived.Test.YtkoajpeabicpdaaGreatDoorBs14
set_option linter.unusedVariables false
set_option maxHeartbeats 8000000
namespace Go.Proofs.YtkoajpeabicpdaaGreatDoor
open Go Go.RowKit
namespace NT
def encP (l:List AK.Ed):List Int:=l.flatMap fun x=>[x.1,x.2]
def encL (n:Int) (l:List AK.Ed):List Int:=n::(l.length:Int)::encP l
theorem encP_len:∀ l:List AK.Ed,(encP l).length=2 * l.length
 | []=>rfl
 | x::r=>by simp only [encP,List.flatMap_cons] at *;have:=encP_len r;simp only [encP] at this;simp [this];omega
theorem encL_len (n:Int) (l:List AK.Ed):(encL n l).length=2+2 * l.length:=by simp [encL,encP_len];omega
theorem encP_snoc (l:List AK.Ed) (x:AK.Ed):encP (l++[x])=encP l++[x.1,x.2]:=by simp [encP]
theorem encP_take {l:List AK.Ed} {i:Nat} {x:AK.Ed} (h:l[i]?=some x):encP (l.take (i+1))=encP (l.take i)++[x.1,x.2]:=by
 rw [List.take_add_one,h];exact encP_snoc _ _
theorem encP_at:∀ {l:List AK.Ed} {i:Nat} {x:AK.Ed},l[i]?=some x→(encP l)[2 * i]?=some x.1∧(encP l)[2 * i+1]?=some x.2
 | y::r,0,x,h=>by
  obtain rfl:y=x:=by simpa using h
  exact ⟨rfl,rfl⟩
 | y::r,i+1,x,h=>by
  have h1:=encP_at (l:=r) (i:=i) (x:=x) (by simpa using h)
  have h2:encP (y::r)=y.1::y.2::encP r:=rfl
  rw [h2,show 2 * (i+1)=2 * i+1+1 by omega]
  simpa using h1
theorem encL_at {n:Int} {l:List AK.Ed} {i:Nat} {x:AK.Ed} (h:l[i]?=some x):(encL n l)[2+2 * i]?=some x.1∧(encL n l)[2+2 * i+1]?=some x.2:=by
 have h1:=encP_at h
 unfold encL
 rw [show 2+2 * i=2 * i+1+1 by omega]
 simpa using h1
end NT
theorem infoU8:(Tryz.prog.info? 5).map (fun i=>(i.zero,i.size,i.bytes))=some (some (.int .u8 0),1,1):=by kernel_rfl
theorem own_blkN {w:World} {base:Nat} {e:TypeId} {size n:Nat} {v:Value} {xs:List Value} (h:w.ownsRow base e size v n xs) {k:Nat} (hk:v.ownBlock=some k):∃ cs,Blk w k e cs:=by
 rcases h.2 with ⟨rfl,_⟩ | ⟨g,cap,cur,rfl,_,hg,_⟩
 ·simp [Value.ownBlock] at hk
 ·simp [Value.ownBlock] at hk;subst hk;exact ⟨_,hg⟩
def EnPost (w:World) (n:Int) (l:List AK.Ed) (e:Ending) (w':World):Prop:=Ext w w'∧
 (((edgF n l).2≠0∧e=.returned (.tuple #[.slice none 0 0,errOf (edgF n l).2]))∨
  ((edgF n l).2=0∧∃ A c,e=.returned (.tuple #[.slice A (2+2 * l.length) c,.nilIface])∧BytesAt w' A (NT.encL n l)∧2+2 * l.length≤c∧c≤maxLen∧∀ x,A=some x→w.heap.size≤x.block∧∃ cs,Blk w' x.block 5 cs))
def EnR (w:World) (n:Int) (l:List AK.Ed) (k:Nat) (A:Option Addr) (c:Nat) (wr:World):Prop:=
 wr.ownsRow 0 5 1 (.slice A (2+2 * k) c) (2+2 * k) ((n::(l.length:Int)::NT.encP (l.take k)).map (Value.int .u8))∧Below w.heap.size w wr∧∀ j,(Value.slice A (2+2 * k) c).ownBlock=some j→w.heap.size≤j
set_option maxRecDepth 100000 in
theorem encode_any (w:World) (n:Int) (A:Option Addr) (m c:Nat) (l:List AK.Ed) (hl:l.length=m) (hm:m≤9223372036854775807) (h:EdsAt w A l):
  Calls Tryz.prog 16 #[.int .i64 n,.slice A m c] w (EnPost w n l):=by
 have H:=Lib.hid h
 have HL:=Lib.hid hl
 have CK:Hid (Calls Tryz.prog 57 #[.int .i64 n,.slice A m c] w (CkPost w (edgF n l))):=check_any w n A m c l hl hm h
 clear h hl
 by_cases hz:(edgF n l).2=0
 ·have HZ:=Lib.hid hz
  have hq:Hid (1≤n∧n≤60∧m≤200):=by have h1:=fine_of hz;have:=HL.out;exact ⟨h1.1,h1.2.1,by omega⟩
  have n1:=hq.out.1
  have n2:=hq.out.2.1
  have m2:=hq.out.2.2
  clear hq
  go_enter Tryz.func16,Tryz.ntmps16
  go_upto_region 2 with fail
  refine CK.out.mono ?_
  rintro e w1 ⟨rfl,hx1⟩
  have HX1:=Lib.hid hx1
  rw [hz]
  have e0:errOf 0=.nilIface:=rfl
  rw [e0]
  clear hz hx1
  go_upto_region 5 with fail
  have HO:Hid ((w1.alloc (.cells #[.int .u8 n,.int .u8 (m:Nat)] 5)).ownsRow 0 5 1 (.slice (some ⟨w1.heap.size,0,none⟩) 2 2) 2 [.int .u8 n,.int .u8 (m:Nat)]):=own_fresh rfl 5 [.int .u8 n,.int .u8 (m:Nat)] (show 2≤maxLen by decide)
  have HBA:Hid (Below w.heap.size w (w1.alloc (.cells #[.int .u8 n,.int .u8 (m:Nat)] 5))):=Ext.trans HX1.out (Ext.alloc _ _)
  have hsz:w.heap.size≤w1.heap.size:=HX1.out.size
  generalize w1.alloc (.cells #[.int .u8 n,.int .u8 (m:Nat)] 5)=w2 at HO HBA ⊢
  go_wp2
  go_loopw [8,28] (fun v8 v28 wr=>∃ (k:Nat) (A8:Option Addr) (c8:Nat),k≤m∧v28=.int .i64 k∧v8=.slice A8 (2+2 * k) c8∧Hid (EnR w n l k A8 c8 wr)) (fun _ v28 _=>m - (intOf v28).toNat)
  case atStart=>exact ⟨0,some ⟨w1.heap.size,0,none⟩,2,by omega,rfl,rfl,by have:=HO.out;have h2:=HL.out;subst h2;exact this,HBA.out,fun j hj=>by simp [Value.ownBlock] at hj;omega⟩
  case round=>
   obtain ⟨k,A8,c8,hk,rfl,rfl,HR⟩:=hrel
   by_cases hkm:k < m
   ·obtain ⟨x,hx⟩:∃ x,l[k]?=some x:=⟨_,List.getElem?_eq_getElem (by have:=HL.out;omega)⟩
    obtain ⟨bs,off,rfl,hbs,hcs⟩:∃ b off,A=some ⟨b,off,none⟩∧b < w.heap.size∧∀ (i:Nat) (x:AK.Ed),l[i]?=some x→w.cell? ⟨b,off+i * 2,none⟩=some (.int .i64 x.1)∧w.cell? ⟨b,off+i * 2+1,none⟩=some (.int .i64 x.2):=by
     rcases H.out with h0 | h0
     ·rw [h0] at hx;simp at hx
     ·exact h0
    have a0:=(HR.out.2.1.cell (p:=⟨bs,off+k * 2,none⟩) hbs).trans (hcs k x hx).1
    have a1:=(HR.out.2.1.cell (p:=⟨bs,off+k * 2+1,none⟩) hbs).trans (hcs k x hx).2
    obtain ⟨x1,x2⟩:=x
    simp only at a0 a1
    have hxr:0≤x1∧x1 < x2∧x2 < n:=(fine_of HZ.out).2.2.2 k _ hx
    have z1:(0:Int)≤x1:=hxr.1
    have z2:x1 < 256:=by omega
    have z3:(0:Int)≤x2:=by omega
    have z4:x2 < 256:=by omega
    have HTK:Hid (NT.encP (l.take (k+1))=NT.encP (l.take k)++[x1,x2]):=NT.encP_take hx
    have k0:(0:Int)≤(k:Int):=by omega
    have k1:(k:Int) < (m:Int):=by omega
    have HRO:Hid ((wr.alloc (.cells #[.int .i64 x1,.int .i64 x2] 93)).ownsRow 0 5 1 (.slice A8 (2+2 * k) c8) (2+2 * k) ((n::(l.length:Int)::NT.encP (l.take k)).map (Value.int .u8))):=own_chg HR.out.1 ((Chg.refl (fun _=>False) _).alloc _) (fun _ _ h=>h)
    have HRB:Hid (Below w.heap.size w (wr.alloc (.cells #[.int .i64 x1,.int .i64 x2] 93))):=HR.out.2.1.alloc HR.out.2.1.size _
    have HRW:=Lib.hid HR.out.2.2
    have DD:=Lib.hid (Blk.new wr 93 #[.int .i64 x1,.int .i64 x2])
    clear hx hcs hxr HR
    go_upto_region 8 with fail
    generalize wr.alloc (.cells #[.int .i64 x1,.int .i64 x2] 93)=w3 at HRO HRB DD ⊢
    have d0:w3.cell? ⟨wr.heap.size,0,none⟩=some (.int .i64 x1):=DD.out.cell 0
    have d1:w3.cell? ⟨wr.heap.size,1,none⟩=some (.int .i64 x2):=DD.out.cell 1
    go_wp2_with (at_builtin;refine wpList_append_rows _ rfl (.tmp 32) (.tmp 39) 38 rfl 5 _ 1 1 Tryz.underlying38 infoU8 rfl (by decide) (.slice A8 (2+2 * k) c8) (2+2 * k) _ rfl (own_chg HRO.out ((Chg.refl (fun _=>False) _).alloc _) (fun _ _ h=>h)) (some ⟨w3.heap.size,0,none⟩) 2 2 [.int .u8 x1,.int .u8 x2] rfl rfl (fun h=>by cases h) (fun ad h=>by injection h with h;subst h;exact news_cells rfl _ _) (by simp [Value.oneCell']) ⟨by omega,by omega⟩ ?_;intro A5 c5 w5 ho5 hc5 hat5;have HO5:=Lib.hid ho5;have HC5:=Lib.hid hc5;have HT5:=Lib.hid hat5;clear ho5 hc5 hat5)
    have hk2:2+2 * k+2=2+2 * (k+1):=by omega
    rw [hk2] at HO5 HT5 ⊢
    have HO6:Hid (w5.ownsRow 0 5 1 (.slice A5 (2+2 * (k+1)) c5) (2+2 * (k+1)) ((n::(l.length:Int)::NT.encP (l.take (k+1))).map (Value.int .u8))):=by
     have:=HO5.out
     unfold Hid;rw [HTK.out];simpa using this
    have HB5:Hid (Below w.heap.size w w5):=(HRB.out.alloc HRB.out.size _).trans (HC5.out.below (HRB.out.alloc HRB.out.size _).size (fun j _ hj=>HRW.out j hj))
    have HG5:Hid (∀ j,(Value.slice A5 (2+2 * (k+1)) c5).ownBlock=some j→w.heap.size≤j):=by
     intro j hj
     rcases HT5.out j hj with h | h
     ·exact HRW.out _ h
     ·have:=HRB.out.size;rw [h];simp;omega
    go_roundw
    case rel=>exact ⟨k+1,A5,c5,by omega,by go_num,rfl,HO6.out,HB5.out,HG5.out⟩
    case measure=>simp [intOf];omega
   ·obtain rfl:k=m:=by omega
    have hlk:Hid (l.length=k):=HL.out
    go_wp2
    go_ret2
    obtain ⟨A9,c9,hv,hle⟩:=own_slice3 HR.out.1
    have hcm:=own_capmax HR.out.1
    injection hv with hA _ hc
    subst hA;subst hc
    refine ⟨HR.out.2.1,.inr ⟨HZ.out,A8,c8,by rw [hlk.out];rfl,?_,by rw [hlk.out];exact hle,hcm,fun x hx=>⟨HR.out.2.2 _ (by subst hx;rfl),own_blkN HR.out.1 (by subst hx;rfl)⟩⟩⟩
    have hb:=bytes_of_own HR.out.1
    rwa [List.take_of_length_le (by rw [hlk.out];exact Nat.le_refl _)] at hb
 ·have HZ:=Lib.hid hz
  obtain ⟨x,hx⟩:∃ x:Int,errOf (edgF n l).2=.iface 52 (.int .i64 x):=⟨_,errOf_ne hz⟩
  have HE:=Lib.hid hx
  go_enter Tryz.func16,Tryz.ntmps16
  go_upto_region 2 with fail
  refine CK.out.mono ?_
  rintro e w1 ⟨rfl,hx1⟩
  have HX1:=Lib.hid hx1
  rw [hx]
  clear hz hx hx1
  go_wp2
  go_ret2
  exact ⟨HX1.out,.inl ⟨HZ.out,by rw [HE.out];rfl⟩⟩
theorem eds_own {w:World} {A:Option Addr} {n c:Nat} {l:List AK.Ed} (h:w.ownsRow 0 93 2 (.slice A n c) n (rowsOf edC l)):EdsAt w A l:=by
 obtain ⟨h1,h2⟩:=h
 rcases h2 with ⟨_,h0⟩ | ⟨g,cap,cur,hv,_,hg,_,_,_,ht⟩
 ·subst h0
  cases l with
  | nil=>left;rfl
  | cons x r=>simp [rowsOf,edC] at h1
 ·injection hv with hA _ _
  have hb:Blk w g 93 cur:=hg
  have key:∀ (j:Nat) (u:Value),(rowsOf edC l)[j]?=some u→w.cell? ⟨g,j,none⟩=some u:=fun j u hu=>by
   rw [hb.cell,←Array.getElem?_toList]
   rw [←ht,List.getElem?_take] at hu
   split at hu
   ·exact hu
   ·simp at hu
  refine .inr ⟨g,0,hA,(Array.getElem?_eq_some_iff.1 hg).1,fun i x hx=>?_⟩
  have r0:=key _ _ (rowsOf_get (f:=edC) (S:=2) (fun a _=>edC_len a) hx (j:=0) rfl)
  have r1:=key _ _ (rowsOf_get (f:=edC) (S:=2) (fun a _=>edC_len a) hx (j:=1) rfl)
  rw [Nat.zero_add]
  exact ⟨r0,r1⟩
def DcNo (w:World) (e:Ending) (w':World):Prop:=e=.returned (.tuple #[.int .i64 0,.slice none 0 0,errOf 5])∧Ext w w'
set_option maxRecDepth 100000 in
theorem decode_bad (w:World) (A:Option Addr) (m c:Nat) (xs:List Int) (hl:xs.length=m) (hm:m≤maxLen) (h:BytesAt w A xs) (hb:∀ x∈xs,0≤x∧x < 256)
  (hs:m < 2∨∃ v,xs[1]?=some v∧(m:Int)≠2+2 * v):
  Calls Tryz.prog 20 #[.slice A m c] w (DcNo w):=by
 have hm':(m:Int)≤9223372036854775807:=by simp only [maxLen] at hm;omega
 by_cases h2:(m:Int) < 2
 ·clear hs h hb hm
  go_enter Tryz.func20,Tryz.ntmps20
  go_wp2
  go_ret3
  exact ⟨rfl,Ext.refl _⟩
 ·obtain ⟨v,hv,hne⟩:=hs.resolve_left (by omega)
  obtain ⟨b,off,rfl,hlt,c1⟩:=h.at_ hv
  have hv1:=hb v (List.mem_of_getElem? hv)
  have v0:=hv1.1
  have v1:=hv1.2
  have h1m:(1:Int) < (m:Int):=by omega
  clear hs h hb hm hv hv1
  go_enter Tryz.func20,Tryz.ntmps20
  go_wp2
  go_ret3
  exact ⟨rfl,Ext.refl _⟩
def DcR (w:World) (l:List AK.Ed) (j:Nat) (A:Option Addr) (c:Nat) (wr:World):Prop:=
 wr.ownsRow 0 93 2 (.slice A j c) j (rowsOf edC (l.take j))∧Below w.heap.size w wr∧∀ i,(Value.slice A j c).ownBlock=some i→w.heap.size≤i
def DcPost (w:World) (a:Int) (l:List AK.Ed) (e:Ending) (w':World):Prop:=Ext w w'∧
 (((edgF a l).2≠0∧e=.returned (.tuple #[.int .i64 0,.slice none 0 0,errOf 5]))∨
  ((edgF a l).2=0∧∃ A c,e=.returned (.tuple #[.int .i64 a,.slice A l.length c,.nilIface])∧EdsAt w' A l))
set_option maxRecDepth 100000 in
theorem decode_enc (w:World) (A:Option Addr) (m c k:Nat) (a:Int) (l:List AK.Ed) (hk:l.length=k) (hk2:k≤255) (hm:m=2+2 * k) (h:BytesAt w A (NT.encL a l)) (ha:0≤a∧a < 256) (hb:∀ x∈l,0≤x.1∧x.1 < 256∧0≤x.2∧x.2 < 256):
  Calls Tryz.prog 20 #[.slice A m c] w (DcPost w a l):=by
 have hca:(NT.encL a l)[0]?=some a:=rfl
 have hck:(NT.encL a l)[1]?=some (k:Int):=by rw [←hk];rfl
 obtain ⟨b,off,rfl,hlt,c0⟩:=h.at_ hca
 have c1:w.cell? ⟨b,off+1,none⟩=some (.int .u8 (k:Nat)):=by
  obtain ⟨b',off',e,_,c1⟩:=h.at_ hck
  injection e with e;injection e with e1 e2;subst e1;subst e2;exact c1
 have HP:Hid (∀ (i:Nat) (x:AK.Ed),l[i]?=some x→w.cell? ⟨b,off+(2+2 * i),none⟩=some (.int .u8 x.1)∧w.cell? ⟨b,off+(2+2 * i+1),none⟩=some (.int .u8 x.2)):=by
  intro i x hx
  have h1:=NT.encL_at (n:=a) hx
  obtain ⟨b1,off1,e1,_,p1⟩:=h.at_ h1.1
  obtain ⟨b2,off2,e2,_,p2⟩:=h.at_ h1.2
  injection e1 with e1;injection e1 with e11 e12;subst e11;subst e12
  injection e2 with e2;injection e2 with e21 e22;subst e21;subst e22
  exact ⟨p1,p2⟩
 have HB:=Lib.hid hb
 have HK:=Lib.hid hk
 have a0:=ha.1
 have a1:=ha.2
 rw [Nat.add_zero] at c0
 have hmi:(m:Int)=2+2 * (k:Int):=by omega
 have hm2:¬ (m:Int) < 2:=by omega
 have hm1:(1:Int) < (m:Int):=by omega
 have hm0:(0:Int) < (m:Int):=by omega
 have hmm:(m:Int)≤600:=by omega
 have HM:=Lib.hid hm
 clear h hb hk ha hca hck hm
 go_enter Tryz.func20,Tryz.ntmps20
 go_wp2
 clear hmi
 go_loopw [5,6] (fun v5 v6 wr=>∃ (j i:Nat) (A5:Option Addr) (c5:Nat),Hid (i=2+2 * j∧j≤k)∧v6=.int .i64 (i:Nat)∧v5=.slice A5 j c5∧Hid (DcR w l j A5 c5 wr)) (fun _ v6 _=>m - (intOf v6).toNat)
 case atStart=>exact ⟨0,2,none,0,⟨by omega,Nat.zero_le _⟩,rfl,rfl,World.ownsRow_nil _ _ _ _,Below.refl _ _,fun j hj=>by simp [Value.ownBlock] at hj⟩
 case round=>
  obtain ⟨j,i,A5,c5,hi,rfl,rfl,HR⟩:=hrel
  have hi1:=hi.out.1
  have hi2:=hi.out.2
  have hmm2:=HM.out
  by_cases hj:j < k
  ·obtain ⟨x,hx⟩:∃ x,l[j]?=some x:=⟨_,List.getElem?_eq_getElem (by have:=HK.out;omega)⟩
   have hxb:=HB.out x (List.mem_of_getElem? hx)
   have p1:=(HR.out.2.1.cell (p:=⟨b,off+(2+2 * j),none⟩) hlt).trans (HP.out j x hx).1
   have p2:=(HR.out.2.1.cell (p:=⟨b,off+(2+2 * j+1),none⟩) hlt).trans (HP.out j x hx).2
   rw [←hi1] at p1 p2
   obtain ⟨x1,x2⟩:=x
   simp only at p1 p2 hxb
   have b1:=hxb.1
   have b2:=hxb.2.1
   have b3:=hxb.2.2.1
   have b4:=hxb.2.2.2
   have HTK:Hid (rowsOf edC (l.take (j+1))=rowsOf edC (l.take j)++edC (x1,x2)):=by
    unfold Hid;rw [List.take_add_one,hx,rowsOf_app];simp [rowsOf]
   have z0:(0:Int)≤(i:Int):=by omega
   have z1:(i:Int) < (m:Int):=by omega
   have z2:(i:Int)+1 < (m:Int):=by omega
   have z3:(i:Int)≤600:=by omega
   have hjl:j≤1000:=by omega
   have zw:IntKind.i64.wrap ((i:Int)+1)=(i:Int)+1:=IntWalk.i64_in _ (by omega)
   have y1:IntKind.i64.wrap x1=x1:=IntWalk.i64_in _ (by omega)
   have y2:IntKind.i64.wrap x2=x2:=IntWalk.i64_in _ (by omega)
   have z5:(0:Int)≤(i:Int)+1:=by omega
   have zt:((i:Int)+1).toNat=i+1:=by omega
   have HL:=Lib.hid hlt
   have HJ:Hid (i+2=2+2 * (j+1)∧j+1≤k):=⟨by omega,by omega⟩
   have HSTEP:Hid (∀ (g9 c9:Nat) (w9:World),w9.ownsRow 0 93 2 (.slice (some ⟨g9,0,none⟩) (j+1) c9) (j+1) (rowsOf edC (l.take j)++[.int .i64 x1,.int .i64 x2])→Chg (fun k=>(Value.slice A5 j c5).ownBlock=some k) (wr.alloc (.cells #[.int .i64 x1,.int .i64 x2] 93)).drew w9→((Value.slice A5 j c5).ownBlock=some g9∨g9=(wr.alloc (.cells #[.int .i64 x1,.int .i64 x2] 93)).drew.heap.size)→DcR w l (j+1) (some ⟨g9,0,none⟩) c9 w9):=by
    intro g9 c9 w9 ho9 hc9 hg9
    have hsz:w.heap.size≤(wr.alloc (.cells #[.int .i64 x1,.int .i64 x2] 93)).drew.heap.size:=(HR.out.2.1.alloc HR.out.2.1.size _).size
    refine ⟨by rw [HTK.out];exact ho9,(HR.out.2.1.alloc HR.out.2.1.size _).trans (Chg.below (Chg.undrew hc9) hsz (fun i _ hi=>HR.out.2.2 i hi)),fun i hi=>?_⟩
    simp [Value.ownBlock] at hi
    subst hi
    rcases hg9 with h | h
    ·exact HR.out.2.2 _ h
    ·rw [h];exact hsz
   have HKEEP:Hid (∀ (o:Nat) (x:Int) (w9:World),Chg (fun k=>(Value.slice A5 j c5).ownBlock=some k) (wr.alloc (.cells #[.int .i64 x1,.int .i64 x2] 93)).drew w9→wr.cell? ⟨b,o,none⟩=some (.int .u8 x)→w9.cell? ⟨b,o,none⟩=some (.int .u8 x)):=by
    intro o x w9 hc9 hp
    have hb2:b < wr.heap.size:=Nat.lt_of_lt_of_le hlt HR.out.2.1.size
    have h2:=((Below.refl wr.heap.size wr).alloc (Nat.le_refl _) (.cells #[.int .i64 x1,.int .i64 x2] 93)).cell (p:=⟨b,o,none⟩) hb2
    refine (hc9.cell (p:=⟨b,o,none⟩) ?_ (fun h=>by have h3:=HR.out.2.2 _ h;simp only at h3;omega)).trans (h2.trans hp)
    simp;omega
   clear hx hxb hi hi1 hi2 hmm2
   go_wp2_with fail
   go_region_held3 (fun w'=>w'.cell? ⟨b,off+i,none⟩=some (.int .u8 x1)∧w'.cell? ⟨b,off+(i+1),none⟩=some (.int .u8 x2)) (go_keep)
    (go_loud (refine step_pushS _ (by rfl) (.tmp 30) (.tmp 43) 47 (by rfl) 93 (.agg #[.int .i64 0,.int .i64 0]) 2 16 Tryz.underlying47 infoEdge (by rfl) (by decide) (.slice A5 j c5) j _ (by rfl) (own_drew (own_chg HR.out.1 ((Chg.refl (fun _=>False) _).alloc _) (fun _ _ h=>h))) ⟨by omega,by omega⟩ [.int .i64 x1,.int .i64 x2] wr.heap.size (by rfl) (by rfl) (news_cells rfl [.int .i64 x1,.int .i64 x2] _) (by simp [Value.oneCell']) ?_;intro g9 c9 w9 ho9 hc9 hg9;have HN:=Lib.hid (HSTEP.out g9 c9 w9 ho9 hc9 hg9);have q1:w9.cell? ⟨b,off+i,none⟩=some (.int .u8 x1):=HKEEP.out _ _ w9 hc9 p1;have q2:w9.cell? ⟨b,off+(i+1),none⟩=some (.int .u8 x2):=HKEEP.out _ _ w9 hc9 p2;clear ho9 hc9 hg9))
   go_wp2
   go_roundw
   case rel=>exact ⟨j+1,i+2,_,_,HJ.out,by go_num,rfl,HN.out⟩
   case measure=>simp [intOf];omega
  ·obtain rfl:j=k:=by omega
   have him:i=m:=by omega
   subst him
   obtain ⟨hrow,hbel,hown⟩:=HR.out
   rw [List.take_of_length_le (by rw [HK.out];exact Nat.le_refl _)] at hrow
   have HE:=Lib.hid (eds_own hrow)
   have HBEL:=Lib.hid hbel
   have cc0:=(hbel.cell (p:=⟨b,off,none⟩) hlt).trans c0
   have hj9:j≤9223372036854775807:=by omega
   have CK:Hid (Calls Tryz.prog 57 #[.int .i64 a,.slice A5 j c5] wr (CkPost wr (edgF a l))):=check_any wr a A5 j c5 l HK.out hj9 HE.out
   have CC:Hid (∀ w':World,Ext wr w'→w'.cell? ⟨b,off,none⟩=some (.int .u8 a)):=fun w' h=>(h.cell (p:=⟨b,off,none⟩) (Nat.lt_of_lt_of_le hlt HBEL.out.size)).trans cc0
   clear hrow hbel hown hi hi1 hi2 hmm2 HR c0 c1
   go_wp2_with fail
   refine CK.out.mono ?_
   rintro e w1 ⟨rfl,hx1⟩
   have HX1:=Lib.hid hx1
   have cc1:=CC.out w1 hx1
   clear hx1
   by_cases hz:(edgF a l).2=0
   ·have HZ:=Lib.hid hz
    rw [hz,errOf_0]
    clear hz
    go_wp2
    go_ret3
    exact ⟨Ext.trans HBEL.out HX1.out,.inr ⟨HZ.out,A5,c5,by rw [HK.out];rfl,HE.out.ext HX1.out⟩⟩
   ·have HZ:=Lib.hid hz
    rw [errOf_ne hz]
    clear hz
    go_wp2
    go_ret3
    exact ⟨Ext.trans HBEL.out HX1.out,.inl ⟨HZ.out,rfl⟩⟩
end Go.Proofs.YtkoajpeabicpdaaGreatDoor
namespace Go.Proofs.YtkoajpeabicpdaaGreatDoor
open Go
theorem efGo_none {c:Nat→Int}:∀ {f i:Nat},(∀ j,i≤j→j < i+f→c j=0)→(efGo c f i).2=0
 | 0,i,h=>rfl
 | f+1,i,h=>by
  rw [efGo_ok (h i (Nat.le_refl _) (by omega))]
  exact efGo_none fun j h1 h2=>h j (by omega) (by omega)
theorem edgF_iff {n:Int} {l:List AK.Ed}:(edgF n l).2=0↔1≤n∧n≤60∧l.length≤200∧(∀ x∈l,0≤x.1∧x.1 < x.2∧x.2 < n)∧l.Pairwise ltE:=by
 unfold edgF
 by_cases h1:n < 1∨60 < n
 ·rw [if_pos h1];simp;omega
 rw [if_neg h1]
 by_cases h2:200 < l.length
 ·rw [if_pos h2];simp;omega
 rw [if_neg h2]
 have key:(efGo (eCode n l) l.length 0).2=0↔∀ j,j < l.length→eCode n l j=0:=by
  constructor
  ·intro h j hj
   generalize hc:eCode n l=c at *
   have:∀ (f i:Nat),(efGo c f i).2=0→∀ j,i≤j→j < i+f→c j=0:=by
    intro f
    induction f with
    | zero=>intro i _ j h1 h2;omega
    | succ f ih=>
     intro i h j h1 h2
     by_cases e:c i=0
     ·rw [efGo_ok e] at h
      by_cases q:j=i
      ·subst q;exact e
      ·exact ih (i+1) h j (by omega) (by omega)
     ·rw [efGo_bad rfl e] at h
      exact absurd h e
   exact this l.length 0 h j (Nat.zero_le _) (by omega)
  ·intro h;exact efGo_none fun j _ h2=>h j (by omega)
 rw [key]
 constructor
 ·intro h
  have h3:∀ x∈l,0≤x.1∧x.1 < x.2∧x.2 < n:=fun x hx=>by
   obtain ⟨i,hi,rfl⟩:=List.getElem_of_mem hx
   have hx':l[i]?=some l[i]:=List.getElem?_eq_getElem hi
   have:=h i hi
   apply Classical.byContradiction
   intro w
   rw [eCode_bad hx' (by omega)] at this
   exact absurd this (by decide)
  refine ⟨by omega,by omega,by omega,h3,?_⟩
  rw [List.pairwise_iff_getElem]
  have step:∀ j (hj:j+1 < l.length),ltE (l[j]'(by omega)) l[j+1]:=fun j hj=>by
   have hx:l[j+1]?=some l[j+1]:=List.getElem?_eq_getElem hj
   have hy:l[j]?=some (l[j]'(by omega)):=List.getElem?_eq_getElem (by omega)
   have hok:=h3 l[j+1] (List.getElem_mem hj)
   have:=h (j+1) hj
   apply Classical.byContradiction
   intro w
   rw [eCode_2 hx hy (by omega) (by unfold ltE at w;omega)] at this
   exact absurd this (by decide)
  intro i j hi hj hij
  obtain ⟨d,rfl⟩:∃ d,j=i+1+d:=⟨j - (i+1),by omega⟩
  induction d with
  | zero=>exact step i hj
  | succ d ih=>exact ltE_trans (ih (by omega) (by omega)) (step (i+1+d) (by omega))
 ·rintro ⟨_,_,_,h3,h4⟩ j hj
  rw [List.pairwise_iff_getElem] at h4
  have hx:l[j]?=some l[j]:=List.getElem?_eq_getElem hj
  have hok:=h3 l[j] (List.getElem_mem hj)
  cases j with
  | zero=>exact eCode_0 hx (by omega)
  | succ j=>
   have hy:l[j]?=some (l[j]'(by omega)):=List.getElem?_eq_getElem (by omega)
   have:=h4 j (j+1) (by omega) hj (by omega)
   exact eCode_ok hx hy (by omega) (by unfold ltE at this;omega)
end Go.Proofs.YtkoajpeabicpdaaGreatDoor
