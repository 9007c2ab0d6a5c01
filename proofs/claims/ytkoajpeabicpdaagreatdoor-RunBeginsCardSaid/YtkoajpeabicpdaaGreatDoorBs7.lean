/-
Rows of integers of one's own; edges that may be, as they lie. No conditions.
-/
import Derived.Test.YtkoajpeabicpdaaGreatDoorBs5
import Derived.Test.YtkoajpeabicpdaaGreatDoorBs4
import Derived.Test.YtkoajpeabicpdaaGreatDoorBs2
import Derived.Test.YtkoajpeabicpdaaGreatDoorBs6
import Derived.Laws.MakeOwn
set_option linter.unusedVariables false
set_option maxHeartbeats 8000000
namespace Go.Proofs.YtkoajpeabicpdaaGreatDoor
open Go Go.RowKit
theorem infoI:(Tryz.prog.info? 3).map (fun i=>(i.zero,i.size,i.bytes))=some (some (.int .i64 0),1,8):=by kernel_rfl
def intsV (d:List Int):List Value:=d.map (Value.int .i64)
def Fine (n:Nat) (l:List AK.Ed):Prop:=l.length≤200∧∀ (i:Nat) (x:AK.Ed),l[i]?=some x→0≤x.1∧x.1 < x.2∧x.2 < n
structure DRw (w:World) (n gd c:Nat) (d:List Int) (wr:World):Prop where
 row:wr.ownsRow 0 3 1 (.slice (some ⟨gd,0,none⟩) n c) n (intsV d)
 ext:Ext w wr
 new:w.heap.size≤gd
theorem DRw.cell {w wr:World} {n gd c v:Nat} {d:List Int} (h:DRw w n gd c d wr) (hd:d.length=n) (hv:v < n):wr.cell? ⟨gd,v,none⟩=some (.int .i64 (PD.g d v))∧wr.frozen? ⟨gd,v,none⟩=false:=by
 refine ⟨?_,h.row.frozenAt _⟩
 rw [h.row.cellAt v (by omega),intsV,List.getElem?_map,List.getElem?_eq_getElem (by omega)]
 simp [PD.g,List.getD_eq_getElem?_getD,List.getElem?_eq_getElem (show v < d.length by omega)]
theorem DRw.set {w wr:World} {n gd c:Nat} {d:List Int} (h:DRw w n gd c d wr) (v:Nat) (x:Int):DRw w n gd c (d.set v x) (wr.setCell ⟨gd,v,none⟩ (.int .i64 x)):=by
 refine ⟨?_,(((Chg.of_below h.ext).setCell (p:=⟨gd,v,none⟩) (fun _=>h.new) _)).below (Nat.le_refl _) (fun _ _ h=>h),h.new⟩
 have:=(h.row.stored v (.int .i64 x)).1
 rw [intsV,List.map_set]
 exact this
theorem DRw.moved {w wr w':World} {n gd c:Nat} {d:List Int} (h:DRw w n gd c d wr) (hx:Ext wr w'):DRw w n gd c d w':=
 ⟨own_chg h.row (Chg.of_below hx) (fun k hk=>by have:=own_lt h.row hk;omega),Ext.trans h.ext hx,h.new⟩
theorem edge_at {w:World} {A:Option Addr} {l:List AK.Ed} {n m i:Nat} (h:EdsAt w A l) (hl:l.length=m) (hf:Fine n l) (him:i < m):∃ bs off,A=some ⟨bs,off,none⟩∧bs < w.heap.size∧∃ u v:Nat,l[i]?=some ((u:Int),(v:Int))∧u < v∧v < n∧w.cell? ⟨bs,off+i * 2,none⟩=some (.int .i64 u)∧w.cell? ⟨bs,off+i * 2+1,none⟩=some (.int .i64 v):=by
 obtain ⟨x,hx⟩:∃ x,l[i]?=some x:=⟨_,List.getElem?_eq_getElem (by omega)⟩
 rcases h with h | ⟨b,off,rfl,hb,hc⟩
 ·rw [h] at hx;simp at hx
 ·obtain ⟨h1,h2,h3⟩:=hf.2 i x hx
  obtain ⟨u,hu⟩:=Int.eq_ofNat_of_zero_le h1
  obtain ⟨v,hv⟩:=Int.eq_ofNat_of_zero_le (show 0≤x.2 by omega)
  have:=hc i x hx
  rw [hu,hv] at this
  exact ⟨b,off,rfl,hb,u,v,by rw [hx,←hu,←hv],by omega,by omega,this.1,this.2⟩
def BesOf (n:Nat) (l:List AK.Ed) (N:Nat→List Nat):Prop:=∀ v,v < n→∀ x,x∈N v↔(x < n∧PD.adj l v x)
def FarPost (w:World) (n:Nat) (l:List AK.Ed) (a:Nat) (e:Ending) (w':World):Prop:=∃ gd c d,e=.returned (.slice (some ⟨gd,0,none⟩) n c)∧PD.IsDist n l a d∧DRw w n gd c d w'
theorem run_append_off {P:Program} (w:World) (t ty e:TypeId) (i:TypeInfo) (ht:P.underlying t=some (.slice e)) (hi:P.info? e=some i) (hs:i.size=1)
  (g off sLen sCap:Nat) (cur:Array Value) (hg:w.heap[g]?=some (.cells cur e (0,0)))
  (B c:Nat) (u:Value) (hnews:w.cell? ⟨B,0,none⟩=some u) (h1:u.oneCell'=true)
  (hroom:sLen+1≤sCap) (hfit:off+sLen+1≤cur.size):
  (Builtin.append_ #[t,t] ty #[.slice (some ⟨g,off,none⟩) sLen sCap,.slice (some ⟨B,0,none⟩) 1 c]).run P w=
   .ok (.slice (some ⟨g,off,none⟩) (sLen+1) sCap) (w.setRow g (cur.toList.take (off+sLen)++[u]++cur.toList.drop (off+sLen+1)).toArray):=by
 have hf:=run_firstCells_some (P:=P) w 1 1 ⟨B,0,none⟩ 1 c [u] (by simp) (fun j x hj=>by
  match j,hj with
  | 0,hj=>simp at hj;subst hj;rw [Addr.add_mid];exact hnews)
 have hst:=run_storeCells_at P g (off+sLen) e [u] 0 cur w hg (by simpa using hfit) (by simpa using h1)
 simp only [Nat.add_zero] at hst
 simp [Builtin.append_,run_underlying ht,sizeOf,typeInfo,hi,hs,Builtin.lenOf,hroom,hf,Addr.add_lit,hst]
def natsV (q:List Nat):List Value:=q.map fun (x:Nat)=>.int .i64 (x:Int)
def QwAt (w:World) (v:Value) (q:List Nat):Prop:=∃ g off cap cur,v=.slice (some ⟨g,off,none⟩) q.length cap∧w.heap[g]?=some (.cells cur 3 (0,0))∧q.length≤cap∧cap≤maxLen∧off+cap≤cur.size∧∀ (j x:Nat),q[j]?=some x→cur[off+j]?=some (.int .i64 (x:Int))
theorem QwAt.chg {S:Nat→Prop} {w w':World} {v:Value} {q:List Nat} (h:QwAt w v q) (hc:Chg S w w') (hn:∀ k,v.ownBlock=some k→¬ S k):QwAt w' v q:=by
 obtain ⟨g,off,cap,cur,rfl,h1,h2⟩:=h
 exact ⟨g,off,cap,cur,rfl,(hc.block g (Array.getElem?_eq_some_iff.1 h1).1 (hn g rfl)).trans h1,h2⟩
theorem QwAt.lt {w:World} {v:Value} {q:List Nat} (h:QwAt w v q) {k:Nat} (hk:v.ownBlock=some k):k < w.heap.size:=by
 obtain ⟨g,off,cap,cur,rfl,h1,h2⟩:=h
 simp [Value.ownBlock] at hk;subst hk
 exact (Array.getElem?_eq_some_iff.1 h1).1
theorem QwAt.one (w:World) (x:Nat):QwAt (w.alloc (.cells #[.int .i64 (x:Int)] 3)) (.slice (some ⟨w.heap.size,0,none⟩) 1 1) [x]:=
 ⟨w.heap.size,0,1,_,rfl,heap_alloc_new w _,Nat.le_refl _,by unfold maxLen;omega,by simp,fun j y hj=>by
  match j,hj with
  | 0,hj=>simp at hj;subst hj;rfl⟩
theorem QwAt.pop {w:World} {A:Option Addr} {m c:Nat} {x:Nat} {q:List Nat} (h:QwAt w (.slice A m c) (x::q)):∃ g off,A=some ⟨g,off,none⟩∧m=q.length+1∧m≤c∧c≤maxLen∧w.cell? ⟨g,off,none⟩=some (.int .i64 (x:Int))∧QwAt w (.slice (if c=1 then some ⟨g,off,none⟩ else some ⟨g,off+1,none⟩) (m - 1) (c - 1)) q:=by
 obtain ⟨g,off,cap,cur,hv,h1,h2,h3,h4,h5⟩:=h
 simp only [Value.slice.injEq] at hv
 obtain ⟨rfl,rfl,rfl⟩:=hv
 refine ⟨g,off,rfl,rfl,h2,h3,?_,?_⟩
 ·rw [cell_of_row w g off cur _ (0,0) h1];exact h5 0 x rfl
 ·simp only [List.length_cons] at h2 ⊢
  by_cases hc:c=1
  ·rw [if_pos hc]
   have hq:q=[]:=List.eq_nil_of_length_eq_zero (by omega)
   subst hq;subst hc
   exact ⟨g,off,0,cur,by simp,h1,by simp,by omega,by omega,fun j y hj=>by simp at hj⟩
  ·rw [if_neg hc]
   exact ⟨g,off+1,c - 1,cur,by simp,h1,by omega,by omega,by omega,fun j y hj=>by rw [show off+1+j=off+(j+1) by omega];exact h5 (j+1) y hj⟩
theorem QwAt.form {w:World} {v:Value} {q:List Nat} (h:QwAt w v q):∃ A c,v=.slice A q.length c∧q.length≤c∧c≤maxLen:=by
 obtain ⟨g,off,cap,cur,rfl,h1,h2,h3,_⟩:=h
 exact ⟨_,cap,rfl,h2,h3⟩
theorem run_qpush (w:World) (ty:TypeId) {v:Value} {q:List Nat} (h:QwAt w v q) (hq:q.length≤100000) (B x:Nat) (hB:w.cell? ⟨B,0,none⟩=some (.int .i64 (x:Int))):
  ∃ v' w',(Builtin.append_ #[79,79] ty #[v,.slice (some ⟨B,0,none⟩) 1 1]).run Tryz.prog w=.ok v' w'∧QwAt w' v' (q++[x])∧Chg (fun k=>v.ownBlock=some k) w w'∧(v'.ownBlock=v.ownBlock∨v'.ownBlock=some w.heap.size):=by
 obtain ⟨i,hi,hz0,hz1,hz2⟩:=info_parts infoI
 obtain ⟨g,off,cap,cur,rfl,h1,h2,h3,h4,h5⟩:=h
 by_cases hroom:q.length+1≤cap
 ·refine ⟨_,_,run_append_off w 79 ty 3 i Tryz.underlying79 hi hz1 g off q.length cap cur h1 B 1 _ hB rfl hroom (by omega),⟨g,off,cap,_,by simp,setRow_heap w g cur _ _ _ h1,by simpa using hroom,h3,?_,?_⟩,?_,.inl rfl⟩
  ·simp;omega
  ·intro j y hj
   rw [List.getElem?_toArray]
   have hlt:off+q.length+1≤cur.toList.length:=by simp;omega
   by_cases hjq:j < q.length
   ·rw [List.getElem?_append_left hjq] at hj
    rw [List.append_assoc,List.getElem?_append_left (by simp;omega),List.getElem?_take,if_pos (by omega),Array.getElem?_toList]
    exact h5 j y hj
   ·have hj2:j=q.length:=by
     have:=(List.getElem?_eq_some_iff.1 hj).1
     simp at this;omega
    subst hj2
    rw [List.getElem?_append_right (Nat.le_refl _)] at hj
    simp at hj;subst hj
    rw [List.append_assoc,List.getElem?_append_right (by simp;omega)]
    simp only [List.length_take,Array.length_toList]
    rw [show off+q.length - min (off+q.length) cur.size=0 by simp at hlt;omega];rfl
  ·exact ⟨rfl,rfl,rfl,by simp,fun k _ hk=>setRow_other w g k _ (fun e=>hk (by simp [Value.ownBlock,e]))⟩
 ·have hnl:(natsV q).length=q.length * i.size:=by simp [natsV,hz1]
  have holds:∀ j u,(natsV q)[j]?=some u→w.cell? ((⟨g,off,none⟩:Addr).add j)=some u:=fun j u hj=>by
   simp only [natsV,List.getElem?_map,Option.map_eq_some_iff] at hj
   obtain ⟨y,hy,rfl⟩:=hj
   rw [Addr.add_mid,cell_of_row w g (off+j) cur _ (0,0) h1];exact h5 j y hy
  have hb:(q.length+1) * i.bytes≤140737488355328:=by rw [hz2];omega
  have hr:=run_append_grow (P:=Tryz.prog) w 79 ty 3 i (.int .i64 0) Tryz.underlying79 hi hz0 ⟨g,off,none⟩ q.length cap (natsV q) hnl holds ⟨B,0,none⟩ 1 1 [.int .i64 (x:Int)] (by simp [hz1]) (fun j u hj=>by
   match j,hj with
   | 0,hj=>simp at hj;subst hj;rw [Addr.add_mid];exact hB) (by omega) (by omega) (growslice_fits (by omega) hb)
  have hge:=grownCap_ge w (q.length+1) cap 3
  refine ⟨_,_,hr,⟨w.heap.size,0,grownCap w (q.length+1) cap 3,_,by simp,heap_alloc_new w.drew _,by simpa using hge,grownCap_le_maxLen w (q.length+1) cap _ (by unfold maxLen;omega),?_,?_⟩,?_,.inr rfl⟩
  ·simp [natsV,size_zeroCells,Value.cells];omega
  ·intro j y hj
   have hjl:=(List.getElem?_eq_some_iff.1 hj).1
   simp at hjl
   have e:(natsV q).toArray++#[Value.int .i64 (x:Int)]=(natsV (q++[x])).toArray:=by simp [natsV]
   rw [show ([Value.int .i64 (x:Int)]:List Value).toArray=#[Value.int .i64 (x:Int)] from rfl,e,Nat.zero_add,Array.getElem?_append_left (by simp [natsV];omega),List.getElem?_toArray]
   simp only [natsV,List.getElem?_map,hj];rfl
  ·exact (((Chg.refl _ w).drew).alloc _)
theorem wpList_qpush (w:World) {ops:Array Oper} {rest:List Oper} {o:Oper} {a:Act} {Q:Exit→Act→World→Prop} (hgd:o.guard=none) (s x:Operand)
  (ho:o.op=.call { callee:=.builtin .append,args:=#[s,x],argTypes:=#[79,79] })
  (v:Value) (q:List Nat) (hs:a.eval s=v) (h:QwAt w v q) (hq:q.length≤100000) (B y:Nat) (hx:a.eval x=.slice (some ⟨B,0,none⟩) 1 1) (hB:w.cell? ⟨B,0,none⟩=some (.int .i64 (y:Int)))
  (hk:∀ v' w',QwAt w' v' (q++[y])→Chg (fun k=>v.ownBlock=some k) w w'→(v'.ownBlock=v.ownBlock∨v'.ownBlock=some w.heap.size)→wpList Tryz.prog ops Q rest (a.put o.dst v') w'):wpList Tryz.prog ops Q (o::rest) a w:=by
 refine wpList_plain hgd fun K hK=>?_
 obtain ⟨v',w',hr,h2,h3,h4⟩:=run_qpush w o.type h hq B y hB
 unfold Oper.wp execOp
 simp only [ho,resolve,invoke,builtin,Sem.run_bind,Sem.run_pure,Result.andThen_ok,List.map_toArray,List.map_cons,List.map_nil,hs,hx,hr]
 exact hK _ _ (hk v' w' h2 h3 h4)
theorem run_ints (n:Nat) (h:n≤1000):∃ cs:Array Value,cs.toList=List.replicate n (Value.int .i64 0)∧∀ w:World,
  (Instr.makeSlice 79 (.int .i64 (n:Int)) (.int .i64 (n:Int))).run Tryz.prog w=.ok (.slice (some ⟨w.heap.size,0,none⟩) n n) (w.alloc (.cells cs 3)):=by
 obtain ⟨i,hi,hz0,hz1,hz2⟩:=info_parts infoI
 refine ⟨madeCells (Value.int .i64 0).cells (n * i.size),?_,fun w=>?_⟩
 ·rw [hz1];show (madeCells #[Value.int .i64 0] (n * 1)).toList=_;rw [toList_madeCells_one];simp
 ·have:=run_make w 79 3 i _ Tryz.underlying79 hi hz0 .i64 .i64 (n:Int) (n:Int) (by omega) (Int.le_refl _) (by rw [hz2];omega) (by omega)
  simpa using this
structure BesAt (w:World) (G n:Nat) (N:Nat→List Nat):Prop where
 lt:G < w.heap.size
 row:∀ v,v < n→∃ A c,w.cell? ⟨G,v,none⟩=some (.slice A (N v).length c)∧IntsAt w A ((N v).map fun (x:Nat)=>(x:Int))∧(N v).length≤400
theorem BesAt.ext {w w':World} {G n:Nat} {N:Nat→List Nat} (h:BesAt w G n N) (hx:Ext w w'):BesAt w' G n N:=
 ⟨Nat.lt_of_lt_of_le h.lt hx.size,fun v hv=>by
  obtain ⟨A,c,h1,h2,h3⟩:=h.row v hv
  exact ⟨A,c,(hx.cell (p:=⟨G,v,none⟩) h.lt).trans h1,h2.ext hx,h3⟩⟩
def badN (n:Int) (x:Int):Bool:=decide (x < 0∨n≤x)
def ckF (n:Int) (l:List AK.Ed) (xs:List Int):Int:=if (edgF n l).2≠0 then (edgF n l).2 else if xs.any (badN n) then 1 else 0
def ErrPost (w:World) (x:Int) (e:Ending) (w':World):Prop:=e=.returned (errOf x)∧Ext w w'
set_option maxRecDepth 100000 in
theorem checked_any (w:World) (n:Int) (A:Option Addr) (m c:Nat) (l:List AK.Ed) (hl:l.length=m) (hlm:m≤9223372036854775807) (h:EdsAt w A l) (NA:Option Addr) (k kc:Nat) (xs:List Int) (hx:IntsAt w NA xs) (hk:xs.length=k) (hk4:k≤4):
  Calls Tryz.prog 83 #[.int .i64 n,.slice A m c,.slice NA k kc] w (ErrPost w (ckF n l xs)):=by
 have H:=Lib.hid h
 have HX:=Lib.hid hx
 have HK:=Lib.hid hk
 have HL:=Lib.hid hl
 clear h hx hk hl
 go_enter Tryz.func83,Tryz.ntmps83
 go_wp2_with fail
 refine (check_any w n A m c l HL.out hlm H.out).mono ?_
 rintro e w1 ⟨rfl,hx1⟩
 have HX1:=Lib.hid hx1
 clear hx1
 by_cases h0:(edgF n l).2=0
 ·have HC:Hid (ckF n l xs=if xs.any (badN n) then 1 else 0):=by unfold Hid ckF;rw [if_neg (by simpa using h0)]
  rw [h0,errOf_0]
  clear h0
  go_wp2
  have HR0:Hid (Ext w w1∧∀ j x,j < 0→xs[j]?=some x→badN n x=false):=⟨HX1.out,fun j x hj=>by omega⟩
  go_loopw [22] (fun v wr=>∃ i:Nat,i≤k∧v=.int .i64 i∧Hid (Ext w wr∧∀ j x,j < i→xs[j]?=some x→badN n x=false)) (fun v _=>k - (intOf v).toNat)
  case atStart=>exact ⟨0,by omega,rfl,HR0.out⟩
  case round=>
   obtain ⟨i,hi,rfl,hR⟩:=hrel
   clear HR0
   by_cases hik:i < k
   ·have hik':(i:Int) < (k:Int):=by omega
    have hi0:(0:Int)≤(i:Int):=by omega
    obtain ⟨x,hxi⟩:∃ x,xs[i]?=some x:=⟨_,List.getElem?_eq_getElem (by rw [HK.out];exact hik)⟩
    obtain ⟨nb,no,rfl,c0⟩:∃ nb no,NA=some ⟨nb,no,none⟩∧wr.cell? ⟨nb,no+i,none⟩=some (.int .i64 x):=by
     rcases HX.out.ext hR.out.1 with h | ⟨nb,no,h,hlt,hc⟩
     ·rw [h] at hxi;simp at hxi
     ·exact ⟨nb,no,h,hc i x hxi⟩
    have HXI:=Lib.hid hxi
    have HE:=Lib.hid hR.out.1
    clear hxi
    by_cases c1:x < 0
    ·have HC2:Hid (ckF n l xs=1):=by
      rw [Hid,HC.out,if_pos]
      rw [List.any_eq_true]
      exact ⟨x,List.mem_of_getElem? HXI.out,by simp [badN,c1]⟩
     clear hR HC
     go_wp2
     go_ret
     exact ⟨by rw [HC2.out];rfl,HE.out⟩
    by_cases c2:n≤x
    ·have HC2:Hid (ckF n l xs=1):=by
      rw [Hid,HC.out,if_pos]
      rw [List.any_eq_true]
      exact ⟨x,List.mem_of_getElem? HXI.out,by simp [badN,c2]⟩
     clear hR HC
     go_wp2
     go_ret
     exact ⟨by rw [HC2.out];rfl,HE.out⟩
    have HN:Hid (Ext w wr∧∀ j y,j < i+1→xs[j]?=some y→badN n y=false):=⟨HE.out,fun j y hj hy=>by
     by_cases e:j=i
     ·subst e;rw [HXI.out] at hy;injection hy with hy;subst hy;simp [badN];omega
     ·exact hR.out.2 j y (by omega) hy⟩
    clear hR
    go_wp2
    go_roundw
    case rel=>exact ⟨i+1,by omega,by go_num,HN.out⟩
    case measure=>simp [intOf];omega
   ·have e:i=k:=by omega
    have HC2:Hid (ckF n l xs=0):=by
     rw [Hid,HC.out,if_neg]
     rw [List.any_eq_true]
     rintro ⟨x,hx,hb⟩
     obtain ⟨j,hj⟩:=List.getElem?_of_mem hx
     have:=hR.out.2 j x (by rw [e,←HK.out];exact (List.getElem?_eq_some_iff.1 hj).1) hj
     rw [this] at hb;simp at hb
    have HE:=Lib.hid hR.out.1
    subst e
    clear hR HC
    go_wp2
    go_ret
    exact ⟨by rw [HC2.out];rfl,HE.out⟩
 ·have HC:Hid (ckF n l xs=(edgF n l).2):=by unfold Hid ckF;rw [if_pos h0]
  rw [errOf_ne h0]
  go_wp2
  go_ret
  exact ⟨by rw [HC.out,errOf_ne h0];rfl,HX1.out⟩
theorem rnode_any (w:World) (n a:Int):Calls Tryz.prog 136 #[.int .i64 n,.int .i64 a] w fun e w'=>e=.returned (.bool (!badN n a))∧w=w':=by
 by_cases c1:a < 0
 ·have HB:Hid (badN n a=true):=by unfold Hid;simp [badN,c1]
  have c1':¬ (0:Int)≤a:=by omega
  go_enter Tryz.func136,Tryz.ntmps136
  go_wp2
  go_ret
  exact ⟨by rw [HB.out];rfl,rfl⟩
 ·by_cases c2:n≤a
  ·have HB:Hid (badN n a=true):=by unfold Hid;simp [badN,c2]
   have c3:decide (a < n)=false:=by simp;omega
   go_enter Tryz.func136,Tryz.ntmps136
   go_wp2
   go_ret
   exact ⟨by rw [HB.out];rfl,rfl⟩
  ·have HB:Hid (badN n a=false):=by unfold Hid;simp [badN];omega
   have c3:decide (a < n)=true:=by simp;omega
   go_enter Tryz.func136,Tryz.ntmps136
   go_wp2
   go_ret
   exact ⟨by rw [HB.out];rfl,rfl⟩
def EfPost (W A B:Int) (w:World) (e:Ending) (w':World):Prop:=e=.returned (.int .i64 (if evBad W A B=true then 1 else 0))∧Ext w w'
theorem evBad_nodes {W A B:Int}:evBad W A B=(decide (W < 1) || (decide (3 < W) || (badN 60 A || badN 60 B))):=by
 unfold evBad badN
 rw [Bool.eq_iff_iff]
 simp only [decide_eq_true_eq,Bool.or_eq_true]
 omega
theorem efault_any (W A B:Int) (w:World):Calls Tryz.prog 135 #[.agg #[.int .i64 W,.int .i64 A,.int .i64 B]] w (EfPost W A B w):=by
 have HX:=Blk.new w 128 #[.int .i64 W,.int .i64 A,.int .i64 B]
 have HE:Hid (Ext w (w.alloc (.cells #[.int .i64 W,.int .i64 A,.int .i64 B] 128))):=Ext.alloc _ _
 have HV:=Lib.hid (@evBad_nodes W A B)
 obtain ⟨pa,hpa⟩:∃ b,badN 60 A=b:=⟨_,rfl⟩
 obtain ⟨pb,hpb⟩:∃ b,badN 60 B=b:=⟨_,rfl⟩
 rw [hpa,hpb] at HV
 have HA:Hid (∀ w,Calls Tryz.prog 136 #[.int .i64 60,.int .i64 A] w fun e w'=>e=.returned (.bool (!pa))∧w=w'):=fun w=>by rw [←hpa];exact rnode_any w 60 A
 have HB:Hid (∀ w,Calls Tryz.prog 136 #[.int .i64 60,.int .i64 B] w fun e w'=>e=.returned (.bool (!pb))∧w=w'):=fun w=>by rw [←hpb];exact rnode_any w 60 B
 clear hpa hpb
 go_enter Tryz.func135,Tryz.ntmps135
 go_upto_region 1 with fail
 generalize w.alloc (.cells #[.int .i64 W,.int .i64 A,.int .i64 B] 128)=w1 at HX HE ⊢
 have c0:w1.cell? ⟨w.heap.size,0,none⟩=some (.int .i64 W):=HX.cell 0
 have c1:w1.cell? ⟨w.heap.size,1,none⟩=some (.int .i64 A):=HX.cell 1
 have c2:w1.cell? ⟨w.heap.size,2,none⟩=some (.int .i64 B):=HX.cell 2
 clear HX
 go_wp2_with fail
 refine (HA.out w1).mono ?_
 rintro e w' ⟨rfl,rfl⟩
 go_wp2_with fail
 refine (HB.out w1).mono ?_
 rintro e w' ⟨rfl,rfl⟩
 by_cases h1:W < 1
 ·go_wp2
  go_ret
  exact ⟨by rw [HV.out];simp [h1],HE.out⟩
 by_cases h2:3 < W
 ·go_wp2
  go_ret
  exact ⟨by rw [HV.out];simp [h2],HE.out⟩
 cases pa
 case true=>
  go_wp2
  go_ret
  exact ⟨by rw [HV.out];simp,HE.out⟩
 cases pb
 case true=>
  go_wp2
  go_ret
  exact ⟨by rw [HV.out];simp,HE.out⟩
 go_wp2
 go_ret
 exact ⟨by rw [HV.out];simp [h1,h2],HE.out⟩
def NumPost (s:ByteArray) (w:World) (e:Ending) (w':World):Prop:=e=.returned (.int .i64 (NT.numF s.data.toList))∧w'=w
def NumR (l:List UInt8) (acc i:Nat) (w wr:World):Prop:=wr=w∧NT.numGo 0 l=NT.numGo (acc:Int) (l.drop i)∧acc < 10 ^ i
theorem num_step {l:List UInt8} {acc i:Nat} {c:UInt8} (h:l[i]?=some c) (hc:¬ (c < 48∨57 < c)):NT.numGo (acc:Int) (l.drop i)=NT.numGo ((acc * 10+c.toNat - 48:Nat):Int) (l.drop (i+1)):=by
 obtain ⟨hi,hx⟩:=List.getElem?_eq_some_iff.1 h
 rw [List.drop_eq_getElem_cons hi,hx]
 conv=>lhs;unfold NT.numGo
 rw [if_neg hc]
 obtain ⟨d,_,_,e⟩:=NT.digit_of hc
 congr 1
 omega
theorem num_stop {l:List UInt8} {acc i:Nat} {c:UInt8} (h:l[i]?=some c) (hc:c < 48∨57 < c):NT.numGo (acc:Int) (l.drop i)=-1:=by
 obtain ⟨hi,hx⟩:=List.getElem?_eq_some_iff.1 h
 rw [List.drop_eq_getElem_cons hi,hx]
 unfold NT.numGo
 rw [if_pos hc]
theorem number_any (s:ByteArray) (w:World):Calls Tryz.prog 50 #[.string s] w (NumPost s w):=by
 have e0:s.size=s.data.toList.length:=by rw [Array.length_toList];rfl
 by_cases h1:(s.size:Int) < 1
 ·have HP:Hid (NT.numF s.data.toList=-1):=by
   unfold Hid NT.numF
   rw [if_pos]
   have:s.data.toList.length < 1:=by omega
   simp only [NT.numBad,this,decide_true,Bool.true_or]
  clear e0
  go_enter Tryz.func50,Tryz.ntmps50
  go_wp2
  go_ret
  exact ⟨by rw [HP.out];rfl,rfl⟩
 by_cases h2:9 < (s.size:Int)
 ·have HP:Hid (NT.numF s.data.toList=-1):=by
   unfold Hid NT.numF
   rw [if_pos]
   have:9 < s.data.toList.length:=by omega
   simp only [NT.numBad,this,decide_true,Bool.true_or,Bool.or_true]
  clear e0
  go_enter Tryz.func50,Tryz.ntmps50
  go_wp2
  go_ret
  exact ⟨by rw [HP.out];rfl,rfl⟩
 rcases hl:s.data.toList with _ | ⟨c,r⟩
 ·exfalso;rw [hl] at e0;simp only [List.length_nil] at e0;omega
 have h0:0 < s.size:=by omega
 have hc0:s[0]=c:=by
  have hh:s.data.toList[0]?=some c:=by rw [hl];rfl
  rw [Array.getElem?_toList] at hh
  obtain ⟨_,hh⟩:=Array.getElem?_eq_some_iff.1 hh
  exact hh
 have e1:s.size=r.length+1:=by rw [e0,hl];rfl
 have HL:=Lib.hid hl
 have HS:Hid (s.size=s.data.toList.length):=e0
 clear hl e0
 by_cases h4:1 < (s.size:Int)∧c=48
 ·have HP:Hid (NT.numF s.data.toList=-1):=by
   unfold Hid NT.numF
   rw [if_pos]
   rw [HL.out,h4.2]
   have:1 < r.length+1:=by omega
   simp [NT.numBad]
   omega
  obtain ⟨h3,rfl⟩:=h4
  have q1:((s[0].toNat:Int) == 48)=true:=by rw [hc0];rfl
  clear e1 hc0 HL
  go_enter Tryz.func50,Tryz.ntmps50
  go_wp2
  go_ret
  exact ⟨by rw [HP.out];rfl,rfl⟩
 have HP:Hid (NT.numF s.data.toList=NT.numGo 0 s.data.toList):=by
  unfold Hid NT.numF
  rw [if_neg]
  rw [HL.out]
  simp [NT.numBad]
  refine ⟨by omega,fun hr h48=>h4 ⟨by omega,h48⟩⟩
 have hcase:(1 < (s.size:Int)∧((s[0].toNat:Int) == 48)=false)∨¬ 1 < (s.size:Int):=by
  by_cases h3:1 < (s.size:Int)
  ·left
   refine ⟨h3,?_⟩
   rw [hc0,beq_eq_false_iff_ne]
   intro h
   apply h4
   refine ⟨h3,?_⟩
   apply UInt8.toNat_inj.1
   have e:(48:UInt8).toNat=48:=rfl
   omega
  ·exact .inr h3
 have z9:(s.size:Int)≤9:=by omega
 clear h4 hc0 e1 HL
 rcases hcase with ⟨h3,q1⟩ | h3
 all_goals
  go_enter Tryz.func50,Tryz.ntmps50
  go_wp2
  go_loopw [3,4] (fun v3 v4 wr=>∃ (i acc:Nat),i≤s.size∧v4=.int .i64 (i:Int)∧v3=.int .i64 (acc:Int)∧Hid (NumR s.data.toList acc i w wr)) (fun _ v4 _=>s.size - (intOf v4).toNat)
  case atStart=>exact ⟨0,0,Nat.zero_le _,rfl,rfl,rfl,rfl,by decide⟩
  case round=>
   obtain ⟨i,acc,hi,rfl,rfl,HR⟩:=hrel
   obtain rfl:=HR.out.1
   by_cases hil:i < s.size
   ·have z1:(i:Int) < (s.size:Int):=by omega
    have z0:(0:Int)≤(i:Int):=by omega
    obtain ⟨x,hx⟩:∃ x,s[i]=x:=⟨_,rfl⟩
    have HX:Hid (s.data.toList[i]?=some x):=by
     unfold Hid
     rw [Array.getElem?_toList,Array.getElem?_eq_some_iff]
     exact ⟨hil,hx⟩
    have hx256:x.toNat < 256:=x.toNat_lt
    have ha:acc < 100000000:=by
     have h1:=HR.out.2.2
     have h2:10 ^ i≤10 ^ 8:=Nat.pow_le_pow_right (by decide) (by omega)
     have h3:(10:Nat) ^ 8=100000000:=by decide
     omega
    by_cases b1:(x.toNat:Int) < 48
    ·have HN:Hid (NT.numF s.data.toList=-1):=by
      rw [Hid,HP.out,HR.out.2.1]
      exact num_stop HX.out (.inl (by rw [UInt8.lt_iff_toNat_lt];have e:(48:UInt8).toNat=48:=rfl;omega))
     go_wp2
     go_ret
     exact ⟨by rw [HN.out];rfl,rfl⟩
    by_cases b2:57 < (x.toNat:Int)
    ·have HN:Hid (NT.numF s.data.toList=-1):=by
      rw [Hid,HP.out,HR.out.2.1]
      exact num_stop HX.out (.inr (by rw [UInt8.lt_iff_toNat_lt];have e:(57:UInt8).toNat=57:=rfl;omega))
     go_wp2
     go_ret
     exact ⟨by rw [HN.out];rfl,rfl⟩
    have b3:48≤x.toNat:=by omega
    have HN:Hid (NumR s.data.toList (acc * 10+x.toNat - 48) (i+1) wr wr):=by
     refine ⟨rfl,?_,?_⟩
     ·rw [HR.out.2.1]
      exact num_step HX.out (fun h=>by
       rcases h with h | h
       ·rw [UInt8.lt_iff_toNat_lt] at h;have e:(48:UInt8).toNat=48:=rfl;omega
       ·rw [UInt8.lt_iff_toNat_lt] at h;have e:(57:UInt8).toNat=57:=rfl;omega)
     ·have h1:=HR.out.2.2
      rw [Nat.pow_succ];omega
    have HW:Hid ((acc:Int) * 10+(x.toNat:Int) - 48=((acc * 10+x.toNat - 48:Nat):Int)):=by unfold Hid;omega
    clear HR
    go_wp2
    go_roundw
    case rel=>exact ⟨i+1,acc * 10+x.toNat - 48,by omega,by go_num,congrArg (Value.int .i64) HW.out,HN.out⟩
    case measure=>simp [intOf];omega
   ·have hie:i=s.size:=by omega
    have HN:Hid (NT.numF s.data.toList=(acc:Int)):=by
     rw [Hid,HP.out,HR.out.2.1,List.drop_eq_nil_of_le (by rw [hie,HS.out];exact Nat.le_refl _)];rfl
    clear HR
    go_wp2
    go_ret
    exact ⟨by rw [HN.out];rfl,rfl⟩
end Go.Proofs.YtkoajpeabicpdaaGreatDoor
