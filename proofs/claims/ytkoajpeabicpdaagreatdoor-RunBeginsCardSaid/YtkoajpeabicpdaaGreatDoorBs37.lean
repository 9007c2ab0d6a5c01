/-
Walk of the references' Split at whatever byte; of Dec below 100000. Condition: the text has at most 1048576 letters.
-/
import Derived.Test.YtkoajpeabicpdaaGreatDoorBs9
import Derived.Test.YtkoajpeabicpdaaGreatDoorBs5
import Derived.Test.YtkoajpeabicpdaaGreatDoorBs1
set_option linter.unusedVariables false
set_option maxHeartbeats 8000000
namespace Go.Proofs.YtkoajpeabicpdaaGreatDoor
open Go Go.RowKit
def ScPost (b:UInt8) (s:ByteArray) (w:World) (e:Ending) (w':World):Prop:=∃ A c ts,e=.returned (.slice A (ts:List ByteArray).length c)∧w'.ownsRow 0 9 1 (.slice A ts.length c) ts.length (ts.map Value.string)∧Ext w w'∧ts.map (fun t=>t.data.toList)=RN.spc b [] s.data.toList
def ScR (b:UInt8) (s:ByteArray) (w:World) (ts:List ByteArray) (A:Option Addr) (n c fr i:Nat) (wr:World):Prop:=ts.length=n∧wr.ownsRow 0 9 1 (.slice A n c) n (ts.map Value.string)∧Below w.heap.size w wr∧(∀ j,(Value.slice A n c).ownBlock=some j→w.heap.size≤j)∧
 ts.map (fun t=>t.data.toList)++RN.spc b ((s.data.toList.take i).drop fr) (s.data.toList.drop i)=RN.spc b [] s.data.toList
theorem ScR.next {b:UInt8} {s:ByteArray} {w wr:World} {ts:List ByteArray} {A:Option Addr} {n c fr i:Nat} (h:ScR b s w ts A n c fr i wr) {x:UInt8} (hx:s.data.toList[i]?=some x) (hne:x≠b) (hf:fr≤i):ScR b s w ts A n c fr (i+1) wr:=by
 obtain ⟨h1,h2,h3,h4,h5⟩:=h
 refine ⟨h1,h2,h3,h4,?_⟩
 rw [←h5]
 obtain ⟨hi,hxx⟩:=List.getElem?_eq_some_iff.1 hx
 rw [List.drop_eq_getElem_cons hi,hxx]
 conv=>rhs;rw [RN.spc,if_neg hne]
 congr 2
 rw [List.take_add_one,hx,List.drop_append_of_le_length (by rw [List.length_take];omega)];rfl
theorem ScR.cut {b:UInt8} {s:ByteArray} {w wr w':World} {ts:List ByteArray} {A A':Option Addr} {n c c' fr i:Nat} (h:ScR b s w ts A n c fr i wr) {x:UInt8} (hx:s.data.toList[i]?=some x) (he:x=b) (his:i≤s.size)
  (ho:w'.ownsRow 0 9 1 (.slice A' (n+1) c') (n+1) (ts.map Value.string++[.string (s.extract fr i)])) (hb:Below w.heap.size w w') (hw:∀ j,(Value.slice A' (n+1) c').ownBlock=some j→w.heap.size≤j):ScR b s w (ts++[s.extract fr i]) A' (n+1) c' (i+1) (i+1) w':=by
 obtain ⟨h1,h2,h3,h4,h5⟩:=h
 refine ⟨by simp [h1],by rw [List.map_append];exact ho,hb,hw,?_⟩
 rw [←h5]
 obtain ⟨hi,hxx⟩:=List.getElem?_eq_some_iff.1 hx
 conv=>rhs;rw [List.drop_eq_getElem_cons hi,hxx,RN.spc,if_pos he]
 rw [List.map_append,List.append_assoc]
 congr 1
 simp only [List.map_cons,List.map_nil,List.singleton_append]
 rw [str_mid s fr i his,show List.drop (i+1) (List.take (i+1) s.data.toList)=[] from List.drop_eq_nil_of_le (by rw [List.length_take];omega)]
theorem ScR.done {b:UInt8} {s:ByteArray} {w wr w':World} {ts:List ByteArray} {A A':Option Addr} {n c c' fr:Nat} (h:ScR b s w ts A n c fr s.size wr)
  (ho:w'.ownsRow 0 9 1 (.slice A' (n+1) c') (n+1) (ts.map Value.string++[.string (s.extract fr s.size)])) (hb:Below w.heap.size w w'):ScPost b s w (.returned (.slice A' (n+1) c')) w':=by
 obtain ⟨h1,h2,h3,h4,h5⟩:=h
 have e0:s.size=s.data.toList.length:=by rw [Array.length_toList];rfl
 refine ⟨A',c',ts++[s.extract fr s.size],by simp [h1],by rw [List.map_append];simpa [h1] using ho,hb,?_⟩
 rw [←h5,show List.drop s.size s.data.toList=[] from List.drop_eq_nil_of_le (by omega),RN.spc,List.map_append]
 simp only [List.map_cons,List.map_nil]
 rw [str_mid s fr s.size (Nat.le_refl _)]
set_option maxRecDepth 100000 in
theorem splitc_any (b:UInt8) (s:ByteArray) (hs:s.size≤1048576) (w:World):Calls Tryz.prog 14 #[.string s,.int .u8 (b.toNat:Int)] w (ScPost b s w):=by
 have e0:s.size=s.data.toList.length:=by rw [Array.length_toList];rfl
 have HS:=Lib.hid e0
 clear e0
 go_enter Tryz.func14,Tryz.ntmps14
 go_wp2
 go_loopw [5,6,7] (fun v5 v6 v7 wr=>∃ (ts:List ByteArray) (A:Option Addr) (n c fr i:Nat),i≤s.size∧fr≤i∧n≤i∧v5=.slice A n c∧v6=.int .i64 (fr:Int)∧v7=.int .i64 (i:Int)∧Hid (ScR b s w ts A n c fr i wr)) (fun _ _ v7 _=>s.size - (intOf v7).toNat)
 case atStart=>exact ⟨[],none,0,0,0,0,Nat.zero_le _,Nat.le_refl _,Nat.le_refl _,rfl,rfl,rfl,rfl,World.ownsRow_nil _ _ _ _,Below.refl _ _,fun j hj=>by simp [Value.ownBlock] at hj,by simp⟩
 case round=>
  obtain ⟨ts,A,n,c,fr,i,hi,hf,hn,rfl,rfl,rfl,HR⟩:=hrel
  have z0:(0:Int)≤(fr:Int):=by omega
  have z1:(fr:Int)≤(i:Int):=by omega
  have z2:(i:Int)≤(s.size:Int):=by omega
  have z3:(0:Int)≤(i:Int):=by omega
  have z4:(s.size:Int)≤1048576:=by omega
  by_cases hil:i < s.size
  ·have z5:(i:Int) < (s.size:Int):=by omega
   obtain ⟨x,hx⟩:∃ x,s[i]=x:=⟨_,rfl⟩
   have HX:Hid (s.data.toList[i]?=some x):=by
    unfold Hid
    rw [Array.getElem?_toList,Array.getElem?_eq_some_iff]
    exact ⟨hil,hx⟩
   by_cases hc:x=b
   ·have HC:=Lib.hid hc
    have q1:((x.toNat:Int) == (b.toNat:Int))=true:=by rw [hc];simp
    have q2:(x.toNat:Int)=(b.toNat:Int):=by rw [hc]
    clear hc
    go_upto_region 8 with (at_builtin;refine wpList_pushB _ rfl (.tmp 19) (.tmp 24) 50 rfl 9 _ 1 16 Tryz.underlying50 infoString rfl (by decide) (.slice A n c) n _ rfl (own_chg HR.out.2.1 ((Chg.refl (fun _=>False) _).alloc _) (fun _ _ h=>h)) ⟨by omega,by omega⟩ [.string (s.extract fr i)] wr.heap.size rfl rfl (news_cells rfl _ _) (by simp [Value.oneCell']) ?_;intro g5 c5 w5 ho5 hc5 hat5 _;have HO5:=Lib.hid ho5;have HC5:=Lib.hid hc5;have HT5:=Lib.hid hat5;clear ho5 hc5 hat5)
    have HB5:Hid (Below w.heap.size w w5):=(HR.out.2.2.1.alloc HR.out.2.2.1.size _).trans (HC5.out.below (HR.out.2.2.1.alloc HR.out.2.2.1.size _).size (fun j _ hj=>HR.out.2.2.2.1 j hj))
    have HG5:Hid (∀ j,(Value.slice (some ⟨g5,0,none⟩) (n+1) c5).ownBlock=some j→w.heap.size≤j):=by
     intro j hj
     simp [Value.ownBlock] at hj
     subst hj
     rcases HT5.out with h | h
     ·exact HR.out.2.2.2.1 _ h
     ·have:=HR.out.2.2.1.size;rw [h];simp;omega
    have HN:=Lib.hid (ScR.cut HR.out HX.out HC.out hi HO5.out HB5.out HG5.out)
    clear HR HO5 HC5 HT5 HB5 HG5
    go_wp2
    go_roundw
    case rel=>exact ⟨_,_,n+1,c5,i+1,i+1,by omega,by omega,by omega,rfl,by go_num,by go_num,HN.out⟩
    case measure=>simp [intOf];omega
   ·have q1:((x.toNat:Int) == (b.toNat:Int))=false:=by
     rw [beq_eq_false_iff_ne]
     intro h
     apply hc
     apply UInt8.toNat_inj.1
     omega
    have q2:¬ (x.toNat:Int)=(b.toNat:Int):=by simpa using q1
    have HN:=Lib.hid (ScR.next HR.out HX.out hc hf)
    clear HR
    go_wp2
    go_roundw
    case rel=>exact ⟨ts,A,n,c,fr,i+1,by omega,by omega,by omega,rfl,rfl,by go_num,HN.out⟩
    case measure=>simp [intOf];omega
  ·obtain rfl:i=s.size:=by omega
   go_wp2_with (at_builtin;refine wpList_pushB _ rfl (.tmp 28) (.tmp 32) 50 rfl 9 _ 1 16 Tryz.underlying50 infoString rfl (by decide) (.slice A n c) n _ rfl (own_chg HR.out.2.1 ((Chg.refl (fun _=>False) _).alloc _) (fun _ _ h=>h)) ⟨by omega,by omega⟩ [.string (s.extract fr s.size)] wr.heap.size rfl rfl (news_cells rfl _ _) (by simp [Value.oneCell']) ?_;intro g5 c5 w5 ho5 hc5 hat5 _;have HO5:=Lib.hid ho5;have HC5:=Lib.hid hc5;have HT5:=Lib.hid hat5;clear ho5 hc5 hat5)
   go_ret
   have HB5:Hid (Below w.heap.size w w5):=(HR.out.2.2.1.alloc HR.out.2.2.1.size _).trans (HC5.out.below (HR.out.2.2.1.alloc HR.out.2.2.1.size _).size (fun j _ hj=>HR.out.2.2.2.1 j hj))
   exact ScR.done HR.out HO5.out HB5.out
def DecS (w:World) (A k:Nat) (t:ByteArray) (wr:World):Prop:=wr=w∧Lib.decDigits A=Lib.decDigits k++t.data.toList
theorem rdec_any (A:Nat) (hA:A < 100000) (w:World):Calls Tryz.prog 47 #[.int .i64 (A:Int)] w fun e w'=>e=.returned (.string ⟨(Lib.decDigits A).toArray⟩)∧w'=w:=by
 have HA:=Lib.hid (RN.dec_len_le A A (Nat.le_refl _))
 go_enter Tryz.func47,Tryz.ntmps47
 go_wp2
 go_loopw [0,3] (fun v0 v3 wr=>∃ (k:Nat) (t:ByteArray),k≤A∧v0=.int .i64 (k:Int)∧v3=.string t∧Hid (DecS w A k t wr)) (fun v0 _ _=>(intOf v0).toNat)
 case atStart=>exact ⟨A,⟨#[]⟩,Nat.le_refl _,rfl,rfl,rfl,by simp⟩
 case round=>
  obtain ⟨k,t,hk,rfl,rfl,HR⟩:=hrel
  obtain rfl:=HR.out.1
  obtain ⟨d,hd⟩:∃ d,d=k % 10:=⟨_,rfl⟩
  obtain ⟨q,hq⟩:∃ q,q=k / 10:=⟨_,rfl⟩
  have hts0:t.size≤100001:=by
   have h1:=congrArg List.length HR.out.2
   have h2:=HA.out
   have h3:t.size=t.data.toList.length:=by rw [Array.length_toList];rfl
   rw [List.length_append] at h1
   omega
  by_cases h9:9 < (k:Int)
  ·have d0:d < 10:=by omega
   have e0:(k:Int).tmod 10=(d:Int):=by rw [Int.tmod_eq_emod_of_nonneg (by omega)];omega
   have e1:(k:Int).tdiv 10=(q:Int):=by rw [Int.tdiv_eq_ediv_of_nonneg (by omega)];omega
   have e2:IntKind.i64.wrap ((k:Int).tmod 10)=(d:Int):=by rw [e0];exact IntWalk.i64_in _ (by omega)
   have e3:IntKind.i64.wrap ((k:Int).tdiv 10)=(q:Int):=by rw [e1];exact IntWalk.i64_in _ (by omega)
   have e4:((d:Int)+1).toNat=d+1:=by omega
   have e5:(d:Int)+1≤10:=by omega
   have e6:(0:Int)≤(d:Int):=by omega
   have e7:IntKind.i64.wrap ((d:Int)+1)=(d:Int)+1:=IntWalk.i64_in _ (by omega)
   have e8:(d:Int)≤(d:Int)+1:=by omega
   have e9:(0:Int)≤(d:Int)+1:=by omega
   have hsz:(⟨#[48,49,50,51,52,53,54,55,56,57]⟩:ByteArray).size=10:=rfl
   have hts:¬ 9223372036854775807 < min (d+1) 10 - d+t.size:=by omega
   have HX:=Lib.hid (dg_one d d0)
   have HQ:Hid (q < k∧d=k % 10∧q=k / 10∧10≤k):=⟨by omega,hd,hq,by omega⟩
   have HW:Hid ((k:Int) / 10=(q:Int)):=by unfold Hid;omega
   have HS:=Lib.hid HR.out.2
   clear HR hd hq e0 e1
   go_wp2
   go_roundw
   case rel=>
    refine ⟨q,_,by have:=HQ.out;omega,congrArg (Value.int .i64) HW.out,rfl,rfl,?_⟩
    rw [HS.out,RN.dec_cut (u:=k) (by have:=HQ.out;omega),←HQ.out.2.1,←HQ.out.2.2.1,HX.out,ByteArray.data_append]
    simp
   case measure=>have h1:=HQ.out.2.2.2;simp [intOf];omega
  ·have hk9:k < 10:=by omega
   have e1:((k:Int)+1).toNat=k+1:=by omega
   have e2:(k:Int)+1≤10:=by omega
   have e3:(0:Int)≤(k:Int):=by omega
   have e4:IntKind.i64.wrap ((k:Int)+1)=(k:Int)+1:=IntWalk.i64_in _ (by omega)
   have e5:(k:Int)≤(k:Int)+1:=by omega
   have e6:(0:Int)≤(k:Int)+1:=by omega
   have hsz:(⟨#[48,49,50,51,52,53,54,55,56,57]⟩:ByteArray).size=10:=rfl
   have hts:¬ 9223372036854775807 < min (k+1) 10 - k+t.size:=by omega
   have HX:=Lib.hid (dg_one k hk9)
   have HS:=Lib.hid HR.out.2
   clear hd hq
   go_wp2
   go_ret
   refine ⟨congrArg (fun z=>Ending.returned (.string z)) ?_,rfl⟩
   apply ByteArray.ext
   apply Array.toList_inj.1
   rw [HX.out,ByteArray.data_append,HS.out,Lib.decDigits_one hk9]
   simp
end Go.Proofs.YtkoajpeabicpdaaGreatDoor
