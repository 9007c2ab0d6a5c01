/-
Walk of the references' Split at a blank. Condition: the text has at most 1048576 letters.
-/
import Derived.Test.YtkoajpeabicpdaaGreatDoorBs7
import Derived.Test.YtkoajpeabicpdaaGreatDoorBs8
set_option linter.unusedVariables false
set_option maxHeartbeats 8000000
namespace Go.Proofs.YtkoajpeabicpdaaGreatDoor
open Go Go.RowKit
theorem infoString:(Tryz.prog.info? 9).map (fun i=>(i.zero,i.size,i.bytes))=some (some (.string ⟨#[]⟩),1,16):=by kernel_rfl
theorem wpList_pushB {P:Program} (w:World) {ops:Array Oper} {rest:List Oper} {o:Oper} {a:Act} {Q:Exit→Act→World→Prop} (hgd:o.guard=none) (s x:Operand) (t:TypeId)
  (ho:o.op=.call { callee:=.builtin .append,args:=#[s,x],argTypes:=#[t,t] })
  (e:TypeId) (z:Value) (size bytes:Nat) (ht:P.underlying t=some (.slice e)) (hinfo:(P.info? e).map (fun i=>(i.zero,i.size,i.bytes))=some (some z,size,bytes)) (hzs:z.cells.size=size) (hsz:0 < size)
  (v:Value) (n:Nat) (xs:List Value) (hs:a.eval s=v) (hown:w.ownsRow 0 e size v n xs) (hsm:n≤100000000∧bytes≤1000)
  (news:List Value) (B:Nat) (hx:a.eval x=.slice (some ⟨B,0,none⟩) 1 1) (hl:news.length=size) (hB:∀ j u,news[j]?=some u→w.cell? ((⟨B,0,none⟩:Addr).add j)=some u) (h1:∀ u∈news,u.oneCell'=true)
  (h:∀ g c w',w'.ownsRow 0 e size (.slice (some ⟨g,0,none⟩) (n+1) c) (n+1) (xs++news)→Chg (fun k=>v.ownBlock=some k) w w'→(v.ownBlock=some g∨g=w.heap.size)→n+1≤c→wpList P ops Q rest (a.put o.dst (.slice (some ⟨g,0,none⟩) (n+1) c)) w'):wpList P ops Q (o::rest) a w:=by
 obtain ⟨i,hi,hz0,hz1,hz2⟩:=info_parts hinfo
 have hm:(n+1) * bytes≤140737488355328:=Nat.le_trans (Nat.mul_le_mul (show n+1≤100000001 by omega) hsm.2) (by decide)
 refine wpList_append_own_at w hgd s x t ho 0 e i z size bytes ht hi hz0 hz1 hz2 hzs hsz v n xs hs hown ⟨B,0,none⟩ 1 1 news hx (by omega) hB h1 (by unfold maxLen;omega) hm (Nat.zero_le _) ?_
 intro v' w' hown' hgr _ hat
 obtain ⟨g,c,hv,hc,_⟩:=own_form hown' (by omega)
 subst hv
 refine h g c w' hown' ((Chg.of_grown hgr).mono (fun k _ hk=>hk.symm)) ?_ hc
 rcases hat with hat | hat
 ·exact .inl (by rw [←hat];rfl)
 ·right;simpa [Value.ownBlock] using hat
theorem str_mid (s:ByteArray) (a b:Nat) (h:b≤s.size):(s.extract a b).data.toList=(s.data.toList.take b).drop a:=by
 simp only [ByteArray.data_extract,Array.toList_extract,List.extract_eq_take_drop]
 rw [List.drop_take]
def SpPost (s:ByteArray) (w:World) (e:Ending) (w':World):Prop:=∃ A c ts,e=.returned (.slice A (ts:List ByteArray).length c)∧w'.ownsRow 0 9 1 (.slice A ts.length c) ts.length (ts.map Value.string)∧Ext w w'∧ts.map (fun t=>t.data.toList)=NT.spl [] s.data.toList
def SplR (s:ByteArray) (w:World) (ts:List ByteArray) (A:Option Addr) (n c fr i:Nat) (wr:World):Prop:=ts.length=n∧wr.ownsRow 0 9 1 (.slice A n c) n (ts.map Value.string)∧Below w.heap.size w wr∧(∀ j,(Value.slice A n c).ownBlock=some j→w.heap.size≤j)∧
 ts.map (fun t=>t.data.toList)++NT.spl ((s.data.toList.take i).drop fr) (s.data.toList.drop i)=NT.spl [] s.data.toList
theorem SplR.next {s:ByteArray} {w wr:World} {ts:List ByteArray} {A:Option Addr} {n c fr i:Nat} (h:SplR s w ts A n c fr i wr) {x:UInt8} (hx:s.data.toList[i]?=some x) (hne:x≠32) (hf:fr≤i):SplR s w ts A n c fr (i+1) wr:=by
 obtain ⟨h1,h2,h3,h4,h5⟩:=h
 refine ⟨h1,h2,h3,h4,?_⟩
 rw [←h5]
 obtain ⟨hi,hxx⟩:=List.getElem?_eq_some_iff.1 hx
 rw [List.drop_eq_getElem_cons hi,hxx]
 conv=>rhs;rw [NT.spl,if_neg hne]
 congr 2
 rw [List.take_add_one,hx,List.drop_append_of_le_length (by rw [List.length_take];omega)];rfl
theorem SplR.cut {s:ByteArray} {w wr w':World} {ts:List ByteArray} {A A':Option Addr} {n c c' fr i:Nat} (h:SplR s w ts A n c fr i wr) {x:UInt8} (hx:s.data.toList[i]?=some x) (he:x=32) (his:i≤s.size)
  (ho:w'.ownsRow 0 9 1 (.slice A' (n+1) c') (n+1) (ts.map Value.string++[.string (s.extract fr i)])) (hb:Below w.heap.size w w') (hw:∀ j,(Value.slice A' (n+1) c').ownBlock=some j→w.heap.size≤j):SplR s w (ts++[s.extract fr i]) A' (n+1) c' (i+1) (i+1) w':=by
 obtain ⟨h1,h2,h3,h4,h5⟩:=h
 refine ⟨by simp [h1],by rw [List.map_append];exact ho,hb,hw,?_⟩
 rw [←h5]
 obtain ⟨hi,hxx⟩:=List.getElem?_eq_some_iff.1 hx
 conv=>rhs;rw [List.drop_eq_getElem_cons hi,hxx,NT.spl,if_pos he]
 rw [List.map_append,List.append_assoc]
 congr 1
 simp only [List.map_cons,List.map_nil,List.singleton_append]
 rw [str_mid s fr i his,show List.drop (i+1) (List.take (i+1) s.data.toList)=[] from List.drop_eq_nil_of_le (by rw [List.length_take];omega)]
theorem SplR.done {s:ByteArray} {w wr w':World} {ts:List ByteArray} {A A':Option Addr} {n c c' fr:Nat} (h:SplR s w ts A n c fr s.size wr)
  (ho:w'.ownsRow 0 9 1 (.slice A' (n+1) c') (n+1) (ts.map Value.string++[.string (s.extract fr s.size)])) (hb:Below w.heap.size w w'):SpPost s w (.returned (.slice A' (n+1) c')) w':=by
 obtain ⟨h1,h2,h3,h4,h5⟩:=h
 have e0:s.size=s.data.toList.length:=by rw [Array.length_toList];rfl
 refine ⟨A',c',ts++[s.extract fr s.size],by simp [h1],by rw [List.map_append];simpa [h1] using ho,hb,?_⟩
 rw [←h5,show List.drop s.size s.data.toList=[] from List.drop_eq_nil_of_le (by omega),NT.spl,List.map_append]
 simp only [List.map_cons,List.map_nil]
 rw [str_mid s fr s.size (Nat.le_refl _)]
set_option maxRecDepth 100000 in
theorem nsplit_any (s:ByteArray) (hs:s.size≤1048576) (w:World):Calls Tryz.prog 14 #[.string s,.int .u8 32] w (SpPost s w):=by
 have e0:s.size=s.data.toList.length:=by rw [Array.length_toList];rfl
 have HS:=Lib.hid e0
 clear e0
 go_enter Tryz.func14,Tryz.ntmps14
 go_wp2
 go_loopw [5,6,7] (fun v5 v6 v7 wr=>∃ (ts:List ByteArray) (A:Option Addr) (n c fr i:Nat),i≤s.size∧fr≤i∧n≤i∧v5=.slice A n c∧v6=.int .i64 (fr:Int)∧v7=.int .i64 (i:Int)∧Hid (SplR s w ts A n c fr i wr)) (fun _ _ v7 _=>s.size - (intOf v7).toNat)
 case atStart=>exact ⟨[],none,0,0,0,0,Nat.zero_le _,Nat.le_refl _,Nat.le_refl _,rfl,rfl,rfl,rfl,World.ownsRow_nil _ _ _ _,Below.refl _ _,fun j hj=>by simp [Value.ownBlock] at hj,by simp⟩
 case round=>
  obtain ⟨ts,A,n,c,fr,i,hi,hf,hn,rfl,rfl,rfl,HR⟩:=hrel
  have z0:(0:Int)≤(fr:Int):=by omega
  have z1:(fr:Int)≤(i:Int):=by omega
  have z2:(i:Int)≤(s.size:Int):=by omega
  have z3:(0:Int)≤(i:Int):=by omega
  have z4:(s.size:Int)≤1048576:=by omega
  by_cases hil:i < s.size
  ·have z5:(i:Int) < (s.size:Int):=by omega
   obtain ⟨x,hx⟩:∃ x,s[i]=x:=⟨_,rfl⟩
   have HX:Hid (s.data.toList[i]?=some x):=by
    unfold Hid
    rw [Array.getElem?_toList,Array.getElem?_eq_some_iff]
    exact ⟨hil,hx⟩
   by_cases hc:x=32
   ·have HC:=Lib.hid hc
    have q1:((x.toNat:Int) == 32)=true:=by rw [hc];rfl
    have q2:(x.toNat:Int)=32:=by rw [hc];rfl
    clear hc
    go_upto_region 8 with (at_builtin;refine wpList_pushB _ rfl (.tmp 19) (.tmp 24) 50 rfl 9 _ 1 16 Tryz.underlying50 infoString rfl (by decide) (.slice A n c) n _ rfl (own_chg HR.out.2.1 ((Chg.refl (fun _=>False) _).alloc _) (fun _ _ h=>h)) ⟨by omega,by omega⟩ [.string (s.extract fr i)] wr.heap.size rfl rfl (news_cells rfl _ _) (by simp [Value.oneCell']) ?_;intro g5 c5 w5 ho5 hc5 hat5 _;have HO5:=Lib.hid ho5;have HC5:=Lib.hid hc5;have HT5:=Lib.hid hat5;clear ho5 hc5 hat5)
    have HB5:Hid (Below w.heap.size w w5):=(HR.out.2.2.1.alloc HR.out.2.2.1.size _).trans (HC5.out.below (HR.out.2.2.1.alloc HR.out.2.2.1.size _).size (fun j _ hj=>HR.out.2.2.2.1 j hj))
    have HG5:Hid (∀ j,(Value.slice (some ⟨g5,0,none⟩) (n+1) c5).ownBlock=some j→w.heap.size≤j):=by
     intro j hj
     simp [Value.ownBlock] at hj
     subst hj
     rcases HT5.out with h | h
     ·exact HR.out.2.2.2.1 _ h
     ·have:=HR.out.2.2.1.size;rw [h];simp;omega
    have HN:=Lib.hid (SplR.cut HR.out HX.out HC.out hi HO5.out HB5.out HG5.out)
    clear HR HO5 HC5 HT5 HB5 HG5
    go_wp2
    go_roundw
    case rel=>exact ⟨_,_,n+1,c5,i+1,i+1,by omega,by omega,by omega,rfl,by go_num,by go_num,HN.out⟩
    case measure=>simp [intOf];omega
   ·have q1:((x.toNat:Int) == 32)=false:=by
     rw [beq_eq_false_iff_ne]
     intro h
     apply hc
     apply UInt8.toNat_inj.1
     have e:(32:UInt8).toNat=32:=rfl
     omega
    have q2:¬ (x.toNat:Int)=32:=by simpa using q1
    have HN:=Lib.hid (SplR.next HR.out HX.out hc hf)
    clear HR
    go_wp2
    go_roundw
    case rel=>exact ⟨ts,A,n,c,fr,i+1,by omega,by omega,by omega,rfl,rfl,by go_num,HN.out⟩
    case measure=>simp [intOf];omega
  ·obtain rfl:i=s.size:=by omega
   go_wp2_with (at_builtin;refine wpList_pushB _ rfl (.tmp 28) (.tmp 32) 50 rfl 9 _ 1 16 Tryz.underlying50 infoString rfl (by decide) (.slice A n c) n _ rfl (own_chg HR.out.2.1 ((Chg.refl (fun _=>False) _).alloc _) (fun _ _ h=>h)) ⟨by omega,by omega⟩ [.string (s.extract fr s.size)] wr.heap.size rfl rfl (news_cells rfl _ _) (by simp [Value.oneCell']) ?_;intro g5 c5 w5 ho5 hc5 hat5 _;have HO5:=Lib.hid ho5;have HC5:=Lib.hid hc5;have HT5:=Lib.hid hat5;clear ho5 hc5 hat5)
   go_ret
   have HB5:Hid (Below w.heap.size w w5):=(HR.out.2.2.1.alloc HR.out.2.2.1.size _).trans (HC5.out.below (HR.out.2.2.1.alloc HR.out.2.2.1.size _).size (fun j _ hj=>HR.out.2.2.2.1 j hj))
   exact SplR.done HR.out HO5.out HB5.out
end Go.Proofs.YtkoajpeabicpdaaGreatDoor
