/-
Walks of the references' told and numbers. Conditions: an error's number is at most 8; at most 1000 numbers, each below 1000.
-/
import Derived.Test.YtkoajpeabicpdaaGreatDoorBs37
import Derived.Test.YtkoajpeabicpdaaGreatDoorBs3
import Derived.Test.YtkoajpeabicpdaaGreatDoorBs9
import Derived.Deep.RegionHeld3
set_option linter.unusedVariables false
set_option maxHeartbeats 8000000
namespace Go.Proofs.YtkoajpeabicpdaaGreatDoor
open Go Go.RowKit
theorem told_ok (s:ByteArray) (w:World):Calls Tryz.prog 51 #[.string s,.int .i64 0] w fun e w'=>e=.returned (.string s)∧w'=w:=by
 go_enter Tryz.func51,Tryz.ntmps51
 go_wp2
 go_ret
 exact ⟨rfl,rfl⟩
theorem told_err (s:ByteArray) (k:Nat) (hk:k≤8) (h0:1≤k) (w:World):Calls Tryz.prog 51 #[.string s,.int .i64 (k:Int)] w fun e w'=>e=.returned (.string ⟨(RN.nameOf k).toArray⟩)∧w'=w:=by
 have z:((k:Int) == 0)=false:=by simp;omega
 go_enter Tryz.func51,Tryz.ntmps51
 go_wp2_with fail
 refine (name_any k hk _).mono ?_
 rintro e w' ⟨rfl,rfl⟩
 go_wp2
 go_ret
 exact ⟨rfl,rfl⟩
theorem joinW_nil:RN.joinW []=[]:=rfl
theorem joinW_take {ws:List (List UInt8)} {i:Nat} {x:List UInt8} (hx:ws[i]?=some x) (h0:0 < i):RN.joinW (ws.take (i+1))=RN.joinW (ws.take i)++32::x:=by
 rw [List.take_add_one,hx]
 obtain ⟨hi,_⟩:=List.getElem?_eq_some_iff.1 hx
 exact RN.joinW_snoc (fun e=>by
  have:=congrArg List.length e
  rw [List.length_take,List.length_nil] at this
  omega)
theorem joinW_first {ws:List (List UInt8)} {x:List UInt8} (hx:ws[0]?=some x):RN.joinW (ws.take 1)=x:=by
 cases ws with
 | nil=>simp at hx
 | cons y r=>simp at hx;subst hx;exact RN.joinW_one _
def NbR (w:World) (xs:List Nat) (i:Nat) (t:ByteArray) (wr:World):Prop:=t.data.toList=RN.joinW ((xs.map Lib.decDigits).take i)∧wr=w
theorem joinW_ne {ws:List (List UInt8)} (h:ws≠[]) (hw:∀ x∈ws,x≠[]):RN.joinW ws≠[]:=by
 cases ws with
 | nil=>exact absurd rfl h
 | cons x r=>
  have hx:=hw x (by simp)
  cases r with
  | nil=>rw [RN.joinW_one];exact hx
  | cons y z=>
   unfold RN.joinW Lib.join
   simp only [List.intercalate]
   rw [List.intersperse_cons_cons]
   simp [hx]
set_option maxRecDepth 100000 in
theorem numbers_any (w:World) (A:Option Addr) (n c:Nat) (xs:List Nat) (hl:xs.length=n) (hn:n≤1000) (h:IntsAt w A (xs.map fun (x:Nat)=>(x:Int))) (hx:∀ x∈xs,x < 1000):
  Calls Tryz.prog 54 #[.slice A n c] w fun e w'=>e=.returned (.string ⟨(RN.wordsT RN.tDash (xs.map Lib.decDigits)).toArray⟩)∧w'=w:=by
 have H:=Lib.hid h
 have HL:=Lib.hid hl
 have HX:=Lib.hid hx
 clear h hl hx
 go_enter Tryz.func54,Tryz.ntmps54
 go_wp2
 go_loopw [3,4] (fun v3 v4 wr=>∃ (i:Nat) (t:ByteArray),i≤n∧t.size≤i * 1002∧v3=.string t∧v4=.int .i64 (i:Int)∧Hid (NbR w xs i t wr)) (fun _ v4 _=>n - (intOf v4).toNat)
 case atStart=>exact ⟨0,⟨#[]⟩,Nat.zero_le _,by decide,rfl,rfl,rfl,rfl⟩
 case round=>
  obtain ⟨i,t,hi,ht,rfl,rfl,HR⟩:=hrel
  obtain rfl:=HR.out.2
  have ht2:t.size≤1002000:=by omega
  have hsz:(⟨#[32]⟩:ByteArray).size=1:=rfl
  by_cases hin:i < n
  ·obtain ⟨x,hx⟩:∃ x,xs[i]?=some x:=⟨_,List.getElem?_eq_getElem (by rw [HL.out];exact hin)⟩
   have hx1:=HX.out x (List.mem_of_getElem? hx)
   rcases H.out with h0 | ⟨b,off,rfl,_,hc⟩
   ·have:=HL.out
    simp at h0;subst h0;simp at this;omega
   have c1:=hc i x (by rw [List.getElem?_map,hx];rfl)
   have HW:Hid ((xs.map Lib.decDigits)[i]?=some (Lib.decDigits x)):=by unfold Hid;rw [List.getElem?_map,hx];rfl
   have z0:(0:Int)≤(i:Int):=by omega
   have z1:(i:Int) < (n:Int):=by omega
   have hdl:=RN.dec_len_le x x (Nat.le_refl _)
   obtain ⟨la,hla⟩:∃ t,Lib.decDigits x=t:=⟨_,rfl⟩
   have HD:=Lib.hid (rdec_any x (by omega) wr)
   rw [hla] at HD hdl
   have sa':(⟨la.toArray⟩:ByteArray).size=la.length:=by simp [ByteArray.size]
   have sa:la.length≤1000:=by omega
   have HLA:=Lib.hid hla
   clear hc hx hla
   by_cases h0:i=0
   ·subst h0
    rw [Nat.add_zero] at c1
    have z2:¬ ((0:Nat):Int) > 0:=by omega
    go_wp2_with fail
    refine HD.out.mono ?_
    rintro e w' ⟨rfl,rfl⟩
    go_wp2
    go_roundw
    case rel=>
     refine ⟨1,_,by omega,?_,rfl,by go_num,?_,rfl⟩
     ·rw [ByteArray.size_append,sa'];omega
     ·have h1:=HR.out.1
      have h2:=joinW_first HW.out
      simp only [List.take_zero,joinW_nil] at h1
      rw [ByteArray.data_append];simp [h1,h2,HLA.out]
    case measure=>simp [intOf];omega
   ·have z2:(0:Int) < (i:Int):=by omega
    go_wp2_with fail
    refine HD.out.mono ?_
    rintro e w' ⟨rfl,rfl⟩
    go_wp2
    go_roundw
    case rel=>
     refine ⟨i+1,_,by omega,?_,rfl,by go_num,?_,rfl⟩
     ·rw [ByteArray.size_append,ByteArray.size_append,sa',hsz];omega
     ·have h1:=HR.out.1
      have h2:=joinW_take HW.out (by omega)
      rw [ByteArray.data_append,ByteArray.data_append];simp [h1,h2,HLA.out]
    case measure=>simp [intOf];omega
  ·obtain rfl:i=n:=by omega
   have hr:=HR.out.1
   rw [List.take_of_length_le (by rw [List.length_map,HL.out];exact Nat.le_refl _)] at hr
   have HRR:=Lib.hid hr
   have hz:(xs=[]∧t.size=0)∨(xs≠[]∧0 < t.size):=by
    rw [sz_len,hr]
    by_cases h0:xs=[]
    ·subst h0;exact .inl ⟨rfl,rfl⟩
    ·exact .inr ⟨h0,List.length_pos_iff.2 (joinW_ne (by simpa using h0) (fun x hx=>by obtain ⟨y,_,rfl⟩:=List.mem_map.1 hx;exact RN.dec_ne y))⟩
   have HW:Hid (RN.wordsT RN.tDash (xs.map Lib.decDigits)=if xs=[] then [45] else t.data.toList):=by
    unfold Hid RN.wordsT
    rw [hr]
    by_cases h0:xs=[]
    ·subst h0;rfl
    ·rw [if_neg (by simpa using h0),if_neg h0]
   clear hr
   rcases hz with ⟨h0,hz⟩ | ⟨h0,hz⟩
   ·have HF:Hid ((⟨(RN.wordsT RN.tDash (xs.map Lib.decDigits)).toArray⟩:ByteArray)=⟨#[45]⟩):=by unfold Hid;rw [HW.out,if_pos h0]
    have z1:((t.size:Int) == 0)=true:=by rw [hz];rfl
    clear h0 hz
    go_wp2
    go_ret
    rw [HF.out]
    exact ⟨rfl,rfl⟩
   ·have HF:Hid ((⟨(RN.wordsT RN.tDash (xs.map Lib.decDigits)).toArray⟩:ByteArray)=t):=by unfold Hid;rw [HW.out,if_neg h0]
    have z1:((t.size:Int) == 0)=false:=by rw [beq_eq_false_iff_ne];omega
    clear h0
    go_wp2
    go_ret
    rw [HF.out]
    exact ⟨rfl,rfl⟩
def EoPost (s:ByteArray) (w:World) (e:Ending) (w':World):Prop:=Ext w w'∧((∃ W A B:Nat,IsTxt s W A B∧e=.returned (.tuple #[.agg #[.int .i64 (W:Int),.int .i64 (A:Int),.int .i64 (B:Int)],.int .i64 0]))∨
 ((∀ W A B:Nat,¬ IsTxt s W A B)∧e=.returned (.tuple #[.agg #[.int .i64 0,.int .i64 0,.int .i64 0],.int .i64 5])))
theorem eo_no {s:ByteArray} {w W:World} {tmps:Array Value} {x y z:Value} (hb:Blk W w.heap.size 128 #[x,y,z]) (hx:Ext w W) (hn:∀ W A B:Nat,¬ IsTxt s W A B) (hp:tmps.getD 2 undef=.pointer (some ⟨w.heap.size,0,none⟩)) (he:tmps.getD 3 undef=.int .i64 5):
  bodyPost Tryz.prog Tryz.f96 (EoPost s w) .ret ⟨tmps,[]⟩ (((W.setCell ⟨w.heap.size,0,none⟩ (.int .i64 0)).setCell ⟨w.heap.size,1,none⟩ (.int .i64 0)).setCell ⟨w.heap.size,2,none⟩ (.int .i64 0)):=by
 have h:=w3c_blk hb (.int .i64 0) (.int .i64 0) (.int .i64 0)
 refine bodyPost_ret (results_ev rfl _ _ w.heap.size hp (h.cell 0) (h.cell 1) (h.cell 2)) rfl ?_
 exact ⟨w3c_ext hx _ _ _,.inr ⟨hn,congrArg (fun z=>Ending.returned (.tuple #[.agg #[.int .i64 0,.int .i64 0,.int .i64 0],z])) he⟩⟩
theorem eo_yes {s:ByteArray} {w W0:World} {tmps:Array Value} {x y z:Value} {W A B:Nat} (hb:Blk W0 w.heap.size 128 #[x,y,z]) (hx:Ext w W0) (ht:IsTxt s W A B) (hp:tmps.getD 2 undef=.pointer (some ⟨w.heap.size,0,none⟩)) (he:tmps.getD 3 undef=.int .i64 0):
  bodyPost Tryz.prog Tryz.f96 (EoPost s w) .ret ⟨tmps,[]⟩ (((W0.setCell ⟨w.heap.size,0,none⟩ (.int .i64 (W:Int))).setCell ⟨w.heap.size,1,none⟩ (.int .i64 (A:Int))).setCell ⟨w.heap.size,2,none⟩ (.int .i64 (B:Int))):=by
 have h:=w3c_blk hb (.int .i64 (W:Int)) (.int .i64 (A:Int)) (.int .i64 (B:Int))
 refine bodyPost_ret (results_ev rfl _ _ w.heap.size hp (h.cell 0) (h.cell 1) (h.cell 2)) rfl ?_
 exact ⟨w3c_ext hx _ _ _,.inl ⟨W,A,B,ht,congrArg (fun z=>Ending.returned (.tuple #[.agg #[.int .i64 (W:Int),.int .i64 (A:Int),.int .i64 (B:Int)],z])) he⟩⟩
def wf (ix:Int) (k:Nat):Int:=if 0≤ix∧ix < (k:Int) then ix+1 else 0
theorem ix_iff (c:UInt8):(Lib.indexByte NT.sgs c=0↔c=43)∧(Lib.indexByte NT.sgs c=1↔c=45)∧(Lib.indexByte NT.sgs c=2↔c=63):=by
 unfold NT.sgs
 by_cases h1:(43:UInt8)=c
 ·subst h1;decide
 ·by_cases h2:(45:UInt8)=c
  ·subst h2;decide
  ·by_cases h3:(63:UInt8)=c
   ·subst h3;decide
   ·simp [Lib.indexByte,h1,h2,h3,Ne.symm h1,Ne.symm h2,Ne.symm h3]
def EoR (w:World) (R g5:Nat) (ix na nb:Int) (k:Nat) (wr:World):Prop:=Blk wr g5 128 #[.int .i64 (wf ix k),.int .i64 na,.int .i64 nb]∧Blk wr R 128 #[.int .i64 0,.int .i64 0,.int .i64 0]∧Ext w wr
theorem EoR.drewN {w wr:World} {R g5 k:Nat} {ix na nb:Int} (h:EoR w R g5 ix na nb k wr) (q:Nat):EoR w R g5 ix na nb k (wr.drewN q):=⟨h.1.drewN q,h.2.1.drewN q,Ext.trans h.2.2 (Ext.drewN _ _)⟩
theorem EoR.miss {w wr:World} {R g5 k:Nat} {ix na nb:Int} (h:EoR w R g5 ix na nb k wr) (hk:ix≠(k:Int)):EoR w R g5 ix na nb (k+1) wr:=by
 have e:wf ix (k+1)=wf ix k:=by
  unfold wf
  by_cases h1:0≤ix∧ix < (k:Int)
  ·rw [if_pos h1,if_pos (by omega)]
  ·rw [if_neg h1,if_neg (by omega)]
 exact ⟨by rw [e];exact h.1,h.2⟩
theorem EoR.hit {w wr:World} {R g5 k:Nat} {ix na nb:Int} (h:EoR w R g5 ix na nb k wr) (hk:ix=(k:Int)) (hg:w.heap.size < g5) (hR:R < g5) (v:Int) (hv:v=(k:Int)+1):EoR w R g5 ix na nb (k+1) (wr.setCell ⟨g5,0,none⟩ (.int .i64 v)):=by
 have e:wf ix (k+1)=v:=by unfold wf;rw [if_pos (by omega)];omega
 refine ⟨?_,h.2.1.far (p:=⟨g5,0,none⟩) (by simp;omega) _,?_⟩
 ·have:=h.1.set_ 0 (.int .i64 v)
  rw [e];simpa using this
 ·have:=((Chg.of_below h.2.2).setCell (p:=⟨g5,0,none⟩) (fun _=>Nat.le_of_lt hg) (.int .i64 v))
  exact this.below (Nat.le_refl _) (fun _ _ h=>h)
set_option maxRecDepth 100000 in
theorem eventOf_any (s:ByteArray) (hs:s.size≤1048576) (w:World):Calls Tryz.prog 96 #[.string s] w (EoPost s w):=by
 have e0:s.size=s.data.toList.length:=by rw [Array.length_toList];rfl
 rcases hl:s.data.toList with _ | ⟨ch,r⟩
 ·have hsz:s.size=0:=by rw [e0,hl];rfl
  have HN:Hid (∀ W A B:Nat,¬ IsTxt s W A B):=fun W A B h=>by have:=h.2;rw [hl] at this;simp [NT.txt] at this
  have hsz':(s.size:Int) < 1:=by omega
  clear hl e0 hs hsz
  have HBW:=Lib.hid (Blk.new w 128 #[.int .i64 0,.int .i64 0,.int .i64 0])
  have HXW:Hid (Ext w (w.alloc (.cells #[.int .i64 0,.int .i64 0,.int .i64 0] 128))):=Ext.alloc _ _
  go_enter Tryz.func96,Tryz.ntmps96
  go_wp2
  refine bodyPost_ret (results_ev rfl _ _ w.heap.size rfl (HBW.out.cell 0) (HBW.out.cell 1) (HBW.out.cell 2)) rfl ?_
  exact ⟨HXW.out,.inr ⟨HN.out,rfl⟩⟩
 have h1:1≤s.size:=by rw [e0,hl];simp
 have HRL:Hid (NT.evF s.data.toList=match NT.spl [] r with
  | [a,b]=>some (Lib.indexByte NT.sgs ch+1,NT.numF a,NT.numF b)
  | _=>none):=by unfold Hid;rw [hl];rfl
 have hc0:s[0]=ch:=by
  have hh:s.data.toList[0]?=some ch:=by rw [hl];rfl
  rw [Array.getElem?_toList] at hh
  obtain ⟨_,hh⟩:=Array.getElem?_eq_some_iff.1 hh
  exact hh
 have HCL:Hid ((s.extract 1 s.size).data.toList=r):=by unfold Hid;rw [str_drop _ _ h1,hl];rfl
 have z1:(1:Int)≤(s.size:Int):=by omega
 have z2:¬ (s.size:Int) < 1:=by omega
 have hex:(s.extract 1 s.size).size≤1048576:=by
  have:(s.extract 1 s.size).size=s.size - 1:=by simp [ByteArray.size_extract]
  omega
 have SP:Hid (∀ w,Calls Tryz.prog 14 #[.string (s.extract 1 s.size),.int .u8 32] w (SpPost (s.extract 1 s.size) w)):=fun w=>nsplit_any _ hex w
 have hix:=ix_iff ch
 have hixl:=NT.idx_le ch
 obtain ⟨ix,hixe⟩:∃ i,Lib.indexByte NT.sgs ch=i:=⟨_,rfl⟩
 rw [hixe] at hix hixl HRL
 have HIX:=Lib.hid hix
 have HIXL:=Lib.hid hixl
 have HBW:=Lib.hid (Blk.new w 128 #[.int .i64 0,.int .i64 0,.int .i64 0])
 have HXW:Hid (Ext w (w.alloc (.cells #[.int .i64 0,.int .i64 0,.int .i64 0] 128))):=Ext.alloc _ _
 clear hl e0 hix hixl hixe hex
 go_enter Tryz.func96,Tryz.ntmps96
 go_wp2_with fail
 refine (SP.out _).mono ?_
 rintro e w2 ⟨A2,c2,ts,rfl,hrow,hx2,hts⟩
 have HX2:Hid (Ext w w2):=Ext.trans HXW.out hx2
 have HB2:Hid (Blk w2 w.heap.size 128 #[.int .i64 0,.int .i64 0,.int .i64 0]):=HBW.out.chg (Chg.of_below hx2) (by simp)
 have HROW:=Lib.hid hrow
 have HTS:Hid (ts.map (fun t=>t.data.toList)=NT.spl [] r):=by unfold Hid;rw [hts,HCL.out]
 clear hx2 HXW HBW hrow hts SP
 have c0:w2.cell? ⟨w.heap.size,0,none⟩=some (.int .i64 0):=HB2.out.cell 0
 have c1:w2.cell? ⟨w.heap.size,1,none⟩=some (.int .i64 0):=HB2.out.cell 1
 have c2':w2.cell? ⟨w.heap.size,2,none⟩=some (.int .i64 0):=HB2.out.cell 2
 have f0:=HB2.out.frozen 0
 have f1:=HB2.out.frozen 1
 have f2:=HB2.out.frozen 2
 by_cases hn:ts.length=2
 ·obtain ⟨t0,t1,rfl⟩:∃ a b,ts=[a,b]:=by
   match ts,hn with
   | [a,b],_=>exact ⟨a,b,rfl⟩
  obtain ⟨g,cg,hv,_,_⟩:=own_form HROW.out (by simp)
  simp only [Value.slice.injEq] at hv
  obtain ⟨rfl,_,rfl⟩:=hv
  have y0:w2.cell? ⟨g,0,none⟩=some (.string t0):=(World.ownsRow.cellAt HROW.out 0 (by simp)).trans rfl
  have y1:w2.cell? ⟨g,1,none⟩=some (.string t1):=(World.ownsRow.cellAt HROW.out 1 (by simp)).trans rfl
  obtain ⟨na,hna⟩:∃ z,NT.numF t0.data.toList=z:=⟨_,rfl⟩
  obtain ⟨nb,hnb⟩:∃ z,NT.numF t1.data.toList=z:=⟨_,rfl⟩
  have HEV:Hid (NT.evF s.data.toList=some (ix+1,na,nb)):=by
   rw [Hid,HRL.out,←HTS.out]
   simp only [List.map_cons,List.map_nil,hna,hnb]
  have N0:Hid (∀ w,Calls Tryz.prog 50 #[.string t0] w fun e w'=>e=.returned (.int .i64 na)∧w'=w):=fun w=>by rw [←hna];exact number_any t0 w
  have N1:Hid (∀ w,Calls Tryz.prog 50 #[.string t1] w fun e w'=>e=.returned (.int .i64 nb)∧w'=w):=fun w=>by rw [←hnb];exact number_any t1 w
  have hlt:g < w2.heap.size:=own_lt HROW.out rfl
  have HLT:=Lib.hid hlt
  clear hn hna hnb HRL HTS HROW
  go_wp2_with fail
  go_region_held3 (fun w'=>w'.cell? ⟨g,0,none⟩=some (.string t0)∧w'.cell? ⟨g,1,none⟩=some (.string t1)) (go_keep)
   (first
    | (go_at_call_of 50 (Value.string t0);refine (N0.out _).mono ?_;rintro e w' ⟨rfl,rfl⟩)
    | (go_at_call_of 50 (Value.string t1);refine (N1.out _).mono ?_;rintro e w' ⟨rfl,rfl⟩))
  all_goals
   have HR5:Hid (EoR w w.heap.size w2.heap.size ix na nb 0 (w2.alloc (.cells #[.int .i64 0,.int .i64 na,.int .i64 nb] 128)).drew):=by
    refine ⟨?_,(HB2.out.alloc _).drew,Ext.trans (Ext.trans HX2.out (Ext.alloc _ _)) (Ext.drew _)⟩
    have e:wf ix 0=0:=by unfold wf;rw [if_neg];omega
    rw [e]
    exact (Blk.new w2 128 _).drew
   generalize (w2.alloc (.cells #[.int .i64 0,.int .i64 na,.int .i64 nb] 128)).drew=w5 at HR5 ⊢
   obtain ⟨g5,hg5⟩:∃ g,w2.heap.size=g:=⟨_,rfl⟩
   have HG5:Hid (w.heap.size < g5):=by rw [Hid,←hg5];exact HB2.out.lt
   rw [hg5] at HR5 ⊢
   clear hg5 HX2 HB2 c0 c1 c2' f0 f1 f2 y0 y1 HLT hlt N0 N1
   go_wp2
   go_loopw [6] (fun v6 wr=>∃ k:Nat,k≤3∧v6=.int .i64 (k:Int)∧Hid (EoR w w.heap.size g5 ix na nb k wr)) (fun v6 _=>3 - (intOf v6).toNat)
   case atStart=>exact ⟨0,by omega,rfl,HR5.out⟩
   case round=>
    clear HR5
    obtain ⟨k,hk,rfl,HR⟩:=hrel
    have b0:wr.cell? ⟨g5,0,none⟩=some (.int .i64 (wf ix k)):=HR.out.1.cell 0
    have fz:=HR.out.1.frozen 0
    have b1:wr.cell? ⟨g5,1,none⟩=some (.int .i64 na):=HR.out.1.cell 1
    have b2:wr.cell? ⟨g5,2,none⟩=some (.int .i64 nb):=HR.out.1.cell 2
    by_cases hk3:k=3
    ·subst hk3
     have hw3:wf ix 3=ix+1:=by
      have:=HIXL.out
      unfold wf
      by_cases h:0≤ix∧ix < ((3:Nat):Int)
      ·rw [if_pos h]
      ·rw [if_neg h];omega
     have b0':wr.cell? ⟨g5,0,none⟩=some (.int .i64 (ix+1)):=by rw [←hw3];exact b0
     clear b0 hw3 hk
     go_wp2_with fail
     refine (efault_any (ix+1) na nb wr).mono ?_
     rintro e w6 ⟨rfl,hx6⟩
     have HRB:Hid (Blk w6 w.heap.size 128 #[.int .i64 0,.int .i64 0,.int .i64 0]):=HR.out.2.1.chg (Chg.of_below hx6) (by have:=HR.out.2.1.lt;omega)
     have HX6:Hid (Ext w w6):=Ext.trans HR.out.2.2 hx6
     have hg5:g5 < wr.heap.size:=HR.out.1.lt
     have d0:w6.cell? ⟨g5,0,none⟩=some (.int .i64 (ix+1)):=(hx6.cell (p:=⟨g5,0,none⟩) hg5).trans b0'
     have d1:w6.cell? ⟨g5,1,none⟩=some (.int .i64 na):=(hx6.cell (p:=⟨g5,1,none⟩) hg5).trans b1
     have d2:w6.cell? ⟨g5,2,none⟩=some (.int .i64 nb):=(hx6.cell (p:=⟨g5,2,none⟩) hg5).trans b2
     have c0:w6.cell? ⟨w.heap.size,0,none⟩=some (.int .i64 0):=HRB.out.cell 0
     have c1:w6.cell? ⟨w.heap.size,1,none⟩=some (.int .i64 0):=HRB.out.cell 1
     have c2':w6.cell? ⟨w.heap.size,2,none⟩=some (.int .i64 0):=HRB.out.cell 2
     have f0:=HRB.out.frozen 0
     have f1:=HRB.out.frozen 1
     have f2:=HRB.out.frozen 2
     clear hx6 HR hg5 b0' b1 b2
     by_cases hb:evBad (ix+1) na nb=true
     ·have HN:Hid (∀ W A B:Nat,¬ IsTxt s W A B):=fun W A B h=>by
       have h3:=NT.evF_txt h.1 h.2
       rw [HEV.out] at h3
       simp only [Option.some.injEq,Prod.mk.injEq] at h3
       have h4:=h.1.w1;have h5:=h.1.w3;have h6:=h.1.a;have h7:=h.1.b
       simp only [evBad,decide_eq_true_eq] at hb
       omega
      rw [if_pos hb]
      clear hb
      go_wp2
      exact eo_no HRB.out HX6.out HN.out rfl rfl
     ·have hok:NT.evOk (ix+1,na,nb):=by
       simp only [evBad,decide_eq_true_eq] at hb
       refine ⟨?_,?_,?_,?_,?_,?_⟩ <;> simp only <;> omega
      obtain ⟨W,A,B,hxe,hv,hle⟩:=NT.txt_evF HEV.out hok
      simp only [Prod.mk.injEq] at hxe
      obtain ⟨e1,rfl,rfl⟩:=hxe
      have HT:Hid (IsTxt s W A B):=⟨hv,hle⟩
      rw [if_neg hb]
      rw [e1] at d0
      clear hb hok hv hle HEV
      go_wp2
      exact eo_yes HRB.out HX6.out HT.out rfl rfl
    ·have hcase:k=0∨k=1∨k=2:=by omega
     clear hk hk3
     rcases hcase with rfl | rfl | rfl
     ·by_cases hm:ch=43
      ·have hixk:ix=((0:Nat):Int):=HIX.out.1.2 hm
       have q1:((((⟨#[43,45,63]⟩:ByteArray)[0]'(by decide)).toNat:Int) == (ch.toNat:Int))=true:=by rw [hm];rfl
       have q2:(((⟨#[43,45,63]⟩:ByteArray)[0]'(by decide)).toNat:Int)=(ch.toNat:Int):=by rw [hm];rfl
       have HH:Hid (∀ q,EoR w w.heap.size g5 ix na nb 1 ((wr.drewN q).setCell ⟨g5,0,none⟩ (.int .i64 1))):=fun q=>(HR.out.drewN q).hit hixk HG5.out HG5.out 1 (by decide)
       clear hm hixk HR
       go_wp2
       go_quiet (fail)
       go_wp2
       go_roundw
       case rel=>exact ⟨1,by omega,by rfl,HH.out _⟩
       case measure=>simp [intOf]
      ·have hixk:ix≠((0:Nat):Int):=fun h=>hm (HIX.out.1.1 h)
       have q1:((((⟨#[43,45,63]⟩:ByteArray)[0]'(by decide)).toNat:Int) == (ch.toNat:Int))=false:=by
        rw [beq_eq_false_iff_ne]
        intro h
        apply hm
        apply UInt8.toNat_inj.1
        have e:(43:UInt8).toNat=43:=rfl
        have e2:(((⟨#[43,45,63]⟩:ByteArray)[0]'(by decide)).toNat:Int)=43:=rfl
        omega
       have q2:¬ (((⟨#[43,45,63]⟩:ByteArray)[0]'(by decide)).toNat:Int)=(ch.toNat:Int):=by rw [beq_eq_false_iff_ne] at q1;exact q1
       have HH:Hid (∀ q,EoR w w.heap.size g5 ix na nb 1 (wr.drewN q)):=fun q=>(HR.out.drewN q).miss hixk
       clear hm hixk HR
       go_wp2
       go_quiet (fail)
       go_wp2
       go_roundw
       case rel=>exact ⟨1,by omega,by rfl,HH.out _⟩
       case measure=>simp [intOf]
     ·by_cases hm:ch=45
      ·have hixk:ix=((1:Nat):Int):=HIX.out.2.1.2 hm
       have q1:((((⟨#[43,45,63]⟩:ByteArray)[1]'(by decide)).toNat:Int) == (ch.toNat:Int))=true:=by rw [hm];rfl
       have q2:(((⟨#[43,45,63]⟩:ByteArray)[1]'(by decide)).toNat:Int)=(ch.toNat:Int):=by rw [hm];rfl
       have HH:Hid (∀ q,EoR w w.heap.size g5 ix na nb 2 ((wr.drewN q).setCell ⟨g5,0,none⟩ (.int .i64 2))):=fun q=>(HR.out.drewN q).hit hixk HG5.out HG5.out 2 (by decide)
       clear hm hixk HR
       go_wp2
       go_quiet (fail)
       go_wp2
       go_roundw
       case rel=>exact ⟨2,by omega,by rfl,HH.out _⟩
       case measure=>simp [intOf]
      ·have hixk:ix≠((1:Nat):Int):=fun h=>hm (HIX.out.2.1.1 h)
       have q1:((((⟨#[43,45,63]⟩:ByteArray)[1]'(by decide)).toNat:Int) == (ch.toNat:Int))=false:=by
        rw [beq_eq_false_iff_ne]
        intro h
        apply hm
        apply UInt8.toNat_inj.1
        have e:(45:UInt8).toNat=45:=rfl
        have e2:(((⟨#[43,45,63]⟩:ByteArray)[1]'(by decide)).toNat:Int)=45:=rfl
        omega
       have q2:¬ (((⟨#[43,45,63]⟩:ByteArray)[1]'(by decide)).toNat:Int)=(ch.toNat:Int):=by rw [beq_eq_false_iff_ne] at q1;exact q1
       have HH:Hid (∀ q,EoR w w.heap.size g5 ix na nb 2 (wr.drewN q)):=fun q=>(HR.out.drewN q).miss hixk
       clear hm hixk HR
       go_wp2
       go_quiet (fail)
       go_wp2
       go_roundw
       case rel=>exact ⟨2,by omega,by rfl,HH.out _⟩
       case measure=>simp [intOf]
     ·by_cases hm:ch=63
      ·have hixk:ix=((2:Nat):Int):=HIX.out.2.2.2 hm
       have q1:((((⟨#[43,45,63]⟩:ByteArray)[2]'(by decide)).toNat:Int) == (ch.toNat:Int))=true:=by rw [hm];rfl
       have q2:(((⟨#[43,45,63]⟩:ByteArray)[2]'(by decide)).toNat:Int)=(ch.toNat:Int):=by rw [hm];rfl
       have HH:Hid (∀ q,EoR w w.heap.size g5 ix na nb 3 ((wr.drewN q).setCell ⟨g5,0,none⟩ (.int .i64 3))):=fun q=>(HR.out.drewN q).hit hixk HG5.out HG5.out 3 (by decide)
       clear hm hixk HR
       go_wp2
       go_quiet (fail)
       go_wp2
       go_roundw
       case rel=>exact ⟨3,by omega,by rfl,HH.out _⟩
       case measure=>simp [intOf]
      ·have hixk:ix≠((2:Nat):Int):=fun h=>hm (HIX.out.2.2.1 h)
       have q1:((((⟨#[43,45,63]⟩:ByteArray)[2]'(by decide)).toNat:Int) == (ch.toNat:Int))=false:=by
        rw [beq_eq_false_iff_ne]
        intro h
        apply hm
        apply UInt8.toNat_inj.1
        have e:(63:UInt8).toNat=63:=rfl
        have e2:(((⟨#[43,45,63]⟩:ByteArray)[2]'(by decide)).toNat:Int)=63:=rfl
        omega
       have q2:¬ (((⟨#[43,45,63]⟩:ByteArray)[2]'(by decide)).toNat:Int)=(ch.toNat:Int):=by rw [beq_eq_false_iff_ne] at q1;exact q1
       have HH:Hid (∀ q,EoR w w.heap.size g5 ix na nb 3 (wr.drewN q)):=fun q=>(HR.out.drewN q).miss hixk
       clear hm hixk HR
       go_wp2
       go_quiet (fail)
       go_wp2
       go_roundw
       case rel=>exact ⟨3,by omega,by rfl,HH.out _⟩
       case measure=>simp [intOf]
 ·have HN:Hid (∀ W A B:Nat,¬ IsTxt s W A B):=fun W A B h=>by
   have h3:=NT.evF_txt h.1 h.2
   rw [HRL.out,←HTS.out] at h3
   match ts,hn,h3 with
   | [a,b],hn,_=>exact hn rfl
   | [],_,h3=>simp at h3
   | [a],_,h3=>simp at h3
   | a::b::d::q,_,h3=>simp at h3
  obtain ⟨n,hnn⟩:∃ n,ts.length=n:=⟨_,rfl⟩
  rw [hnn] at hn ⊢
  have hn2:((n:Int) != 2)=true:=by rw [bne_iff_ne];omega
  have hn3:¬ (n:Int)=2:=by omega
  clear HRL HTS HROW hnn
  go_wp2
  exact eo_no HB2.out HX2.out HN.out rfl rfl
end Go.Proofs.YtkoajpeabicpdaaGreatDoor
