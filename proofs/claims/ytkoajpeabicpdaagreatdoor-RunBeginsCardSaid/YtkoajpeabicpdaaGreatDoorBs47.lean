/-
Walks of the references' Line, a theorem a command. Conditions: the session lies as 'RefA' says; the text has at most 3000 bytes.
-/
import Derived.Test.YtkoajpeabicpdaaGreatDoorBs45
import Derived.Test.YtkoajpeabicpdaaGreatDoorBs46
import Derived.Test.YtkoajpeabicpdaaGreatDoorBs33
import Derived.Test.YtkoajpeabicpdaaGreatDoorBs43
import Derived.Defers
import Derived.Recover
import Derived.Deep.RegionHeld3
set_option linter.unusedVariables false
set_option maxHeartbeats 8000000
namespace Go.Proofs.YtkoajpeabicpdaaGreatDoor
open Go Go.RowKit SQ TR DF PD PT
def RlP (w0:World) (m t:Nat) (E S:List AK.Ed) (s:ByteArray) (e:Ending) (w':World):Prop:=∃ o E' S' t',RN.AnsR (RN.cmdF s.data.toList) E S t o E' S' t'∧e=.returned (.string ⟨o.toArray⟩)∧RefA w' m t' E' S'∧Chg (fun k=>k=m) w0 w'
theorem strB_t {s:ByteArray} {l:List UInt8} (h:s.data.toList=l):(s.toList == l)=true:=by rw [ByteArray.toList_eq,h];simp
theorem strB_f {s:ByteArray} {l:List UInt8} (h:s.data.toList≠l):(s.toList == l)=false:=by rw [ByteArray.toList_eq,beq_eq_false_iff_ne];exact h
theorem strP_t {s:ByteArray} {l:List UInt8} (h:s.data.toList=l):s.toList=l:=by rw [ByteArray.toList_eq,h]
theorem strP_f {s:ByteArray} {l:List UInt8} (h:s.data.toList≠l):¬ s.toList=l:=by rw [ByteArray.toList_eq];exact h
theorem do_f {s:ByteArray} (h2:2 < s.size) (h:s.data.toList.take 3≠[100,111,32]):((s.extract 0 3).toList == [100,111,32])=false:=strB_f (by rw [str_take s 3 (by omega)];exact h)
theorem do_t {s:ByteArray} (h2:2 < s.size) (h:s.data.toList.take 3=[100,111,32]):((s.extract 0 3).toList == [100,111,32])=true:=strB_t (by rw [str_take s 3 (by omega)];exact h)
namespace RN
theorem spc_single {c:UInt8} {l x:List UInt8} (h:spc c [] l=[x]):x=l:=by
 by_cases hm:c∈l
 ·obtain ⟨a,b,ha,rfl⟩:=mem_at hm
  rw [spc_at ha] at h
  injection h with _ h
  exact absurd h (spc_ne c b [])
 ·rw [spc_no hm] at h
  simpa using h.symm
theorem cmd_size_bad {x:List UInt8} (h:NT.numF x=-1):cmdW [[115,105,122,101],x]=.bad:=by
 show (if [115,105,122,101]=wSize∧0≤NT.numF x then Cmd.size (NT.numF x).toNat else .bad)=_
 rw [if_neg (fun q=>by have:=q.2;omega)]
theorem cmd_size {x:List UInt8} {a:Nat} (h:NT.numF x=(a:Int)):cmdW [[115,105,122,101],x]=.size a:=by
 show (if [115,105,122,101]=wSize∧0≤NT.numF x then Cmd.size (NT.numF x).toNat else .bad)=_
 rw [if_pos ⟨rfl,by omega⟩,h];rfl
theorem cmd_way_bad {x y:List UInt8} (h:NT.numF x=-1∨NT.numF y=-1):cmdW [[119,97,121],x,y]=.bad:=by
 show (if [119,97,121]=wWay∧0≤NT.numF x∧0≤NT.numF y then Cmd.way (NT.numF x).toNat (NT.numF y).toNat else .bad)=_
 rw [if_neg (fun q=>by have:=q.2;omega)]
theorem cmd_way {x y:List UInt8} {a b:Nat} (h:NT.numF x=(a:Int)) (k:NT.numF y=(b:Int)):cmdW [[119,97,121],x,y]=.way a b:=by
 show (if [119,97,121]=wWay∧0≤NT.numF x∧0≤NT.numF y then Cmd.way (NT.numF x).toNat (NT.numF y).toNat else .bad)=_
 rw [if_pos ⟨rfl,by omega,by omega⟩,h,k];rfl
theorem not_word {l:List UInt8} (h:(spc 32 [] l).length≠1):l≠[112,97,114,116,115]∧l≠[98,114,105,100,103,101,115]∧l≠[106,111,105,110,116,115]∧l≠[115,97,118,101]∧l≠[116,117,114,110]∧l≠[99,114,97,115,104]:=by
 refine ⟨?_,?_,?_,?_,?_,?_⟩
 all_goals
  rintro rfl
  exact h (by decide)
end RN
theorem map_one {ts:List ByteArray} {x:List UInt8} (h:ts.map (fun t=>t.data.toList)=[x]):ts.length=1∧∃ t,ts[0]?=some t∧t.data.toList=x:=by
 match ts,h with
 | [a],h=>simp at h;exact ⟨rfl,a,rfl,h⟩
theorem map_two {ts:List ByteArray} {x y:List UInt8} (h:ts.map (fun t=>t.data.toList)=[x,y]):ts.length=2∧∃ t u,ts[0]?=some t∧t.data.toList=x∧ts[1]?=some u∧u.data.toList=y:=by
 match ts,h with
 | [a,b],h=>simp at h;exact ⟨rfl,a,b,rfl,h.1,rfl,h.2⟩
theorem map_three {ts:List ByteArray} {x y z:List UInt8} (h:ts.map (fun t=>t.data.toList)=[x,y,z]):ts.length=3∧∃ t u v,ts[0]?=some t∧t.data.toList=x∧ts[1]?=some u∧u.data.toList=y∧ts[2]?=some v∧v.data.toList=z:=by
 match ts,h with
 | [a,b,c],h=>simp at h;exact ⟨rfl,a,b,c,rfl,h.1,rfl,h.2.1,rfl,h.2.2⟩
theorem dk_inn {n:Nat} {A:List AK.Ed} (h:DkE n A):Inn n A:=fun x hx=>by have:=h.ok x hx;omega
theorem dk_fine {n:Nat} {A:List AK.Ed} (h:DkE n A):Fine n A:=⟨h.le,fun i x hx=>h.ok x (List.mem_of_getElem? hx)⟩
theorem ref_parts {w:World} {R:Option Addr} {c:Nat} {E:List AK.Ed} (h:EdsAt w R E) (hd:DkE 20 E):Calls Tryz.prog 49 #[.int .i64 20,.slice R E.length c] w fun e w'=>∃ (p:List Nat) (g cp:Nat),e=.returned (.slice (some ⟨g,0,none⟩) 20 cp)∧NRow w' (.slice (some ⟨g,0,none⟩) 20 cp) 20 p∧IsParts 20 (prs E) p∧Ext w w':=by
 refine (parts_any w R 20 E.length c E rfl (by omega) (by omega) (by have:=hd.le;omega) h (dk_inn hd)).mono ?_
 rintro e w' ⟨p,g,cp,rfl,h1,h2,h3,_⟩
 exact ⟨p,g,cp,rfl,h1,h2,h3⟩
theorem ref_count {w:World} {g cp:Nat} {p:List Nat} {E:List AK.Ed} (h:NRow w (.slice (some ⟨g,0,none⟩) 20 cp) 20 p) (hp:IsParts 20 (prs E) p) (hd:DkE 20 E):Calls Tryz.prog 48 #[.slice (some ⟨g,0,none⟩) 20 cp] w fun e w'=>e=.returned (.int .i64 (PD.cnt (ldr E) 20:Nat))∧Ext w w':=by
 have hc:cntP 20 p=PD.cnt (ldr E) 20:=by
  unfold cntP
  refine cnt_congr fun i hi=>?_
  obtain ⟨v,hv,hvi,hc⟩:=hp.get hi
  have hc2:Cn (adj E) i v:=(con_iff (gr_prs hd.ok) i v).1 hc
  rw [ldr_iff]
  unfold fx
  rw [hv]
  constructor
  ·intro q u hu c
   have hiv:v=i:=by simpa using q
   have:=hp.least hv (by omega) ((con_iff (gr_prs hd.ok) i u).2 c)
   omega
  ·intro q
   have:v=i:=by
    by_cases e:v < i
    ·exact absurd hc2 (q v e)
    ·omega
   simp [this]
 have hi:=natv_ints h
 refine (count_any w _ 20 cp p hi.1 hi.2 (by omega)).mono ?_
 rintro e w' ⟨rfl,hx⟩
 exact ⟨by rw [hc],hx⟩
theorem ref_size {w:World} {g cp a:Nat} {p:List Nat} {E:List AK.Ed} (h:NRow w (.slice (some ⟨g,0,none⟩) 20 cp) 20 p) (hp:IsParts 20 (prs E) p) (hd:DkE 20 E) (ha:a < 20):Calls Tryz.prog 52 #[.slice (some ⟨g,0,none⟩) 20 cp,.int .i64 (a:Int)] w fun e w'=>e=.returned (.int .i64 ((comp 20 E a).length:Nat))∧Ext w w':=by
 obtain ⟨v,hv,_,_⟩:=hp.get ha
 refine (sizeOf_any w g cp 20 p h a v ha hv (by omega)).mono ?_
 rintro e w' ⟨rfl,hx⟩
 exact ⟨by rw [gsize_cnt hd.ok hp hv],hx⟩
theorem natV_map (p:List Nat):natsV p=(p.map fun (x:Nat)=>(x:Int)).map (Value.int .i64):=by simp [natsV]
theorem sz_of {y:ByteArray} {l:List UInt8} {k:Nat} (h:y.data.toList=l) (hk:l.length≤k):y.size≤k:=by rw [sz_len,h];exact hk
def BgR (w:World) (x:List AK.Ed) (i:Nat) (y:ByteArray) (wr:World):Prop:=y.data.toList=(if i=0 then [45] else RN.joinW ((x.map RN.edW).take i))∧Ext w wr
section
variable {w wr w':World} {x:List AK.Ed} {i:Nat} {y y':ByteArray} {z:AK.Ed} {l:List UInt8}
theorem BgR.first (h:BgR w x 0 y wr) (hx:Ext wr w') (hz:x[0]?=some z) (he:RN.edW z=l) (hy:y'.data.toList=l):BgR w x 1 y' w':=by
 refine ⟨?_,h.2.trans hx⟩
 rw [if_neg (by omega),joinW_first (x:=RN.edW z) (by rw [List.getElem?_map,hz];rfl),he,hy]
theorem BgR.next (h:BgR w x i y wr) (hx:Ext wr w') (h0:0 < i) (hz:x[i]?=some z) (he:RN.edW z=l) (hy:y'.data.toList=y.data.toList++32::l):BgR w x (i+1) y' w':=by
 refine ⟨?_,h.2.trans hx⟩
 have h1:=h.1
 rw [if_neg (by omega)] at h1 ⊢
 rw [joinW_take (x:=RN.edW z) (by rw [List.getElem?_map,hz];rfl) h0,he,hy,h1]
theorem BgR.done (h:BgR w x i y wr) (hi:x.length=i):y.data.toList=RN.wordsT RN.tDash (x.map RN.edW):=by
 rw [h.1]
 unfold RN.wordsT
 by_cases h0:i=0
 ·subst h0
  rw [List.eq_nil_of_length_eq_zero hi];rfl
 ·rw [if_neg h0,if_neg (fun e=>by have:=congrArg List.length e;rw [List.length_map] at this;simp at this;subst this;simp at hi;omega),List.take_of_length_le (by rw [List.length_map];omega)]
end
theorem ref_save {wr:World} {m t:Nat} {E S:List AK.Ed} {R1 R2:Option Addr} {c1 c2:Nat} (hb:Blk wr m 49 #[.slice R1 E.length c1,.slice R2 S.length c2,.int .i64 (t:Int)]) (hr:RowE wr R1 c1 E) (he:DkE 20 E):RefA ((wr.setCell ⟨m,1,none⟩ (.slice R1 E.length c1)).setCell ⟨m,2,none⟩ (.int .i64 ((t:Int)+1))) m (t+1) E E:=by
 have hb1:=hb.set_ 1 (.slice R1 E.length c1)
 have hr1:=rowE_off hr (chg_set wr m 1 (.slice R1 E.length c1)) hb
 have hb2:=hb1.set_ 2 (.int .i64 ((t:Int)+1))
 have hr2:=rowE_off hr1 (chg_set _ m 2 (.int .i64 ((t:Int)+1))) hb1
 exact ⟨⟨R1,c1,R1,c1,by simpa using hb2,hr2,hr2⟩,he,he⟩
set_option maxRecDepth 100000 in
theorem rline_parts {w0:World} {m t:Nat} {E S:List AK.Ed} (h:RefA w0 m t E S) (s:ByteArray) (hs:s.size≤3000) (ht:t < 99999) (hl:s.data.toList=[112,97,114,116,115]):Calls Tryz.prog 15 #[.pointer (some ⟨m,0,none⟩),.string s] w0 (RlP w0 m t E S s):=by
 have H:=Lib.hid h
 clear h
 have hz:=sz_len s
 rw [hl] at hz
 simp only [List.length_cons,List.length_nil] at hz
 have h2:(2:Int) < (s.size:Int):=by omega
 have q0:(3:Int)≤(s.size:Int):=by omega
 have qd:=do_f (s:=s) (by omega) (by rw [hl];decide)
 have HW:Hid (RN.spc 32 [] s.data.toList=[[112,97,114,116,115]]):=by unfold Hid;rw [hl];decide
 have HC:Hid (RN.cmdF s.data.toList=.parts):=by unfold Hid;rw [hl];rfl
 have n0:((1:Nat):Int)=1:=rfl
 have f_parts:=strB_t hl
 clear hl hz
 go_enter Tryz.func15,Tryz.ntmps15
 go_wp2_with fail
 refine (sp_ref 32 s (by omega) _).mono ?_
 rintro e w1 ⟨ts,_,cp,rfl,h1,⟨rb,rfl,hb1,hb2⟩,h3,h4⟩
 rw [HW.out] at h1
 obtain ⟨hn,t0,g0,e0⟩:=map_one h1
 have c0:=hb2 0 _ g0
 rw [hn] at h3 ⊢
 have HX:Hid (Ext w0 w1):=h4
 have g_size:=strB_f (s:=t0) (l:=[115,105,122,101]) (by rw [e0];decide)
 have g_way:=strB_f (s:=t0) (l:=[119,97,121]) (by rw [e0];decide)
 obtain ⟨R1,d1,R2,d2,r1,r2,r3⟩:=(H.out.moved HX.out).at_
 have HB:Hid (Blk w1 m 49 #[.slice R1 E.length d1,.slice R2 S.length d2,.int .i64 (t:Int)]∧RowE w1 R1 d1 E∧RowE w1 R2 d2 S):=⟨r1,r2,r3⟩
 have c5:=r1.cell 0
 have c6:=r1.cell 1
 have c7:=r1.cell 2
 have f5:=r1.frozen 0
 have f6:=r1.frozen 1
 have f7:=r1.frozen 2
 simp only [List.getElem?_toArray,List.getElem?_cons_zero,List.getElem?_cons_succ] at c5 c6 c7
 clear h1 g0 e0 hb1 hb2 h3 h4 hn r1 r2 r3
 have HP:Hid (∀ W',Ext w1 W'→RlP w0 m t E S s (.returned (.string ⟨(Lib.decDigits (PD.cnt (ldr E) 20)).toArray⟩)) W'):=fun W' hW=>⟨_,E,S,t,by rw [HC.out];exact ⟨rfl,rfl,rfl,rfl⟩,rfl,(H.out.moved HX.out).moved hW,Chg.new (HX.out.trans hW) _⟩
 go_wp2_with fail
 refine (ref_parts HB.out.2.1.1 H.out.e).mono ?_
 rintro e w2 ⟨p,g,cp2,rfl,q1,q2,q3⟩
 have HX2:=Lib.hid q3
 have HCT:=Lib.hid (ref_count q1 q2 H.out.e)
 clear q1 q2 q3
 go_wp2_with fail
 refine HCT.out.mono ?_
 rintro e w3 ⟨rfl,q3⟩
 have HX3:Hid (Ext w1 w3):=HX2.out.trans q3
 clear q3
 go_wp2_with fail
 refine (rdec_any (PD.cnt (ldr E) 20) (by have:=RN.cnt_le (ldr E) 20;omega) _).mono ?_
 rintro e w' ⟨rfl,rfl⟩
 go_wp2
 go_ret
 exact HP.out _ HX3.out
set_option maxRecDepth 100000 in
theorem rline_bridges {w0:World} {m t:Nat} {E S:List AK.Ed} (h:RefA w0 m t E S) (s:ByteArray) (hs:s.size≤3000) (ht:t < 99999) (hl:s.data.toList=[98,114,105,100,103,101,115]):Calls Tryz.prog 15 #[.pointer (some ⟨m,0,none⟩),.string s] w0 (RlP w0 m t E S s):=by
 have H:=Lib.hid h
 clear h
 have hz:=sz_len s
 rw [hl] at hz
 simp only [List.length_cons,List.length_nil] at hz
 have h2:(2:Int) < (s.size:Int):=by omega
 have q0:(3:Int)≤(s.size:Int):=by omega
 have qd:=do_f (s:=s) (by omega) (by rw [hl];decide)
 have HW:Hid (RN.spc 32 [] s.data.toList=[[98,114,105,100,103,101,115]]):=by unfold Hid;rw [hl];decide
 have HC:Hid (RN.cmdF s.data.toList=.bridges):=by unfold Hid;rw [hl];rfl
 have n0:((1:Nat):Int)=1:=rfl
 have f_parts:=strB_f (s:=s) (l:=[112,97,114,116,115]) (by rw [hl];decide)
 have f_bridges:=strB_t hl
 clear hl hz
 go_enter Tryz.func15,Tryz.ntmps15
 go_wp2_with fail
 refine (sp_ref 32 s (by omega) _).mono ?_
 rintro e w1 ⟨ts,_,cp,rfl,h1,⟨rb,rfl,hb1,hb2⟩,h3,h4⟩
 rw [HW.out] at h1
 obtain ⟨hn,t0,g0,e0⟩:=map_one h1
 have c0:=hb2 0 _ g0
 rw [hn] at h3 ⊢
 have HX:Hid (Ext w0 w1):=h4
 have g_size:=strB_f (s:=t0) (l:=[115,105,122,101]) (by rw [e0];decide)
 have g_way:=strB_f (s:=t0) (l:=[119,97,121]) (by rw [e0];decide)
 obtain ⟨R1,d1,R2,d2,r1,r2,r3⟩:=(H.out.moved HX.out).at_
 have HB:Hid (Blk w1 m 49 #[.slice R1 E.length d1,.slice R2 S.length d2,.int .i64 (t:Int)]∧RowE w1 R1 d1 E∧RowE w1 R2 d2 S):=⟨r1,r2,r3⟩
 have c5:=r1.cell 0
 have c6:=r1.cell 1
 have c7:=r1.cell 2
 have f5:=r1.frozen 0
 have f6:=r1.frozen 1
 have f7:=r1.frozen 2
 simp only [List.getElem?_toArray,List.getElem?_cons_zero,List.getElem?_cons_succ] at c5 c6 c7
 clear h1 g0 e0 hb1 hb2 h3 h4 hn r1 r2 r3
 have HBR:=Lib.hid (bridgesOf_any w1 20 R1 E.length d1 E rfl H.out.e.le HB.out.2.1.2.1.1 HB.out.2.1.2.1.2 HB.out.2.1.1 (by omega) (by omega) H.out.e.ok H.out.e.up)
 go_wp2_with fail
 refine HBR.out.mono ?_
 rintro e w2 ⟨R3,d3,x,rfl,q1,q2,q3,q4⟩
 have HX2:=Lib.hid q3
 have HE2:Hid (EdsAt w2 R3 x∧∀ e∈x,0≤e.1∧e.1 < e.2∧e.2 < ((20:Nat):Int)):=⟨q1,q4.2.2⟩
 have HP:Hid (∀ W',Ext w2 W'→RlP w0 m t E S s (.returned (.string ⟨(RN.wordsT RN.tDash (x.map RN.edW)).toArray⟩)) W'):=fun W' hW=>⟨_,E,S,t,by rw [HC.out];exact ⟨⟨x,q4,q2,rfl⟩,rfl,rfl,rfl⟩,rfl,(H.out.moved HX.out).moved (q3.trans hW),Chg.new (HX.out.trans (q3.trans hW)) _⟩
 obtain ⟨K,hK⟩:∃ K,x.length=K:=⟨_,rfl⟩
 have HK:=Lib.hid hK
 rw [hK] at q2 ⊢
 clear q1 q3 q4 hK HBR
 go_wp2_with fail
 go_loopw [13,14] (fun v13 v14 wx=>∃ (i:Nat) (y:ByteArray),i≤K∧y.size≤i * 42+1∧v13=.string y∧v14=.int .i64 (i:Int)∧Hid (BgR w2 x i y wx)) (fun _ v14 _=>K - (intOf v14).toNat)
 case atStart=>exact ⟨0,⟨#[45]⟩,Nat.zero_le _,by decide,rfl,rfl,rfl,Ext.refl _⟩
 case round=>
  obtain ⟨i,y,hi,hy,rfl,rfl,HR⟩:=hrel
  have hy2:y.size≤8401:=by omega
  have hyl:y.data.toList.length≤i * 42+1:=by rw [←sz_len];exact hy
  have hsz:(⟨#[32]⟩:ByteArray).size=1:=rfl
  have hsd:(⟨#[45]⟩:ByteArray).size=1:=rfl
  by_cases hin:i < K
  ·obtain ⟨g,off,rfl,hgl,z,hz,a1,a2⟩:=eds_at (HE2.out.1.ext HR.out.2) (i:=i) (by rw [HK.out];exact hin)
   have hzm:=HE2.out.2 z (List.mem_of_getElem? hz)
   obtain ⟨u,hu⟩:=Int.eq_ofNat_of_zero_le hzm.1
   obtain ⟨v,hv⟩:=Int.eq_ofNat_of_zero_le (show 0≤z.2 by omega)
   rw [hu] at a1
   rw [hv] at a2
   have hu20:u < 60:=by omega
   have hv20:v < 60:=by omega
   have HZ:Hid (x[i]?=some z∧z=((u:Int),(v:Int))):=⟨hz,Prod.ext hu hv⟩
   have z0:(0:Int)≤(i:Int):=by omega
   have z1:(i:Int) < (K:Int):=by omega
   obtain ⟨la,hla⟩:∃ t,Lib.decDigits u=t:=⟨_,rfl⟩
   obtain ⟨lb,hlb⟩:∃ t,Lib.decDigits v=t:=⟨_,rfl⟩
   have sa:la.length≤2:=by rw [←hla];exact (NT.dec_all u hu20).2.2
   have sb:lb.length≤2:=by rw [←hlb];exact (NT.dec_all v hv20).2.2
   have sa':(⟨la.toArray⟩:ByteArray).size=la.length:=by simp [ByteArray.size]
   have sb':(⟨lb.toArray⟩:ByteArray).size=lb.length:=by simp [ByteArray.size]
   have HA:Hid (∀ w,Calls Tryz.prog 47 #[.int .i64 (u:Int)] w fun e w'=>e=.returned (.string ⟨la.toArray⟩)∧w'=w):=fun w=>by rw [←hla];exact rdec_any u (by omega) w
   have HB2:Hid (∀ w,Calls Tryz.prog 47 #[.int .i64 (v:Int)] w fun e w'=>e=.returned (.string ⟨lb.toArray⟩)∧w'=w):=fun w=>by rw [←hlb];exact rdec_any v (by omega) w
   have HED:Hid (RN.edW z=la++45::lb):=by rw [Hid,HZ.out.2,RN.edW];simp only [Int.toNat_natCast];rw [hla,hlb]
   clear hz hzm hu hv hla hlb
   by_cases h0:i=0
   ·subst h0
    have z2:(((0:Nat):Int) == 0)=true:=rfl
    rw [Nat.zero_mul,Nat.add_zero] at a1 a2
    go_wp2
    go_quiet (first
     | ((go_at_call 47;with_reducible exact Calls.quiet_of_same (HA.out _)))
     | ((go_at_call 47;with_reducible exact Calls.quiet_of_same (HB2.out _))))
    go_wp2
    go_roundw
    case rel=>exact ⟨1,_,by omega,sz_of (l:=la++45::lb) (by simp) (by simp;omega),rfl,by go_num,HR.out.first (Ext.drewN _ _) HZ.out.1 HED.out (by simp)⟩
    case measure=>simp [intOf];omega
   ·have z2:((i:Int) == 0)=false:=by rw [beq_eq_false_iff_ne];omega
    have h0':0 < i:=by omega
    go_wp2
    go_quiet (first
     | ((go_at_call 47;with_reducible exact Calls.quiet_of_same (HA.out _)))
     | ((go_at_call 47;with_reducible exact Calls.quiet_of_same (HB2.out _))))
    go_wp2
    go_roundw
    case rel=>exact ⟨i+1,_,by omega,sz_of (l:=y.data.toList++32::(la++45::lb)) (by simp) (by simp only [List.length_append,List.length_cons];omega),rfl,by go_num,HR.out.next (Ext.drewN _ _) h0' HZ.out.1 HED.out (by simp)⟩
    case measure=>simp [intOf];omega
  ·obtain rfl:K=i:=by omega
   have HF:Hid ((⟨(RN.wordsT RN.tDash (x.map RN.edW)).toArray⟩:ByteArray)=y):=(congrArg (fun l:List UInt8=>(⟨l.toArray⟩:ByteArray)) (HR.out.done HK.out).symm).trans (str_eq rfl)
   rw [HF.out] at HP
   have HXR:=Lib.hid HR.out.2
   clear q2
   go_wp2
   go_ret
   exact HP.out _ HXR.out
set_option maxRecDepth 100000 in
theorem rline_joints {w0:World} {m t:Nat} {E S:List AK.Ed} (h:RefA w0 m t E S) (s:ByteArray) (hs:s.size≤3000) (ht:t < 99999) (hl:s.data.toList=[106,111,105,110,116,115]):Calls Tryz.prog 15 #[.pointer (some ⟨m,0,none⟩),.string s] w0 (RlP w0 m t E S s):=by
 have H:=Lib.hid h
 clear h
 have hz:=sz_len s
 rw [hl] at hz
 simp only [List.length_cons,List.length_nil] at hz
 have h2:(2:Int) < (s.size:Int):=by omega
 have q0:(3:Int)≤(s.size:Int):=by omega
 have qd:=do_f (s:=s) (by omega) (by rw [hl];decide)
 have HW:Hid (RN.spc 32 [] s.data.toList=[[106,111,105,110,116,115]]):=by unfold Hid;rw [hl];decide
 have HC:Hid (RN.cmdF s.data.toList=.joints):=by unfold Hid;rw [hl];rfl
 have n0:((1:Nat):Int)=1:=rfl
 have f_parts:=strB_f (s:=s) (l:=[112,97,114,116,115]) (by rw [hl];decide)
 have f_bridges:=strB_f (s:=s) (l:=[98,114,105,100,103,101,115]) (by rw [hl];decide)
 have f_joints:=strB_t hl
 clear hl hz
 go_enter Tryz.func15,Tryz.ntmps15
 go_wp2_with fail
 refine (sp_ref 32 s (by omega) _).mono ?_
 rintro e w1 ⟨ts,_,cp,rfl,h1,⟨rb,rfl,hb1,hb2⟩,h3,h4⟩
 rw [HW.out] at h1
 obtain ⟨hn,t0,g0,e0⟩:=map_one h1
 have c0:=hb2 0 _ g0
 rw [hn] at h3 ⊢
 have HX:Hid (Ext w0 w1):=h4
 have g_size:=strB_f (s:=t0) (l:=[115,105,122,101]) (by rw [e0];decide)
 have g_way:=strB_f (s:=t0) (l:=[119,97,121]) (by rw [e0];decide)
 obtain ⟨R1,d1,R2,d2,r1,r2,r3⟩:=(H.out.moved HX.out).at_
 have HB:Hid (Blk w1 m 49 #[.slice R1 E.length d1,.slice R2 S.length d2,.int .i64 (t:Int)]∧RowE w1 R1 d1 E∧RowE w1 R2 d2 S):=⟨r1,r2,r3⟩
 have c5:=r1.cell 0
 have c6:=r1.cell 1
 have c7:=r1.cell 2
 have f5:=r1.frozen 0
 have f6:=r1.frozen 1
 have f7:=r1.frozen 2
 simp only [List.getElem?_toArray,List.getElem?_cons_zero,List.getElem?_cons_succ] at c5 c6 c7
 clear h1 g0 e0 hb1 hb2 h3 h4 hn r1 r2 r3
 have HJ:=Lib.hid (jointsOf_any w1 20 R1 E.length d1 E rfl H.out.e.le HB.out.2.1.1 (by omega) (by omega) H.out.e.ok)
 go_wp2_with fail
 refine HJ.out.mono ?_
 rintro e w2 ⟨R3,d3,x,rfl,q1,q2,q3,q4⟩
 have HX2:=Lib.hid q3
 have hxs:x=(x.map Int.toNat).map fun (y:Nat)=>(y:Int):=by
  rw [List.map_map]
  conv=>lhs;rw [←List.map_id x]
  refine List.map_congr_left fun y hy=>?_
  obtain ⟨c,rfl,_⟩:=(q4.2 y).1 hy
  simp
 have hlt:∀ y∈x.map Int.toNat,y < 1000:=fun y hy=>by
  obtain ⟨z,hz,rfl⟩:=List.mem_map.1 hy
  obtain ⟨c,rfl,hc,_⟩:=(q4.2 z).1 hz
  simp;omega
 have HN:=Lib.hid (numbers_any w2 R3 x.length d3 (x.map Int.toNat) (by simp) (by omega) (by rw [←hxs];exact q1) hlt)
 have HP:Hid (RlP w0 m t E S s (.returned (.string ⟨(RN.wordsT RN.tDash ((x.map Int.toNat).map Lib.decDigits)).toArray⟩)) w2):=⟨_,E,S,t,by rw [HC.out];exact ⟨⟨x,q4,q2,by rw [List.map_map];rfl⟩,rfl,rfl,rfl⟩,rfl,(H.out.moved HX.out).moved q3,Chg.new (HX.out.trans q3) _⟩
 obtain ⟨o,ho⟩:∃ o,RN.wordsT RN.tDash ((x.map Int.toNat).map Lib.decDigits)=o:=⟨_,rfl⟩
 rw [ho] at HN HP
 clear q1 q2 q3 q4 hxs hlt HJ ho
 go_wp2_with fail
 refine HN.out.mono ?_
 rintro e w' ⟨rfl,rfl⟩
 go_wp2
 go_ret
 exact HP.out
set_option maxRecDepth 100000 in
theorem rline_save {w0:World} {m t:Nat} {E S:List AK.Ed} (h:RefA w0 m t E S) (s:ByteArray) (hs:s.size≤3000) (ht:t < 99999) (hl:s.data.toList=[115,97,118,101]):Calls Tryz.prog 15 #[.pointer (some ⟨m,0,none⟩),.string s] w0 (RlP w0 m t E S s):=by
 have H:=Lib.hid h
 clear h
 have hz:=sz_len s
 rw [hl] at hz
 simp only [List.length_cons,List.length_nil] at hz
 have h2:(2:Int) < (s.size:Int):=by omega
 have q0:(3:Int)≤(s.size:Int):=by omega
 have qd:=do_f (s:=s) (by omega) (by rw [hl];decide)
 have HW:Hid (RN.spc 32 [] s.data.toList=[[115,97,118,101]]):=by unfold Hid;rw [hl];decide
 have HC:Hid (RN.cmdF s.data.toList=.save):=by unfold Hid;rw [hl];rfl
 have n0:((1:Nat):Int)=1:=rfl
 have f_parts:=strB_f (s:=s) (l:=[112,97,114,116,115]) (by rw [hl];decide)
 have f_bridges:=strB_f (s:=s) (l:=[98,114,105,100,103,101,115]) (by rw [hl];decide)
 have f_joints:=strB_f (s:=s) (l:=[106,111,105,110,116,115]) (by rw [hl];decide)
 have f_save:=strB_t hl
 clear hl hz
 go_enter Tryz.func15,Tryz.ntmps15
 go_wp2_with fail
 refine (sp_ref 32 s (by omega) _).mono ?_
 rintro e w1 ⟨ts,_,cp,rfl,h1,⟨rb,rfl,hb1,hb2⟩,h3,h4⟩
 rw [HW.out] at h1
 obtain ⟨hn,t0,g0,e0⟩:=map_one h1
 have c0:=hb2 0 _ g0
 rw [hn] at h3 ⊢
 have HX:Hid (Ext w0 w1):=h4
 have g_size:=strB_f (s:=t0) (l:=[115,105,122,101]) (by rw [e0];decide)
 have g_way:=strB_f (s:=t0) (l:=[119,97,121]) (by rw [e0];decide)
 obtain ⟨R1,d1,R2,d2,r1,r2,r3⟩:=(H.out.moved HX.out).at_
 have HB:Hid (Blk w1 m 49 #[.slice R1 E.length d1,.slice R2 S.length d2,.int .i64 (t:Int)]∧RowE w1 R1 d1 E∧RowE w1 R2 d2 S):=⟨r1,r2,r3⟩
 have c5:=r1.cell 0
 have c6:=r1.cell 1
 have c7:=r1.cell 2
 have f5:=r1.frozen 0
 have f6:=r1.frozen 1
 have f7:=r1.frozen 2
 simp only [List.getElem?_toArray,List.getElem?_cons_zero,List.getElem?_cons_succ] at c5 c6 c7
 clear h1 g0 e0 hb1 hb2 h3 h4 hn r1 r2 r3
 have HP:Hid (RlP w0 m t E S s (.returned (.string ⟨#[111,107]⟩)) ((w1.setCell ⟨m,1,none⟩ (.slice R1 E.length d1)).setCell ⟨m,2,none⟩ (.int .i64 ((t:Int)+1)))):=
  ⟨RN.tOk,E,E,t+1,by rw [HC.out];exact ⟨rfl,rfl,rfl,rfl⟩,rfl,ref_save HB.out.1 HB.out.2.1 H.out.e,((Chg.new HX.out _).trans (chg_set _ _ _ _) (fun _ _ h=>h)).trans (chg_set _ _ _ _) (fun _ _ h=>h)⟩
 have z7:(0:Int)≤(t:Int):=by omega
 have z8:(t:Int)≤99999:=by omega
 go_wp2
 go_ret
 exact HP.out
set_option maxRecDepth 100000 in
theorem rline_turn {w0:World} {m t:Nat} {E S:List AK.Ed} (h:RefA w0 m t E S) (s:ByteArray) (hs:s.size≤3000) (ht:t < 99999) (hl:s.data.toList=[116,117,114,110]):Calls Tryz.prog 15 #[.pointer (some ⟨m,0,none⟩),.string s] w0 (RlP w0 m t E S s):=by
 have H:=Lib.hid h
 clear h
 have hz:=sz_len s
 rw [hl] at hz
 simp only [List.length_cons,List.length_nil] at hz
 have h2:(2:Int) < (s.size:Int):=by omega
 have q0:(3:Int)≤(s.size:Int):=by omega
 have qd:=do_f (s:=s) (by omega) (by rw [hl];decide)
 have HW:Hid (RN.spc 32 [] s.data.toList=[[116,117,114,110]]):=by unfold Hid;rw [hl];decide
 have HC:Hid (RN.cmdF s.data.toList=.turn):=by unfold Hid;rw [hl];rfl
 have n0:((1:Nat):Int)=1:=rfl
 have f_parts:=strB_f (s:=s) (l:=[112,97,114,116,115]) (by rw [hl];decide)
 have f_bridges:=strB_f (s:=s) (l:=[98,114,105,100,103,101,115]) (by rw [hl];decide)
 have f_joints:=strB_f (s:=s) (l:=[106,111,105,110,116,115]) (by rw [hl];decide)
 have f_save:=strB_f (s:=s) (l:=[115,97,118,101]) (by rw [hl];decide)
 have f_turn:=strB_t hl
 clear hl hz
 go_enter Tryz.func15,Tryz.ntmps15
 go_wp2_with fail
 refine (sp_ref 32 s (by omega) _).mono ?_
 rintro e w1 ⟨ts,_,cp,rfl,h1,⟨rb,rfl,hb1,hb2⟩,h3,h4⟩
 rw [HW.out] at h1
 obtain ⟨hn,t0,g0,e0⟩:=map_one h1
 have c0:=hb2 0 _ g0
 rw [hn] at h3 ⊢
 have HX:Hid (Ext w0 w1):=h4
 have g_size:=strB_f (s:=t0) (l:=[115,105,122,101]) (by rw [e0];decide)
 have g_way:=strB_f (s:=t0) (l:=[119,97,121]) (by rw [e0];decide)
 obtain ⟨R1,d1,R2,d2,r1,r2,r3⟩:=(H.out.moved HX.out).at_
 have HB:Hid (Blk w1 m 49 #[.slice R1 E.length d1,.slice R2 S.length d2,.int .i64 (t:Int)]∧RowE w1 R1 d1 E∧RowE w1 R2 d2 S):=⟨r1,r2,r3⟩
 have c5:=r1.cell 0
 have c6:=r1.cell 1
 have c7:=r1.cell 2
 have f5:=r1.frozen 0
 have f6:=r1.frozen 1
 have f7:=r1.frozen 2
 simp only [List.getElem?_toArray,List.getElem?_cons_zero,List.getElem?_cons_succ] at c5 c6 c7
 clear h1 g0 e0 hb1 hb2 h3 h4 hn r1 r2 r3
 have HP:Hid (∀ W',Ext w1 W'→RlP w0 m t E S s (.returned (.string ⟨(Lib.decDigits t).toArray⟩)) W'):=fun W' hW=>⟨_,E,S,t,by rw [HC.out];exact ⟨rfl,rfl,rfl,rfl⟩,rfl,(H.out.moved HX.out).moved hW,Chg.new (HX.out.trans hW) _⟩
 go_wp2_with fail
 refine (rdec_any t (by omega) _).mono ?_
 rintro e w' ⟨rfl,rfl⟩
 go_wp2
 go_ret
 exact HP.out _ (Ext.refl _)
set_option maxRecDepth 100000 in
theorem rline_crash {w0:World} {m t:Nat} {E S:List AK.Ed} (h:RefA w0 m t E S) (s:ByteArray) (hs:s.size≤3000) (ht:t < 99999) (hl:s.data.toList=[99,114,97,115,104]):Calls Tryz.prog 15 #[.pointer (some ⟨m,0,none⟩),.string s] w0 (RlP w0 m t E S s):=by
 have H:=Lib.hid h
 clear h
 have hz:=sz_len s
 rw [hl] at hz
 simp only [List.length_cons,List.length_nil] at hz
 have h2:(2:Int) < (s.size:Int):=by omega
 have q0:(3:Int)≤(s.size:Int):=by omega
 have qd:=do_f (s:=s) (by omega) (by rw [hl];decide)
 have HW:Hid (RN.spc 32 [] s.data.toList=[[99,114,97,115,104]]):=by unfold Hid;rw [hl];decide
 have HC:Hid (RN.cmdF s.data.toList=.crash):=by unfold Hid;rw [hl];rfl
 have n0:((1:Nat):Int)=1:=rfl
 have f_parts:=strB_f (s:=s) (l:=[112,97,114,116,115]) (by rw [hl];decide)
 have f_bridges:=strB_f (s:=s) (l:=[98,114,105,100,103,101,115]) (by rw [hl];decide)
 have f_joints:=strB_f (s:=s) (l:=[106,111,105,110,116,115]) (by rw [hl];decide)
 have f_save:=strB_f (s:=s) (l:=[115,97,118,101]) (by rw [hl];decide)
 have f_turn:=strB_f (s:=s) (l:=[116,117,114,110]) (by rw [hl];decide)
 have f_crash:=strB_t hl
 clear hl hz
 go_enter Tryz.func15,Tryz.ntmps15
 go_wp2_with fail
 refine (sp_ref 32 s (by omega) _).mono ?_
 rintro e w1 ⟨ts,_,cp,rfl,h1,⟨rb,rfl,hb1,hb2⟩,h3,h4⟩
 rw [HW.out] at h1
 obtain ⟨hn,t0,g0,e0⟩:=map_one h1
 have c0:=hb2 0 _ g0
 rw [hn] at h3 ⊢
 have HX:Hid (Ext w0 w1):=h4
 have g_size:=strB_f (s:=t0) (l:=[115,105,122,101]) (by rw [e0];decide)
 have g_way:=strB_f (s:=t0) (l:=[119,97,121]) (by rw [e0];decide)
 obtain ⟨R1,d1,R2,d2,r1,r2,r3⟩:=(H.out.moved HX.out).at_
 have HB:Hid (Blk w1 m 49 #[.slice R1 E.length d1,.slice R2 S.length d2,.int .i64 (t:Int)]∧RowE w1 R1 d1 E∧RowE w1 R2 d2 S):=⟨r1,r2,r3⟩
 have c5:=r1.cell 0
 have c6:=r1.cell 1
 have c7:=r1.cell 2
 have f5:=r1.frozen 0
 have f6:=r1.frozen 1
 have f7:=r1.frozen 2
 simp only [List.getElem?_toArray,List.getElem?_cons_zero,List.getElem?_cons_succ] at c5 c6 c7
 clear h1 g0 e0 hb1 hb2 h3 h4 hn r1 r2 r3
 have HP:Hid (RlP w0 m t E S s (.returned (.string ⟨#[111,107]⟩)) (w1.setCell ⟨m,0,none⟩ (.slice R2 S.length d2))):=
  ⟨RN.tOk,S,S,t,by rw [HC.out];exact ⟨rfl,rfl,rfl,rfl⟩,rfl,ref_edges HB.out.1 HB.out.2.2 H.out.s H.out.s HB.out.2.2,(Chg.new HX.out _).trans (chg_set _ _ _ _) (fun _ _ h=>h)⟩
 go_wp2
 go_ret
 exact HP.out
set_option maxRecDepth 100000 in
theorem rline_size_bad {w0:World} {m t:Nat} {E S:List AK.Ed} (h:RefA w0 m t E S) (s:ByteArray) (hs:s.size≤3000) (ht:t < 99999) (x1:List UInt8) (hw:RN.spc 32 [] s.data.toList=[[115,105,122,101],x1]) (hnd:s.data.toList.take 3≠[100,111,32]) (hx:NT.numF x1=-1):Calls Tryz.prog 15 #[.pointer (some ⟨m,0,none⟩),.string s] w0 (RlP w0 m t E S s):=by
 have H:=Lib.hid h
 clear h
 have hz:=sz_len s
 have hz2:=spc_sz s.data.toList [] [115,105,122,101] (by rw [hw];simp)
 simp only [List.length_cons,List.length_nil] at hz2
 have h2:(2:Int) < (s.size:Int):=by omega
 have q0:(3:Int)≤(s.size:Int):=by omega
 have qd:=do_f (s:=s) (by omega) hnd
 have HW:=Lib.hid hw
 have HC:Hid (RN.cmdF s.data.toList=.bad):=by
  unfold Hid RN.cmdF
  rw [if_neg hnd,hw]
  exact RN.cmd_size_bad hx
 obtain ⟨n1,n2,n3,n4,n5,n6⟩:=RN.not_word (l:=s.data.toList) (by rw [hw];simp)
 have f_parts:=strB_f n1
 have f_bridges:=strB_f n2
 have f_joints:=strB_f n3
 have f_save:=strB_f n4
 have f_turn:=strB_f n5
 have f_crash:=strB_f n6
 clear n1 n2 n3 n4 n5 n6
 have HNX:=Lib.hid hx
 clear hz hz2 hnd hw
 go_enter Tryz.func15,Tryz.ntmps15
 go_wp2_with fail
 refine (sp_ref 32 s (by omega) _).mono ?_
 rintro e w1 ⟨ts,_,cp,rfl,h1,⟨rb,rfl,hb1,hb2⟩,h3,h4⟩
 rw [HW.out] at h1
 obtain ⟨hn,t0,t1,g0,e0,g1,e1⟩:=map_two h1
 have c0:=hb2 0 _ g0
 have c1:=hb2 1 _ g1
 rw [hn] at h3 ⊢
 have HX:Hid (Ext w0 w1):=h4
 have g_size:=strP_t e0
 have g_sizeb:=strB_t e0
 have g_way:=strB_f (s:=t0) (l:=[119,97,121]) (by rw [e0];decide)
 have g_wayp:=strP_f (s:=t0) (l:=[119,97,121]) (by rw [e0];decide)
 have HN1:Hid (∀ w,Calls Tryz.prog 50 #[.string t1] w fun e w'=>e=.returned (.int .i64 (NT.numF x1))∧w=w'):=fun w=>by rw [←e1];exact (number_any t1 w).mono fun _ _ q=>⟨q.1,q.2.symm⟩
 obtain ⟨R1,d1,R2,d2,r1,r2,r3⟩:=(H.out.moved HX.out).at_
 have HB:Hid (Blk w1 m 49 #[.slice R1 E.length d1,.slice R2 S.length d2,.int .i64 (t:Int)]∧RowE w1 R1 d1 E∧RowE w1 R2 d2 S):=⟨r1,r2,r3⟩
 have k5:=r1.cell 0
 simp only [List.getElem?_toArray,List.getElem?_cons_zero] at k5
 clear h1 hb1 hb2 h3 h4 hn r1 r2 r3 g0 e0 g1 e1
 have HP:Hid (∀ W',Ext w1 W'→RlP w0 m t E S s (.returned (.string ⟨(RN.tBad).toArray⟩)) W'):=fun W' hW=>⟨_,E,S,t,by rw [HC.out];exact ⟨rfl,rfl,rfl,rfl⟩,rfl,(H.out.moved HX.out).moved hW,Chg.new (HX.out.trans hW) _⟩
 rw [HNX.out] at HN1
 go_wp2_with fail
 refine (HN1.out _).mono ?_
 rintro e w' ⟨rfl,rfl⟩
 go_wp2
 go_ret
 exact HP.out _ (Ext.refl _)
set_option maxRecDepth 100000 in
theorem rline_size_far {w0:World} {m t:Nat} {E S:List AK.Ed} (h:RefA w0 m t E S) (s:ByteArray) (hs:s.size≤3000) (ht:t < 99999) (x1:List UInt8) (hw:RN.spc 32 [] s.data.toList=[[115,105,122,101],x1]) (hnd:s.data.toList.take 3≠[100,111,32]) (a:Nat) (hx:NT.numF x1=(a:Int)) (ha:20≤a):Calls Tryz.prog 15 #[.pointer (some ⟨m,0,none⟩),.string s] w0 (RlP w0 m t E S s):=by
 have H:=Lib.hid h
 clear h
 have hz:=sz_len s
 have hz2:=spc_sz s.data.toList [] [115,105,122,101] (by rw [hw];simp)
 simp only [List.length_cons,List.length_nil] at hz2
 have h2:(2:Int) < (s.size:Int):=by omega
 have q0:(3:Int)≤(s.size:Int):=by omega
 have qd:=do_f (s:=s) (by omega) hnd
 have HW:=Lib.hid hw
 have HC:Hid (RN.cmdF s.data.toList=.size a):=by
  unfold Hid RN.cmdF
  rw [if_neg hnd,hw]
  exact RN.cmd_size hx
 obtain ⟨n1,n2,n3,n4,n5,n6⟩:=RN.not_word (l:=s.data.toList) (by rw [hw];simp)
 have f_parts:=strB_f n1
 have f_bridges:=strB_f n2
 have f_joints:=strB_f n3
 have f_save:=strB_f n4
 have f_turn:=strB_f n5
 have f_crash:=strB_f n6
 clear n1 n2 n3 n4 n5 n6
 have HNX:=Lib.hid hx
 clear hz hz2 hnd hw
 go_enter Tryz.func15,Tryz.ntmps15
 go_wp2_with fail
 refine (sp_ref 32 s (by omega) _).mono ?_
 rintro e w1 ⟨ts,_,cp,rfl,h1,⟨rb,rfl,hb1,hb2⟩,h3,h4⟩
 rw [HW.out] at h1
 obtain ⟨hn,t0,t1,g0,e0,g1,e1⟩:=map_two h1
 have c0:=hb2 0 _ g0
 have c1:=hb2 1 _ g1
 rw [hn] at h3 ⊢
 have HX:Hid (Ext w0 w1):=h4
 have g_size:=strP_t e0
 have g_sizeb:=strB_t e0
 have g_way:=strB_f (s:=t0) (l:=[119,97,121]) (by rw [e0];decide)
 have g_wayp:=strP_f (s:=t0) (l:=[119,97,121]) (by rw [e0];decide)
 have HN1:Hid (∀ w,Calls Tryz.prog 50 #[.string t1] w fun e w'=>e=.returned (.int .i64 (NT.numF x1))∧w=w'):=fun w=>by rw [←e1];exact (number_any t1 w).mono fun _ _ q=>⟨q.1,q.2.symm⟩
 obtain ⟨R1,d1,R2,d2,r1,r2,r3⟩:=(H.out.moved HX.out).at_
 have HB:Hid (Blk w1 m 49 #[.slice R1 E.length d1,.slice R2 S.length d2,.int .i64 (t:Int)]∧RowE w1 R1 d1 E∧RowE w1 R2 d2 S):=⟨r1,r2,r3⟩
 have k5:=r1.cell 0
 simp only [List.getElem?_toArray,List.getElem?_cons_zero] at k5
 clear h1 hb1 hb2 h3 h4 hn r1 r2 r3 g0 e0 g1 e1
 have HP:Hid (∀ W',Ext w1 W'→RlP w0 m t E S s (.returned (.string ⟨(RN.nameOf 1).toArray⟩)) W'):=fun W' hW=>⟨_,E,S,t,by rw [HC.out];exact ⟨by rw [if_neg (by omega)],rfl,rfl,rfl⟩,rfl,(H.out.moved HX.out).moved hW,Chg.new (HX.out.trans hW) _⟩
 rw [HNX.out] at HN1
 go_wp2_with fail
 refine (HN1.out _).mono ?_
 rintro e w' ⟨rfl,rfl⟩
 have z1:¬ ((a:Int) < 0):=by omega
 have z2:(20:Int)≤(a:Int):=by omega
 have HTE:=Lib.hid (told_err ⟨#[]⟩ 1 (by omega) (by omega))
 go_wp2_with fail
 refine (HTE.out _).mono ?_
 rintro e w' ⟨rfl,rfl⟩
 go_wp2
 go_ret
 exact HP.out _ (Ext.refl _)
set_option maxRecDepth 100000 in
theorem rline_size_ok {w0:World} {m t:Nat} {E S:List AK.Ed} (h:RefA w0 m t E S) (s:ByteArray) (hs:s.size≤3000) (ht:t < 99999) (x1:List UInt8) (hw:RN.spc 32 [] s.data.toList=[[115,105,122,101],x1]) (hnd:s.data.toList.take 3≠[100,111,32]) (a:Nat) (hx:NT.numF x1=(a:Int)) (ha:a < 20):Calls Tryz.prog 15 #[.pointer (some ⟨m,0,none⟩),.string s] w0 (RlP w0 m t E S s):=by
 have H:=Lib.hid h
 clear h
 have hz:=sz_len s
 have hz2:=spc_sz s.data.toList [] [115,105,122,101] (by rw [hw];simp)
 simp only [List.length_cons,List.length_nil] at hz2
 have h2:(2:Int) < (s.size:Int):=by omega
 have q0:(3:Int)≤(s.size:Int):=by omega
 have qd:=do_f (s:=s) (by omega) hnd
 have HW:=Lib.hid hw
 have HC:Hid (RN.cmdF s.data.toList=.size a):=by
  unfold Hid RN.cmdF
  rw [if_neg hnd,hw]
  exact RN.cmd_size hx
 obtain ⟨n1,n2,n3,n4,n5,n6⟩:=RN.not_word (l:=s.data.toList) (by rw [hw];simp)
 have f_parts:=strB_f n1
 have f_bridges:=strB_f n2
 have f_joints:=strB_f n3
 have f_save:=strB_f n4
 have f_turn:=strB_f n5
 have f_crash:=strB_f n6
 clear n1 n2 n3 n4 n5 n6
 have HNX:=Lib.hid hx
 clear hz hz2 hnd hw
 go_enter Tryz.func15,Tryz.ntmps15
 go_wp2_with fail
 refine (sp_ref 32 s (by omega) _).mono ?_
 rintro e w1 ⟨ts,_,cp,rfl,h1,⟨rb,rfl,hb1,hb2⟩,h3,h4⟩
 rw [HW.out] at h1
 obtain ⟨hn,t0,t1,g0,e0,g1,e1⟩:=map_two h1
 have c0:=hb2 0 _ g0
 have c1:=hb2 1 _ g1
 rw [hn] at h3 ⊢
 have HX:Hid (Ext w0 w1):=h4
 have g_size:=strP_t e0
 have g_sizeb:=strB_t e0
 have g_way:=strB_f (s:=t0) (l:=[119,97,121]) (by rw [e0];decide)
 have g_wayp:=strP_f (s:=t0) (l:=[119,97,121]) (by rw [e0];decide)
 have HN1:Hid (∀ w,Calls Tryz.prog 50 #[.string t1] w fun e w'=>e=.returned (.int .i64 (NT.numF x1))∧w=w'):=fun w=>by rw [←e1];exact (number_any t1 w).mono fun _ _ q=>⟨q.1,q.2.symm⟩
 obtain ⟨R1,d1,R2,d2,r1,r2,r3⟩:=(H.out.moved HX.out).at_
 have HB:Hid (Blk w1 m 49 #[.slice R1 E.length d1,.slice R2 S.length d2,.int .i64 (t:Int)]∧RowE w1 R1 d1 E∧RowE w1 R2 d2 S):=⟨r1,r2,r3⟩
 have k5:=r1.cell 0
 simp only [List.getElem?_toArray,List.getElem?_cons_zero] at k5
 clear h1 hb1 hb2 h3 h4 hn r1 r2 r3 g0 e0 g1 e1
 have HP:Hid (∀ W',Ext w1 W'→RlP w0 m t E S s (.returned (.string ⟨(Lib.decDigits (comp 20 E a).length).toArray⟩)) W'):=fun W' hW=>⟨_,E,S,t,by rw [HC.out];exact ⟨by rw [if_pos ha],rfl,rfl,rfl⟩,rfl,(H.out.moved HX.out).moved hW,Chg.new (HX.out.trans hW) _⟩
 rw [HNX.out] at HN1
 go_wp2_with fail
 refine (HN1.out _).mono ?_
 rintro e w' ⟨rfl,rfl⟩
 have z1:¬ ((a:Int) < 0):=by omega
 have z2:¬ (20:Int)≤(a:Int):=by omega
 go_wp2_with fail
 refine (ref_parts HB.out.2.1.1 H.out.e).mono ?_
 rintro e w2 ⟨p,g,cp2,rfl,q1,q2,q3⟩
 have HX2:=Lib.hid q3
 have HCT:=Lib.hid (ref_size q1 q2 H.out.e ha)
 clear q1 q2 q3
 go_wp2_with fail
 refine HCT.out.mono ?_
 rintro e w3 ⟨rfl,q3⟩
 have HX3:Hid (Ext w1 w3):=HX2.out.trans q3
 have hcl:=RN.comp_len_le 20 E a
 clear q3
 go_wp2_with fail
 refine (rdec_any (comp 20 E a).length (by omega) _).mono ?_
 rintro e w' ⟨rfl,rfl⟩
 go_wp2
 go_ret
 exact HP.out _ HX3.out
set_option maxRecDepth 100000 in
theorem rline_way_bad1 {w0:World} {m t:Nat} {E S:List AK.Ed} (h:RefA w0 m t E S) (s:ByteArray) (hs:s.size≤3000) (ht:t < 99999) (x1 x2:List UInt8) (hw:RN.spc 32 [] s.data.toList=[[119,97,121],x1,x2]) (hnd:s.data.toList.take 3≠[100,111,32]) (hx:NT.numF x1=-1) (hy:NT.numF x2=-1∨∃ b:Nat,NT.numF x2=(b:Int)):Calls Tryz.prog 15 #[.pointer (some ⟨m,0,none⟩),.string s] w0 (RlP w0 m t E S s):=by
 have H:=Lib.hid h
 clear h
 have hz:=sz_len s
 have hz2:=spc_sz s.data.toList [] [119,97,121] (by rw [hw];simp)
 simp only [List.length_cons,List.length_nil] at hz2
 have h2:(2:Int) < (s.size:Int):=by omega
 have q0:(3:Int)≤(s.size:Int):=by omega
 have qd:=do_f (s:=s) (by omega) hnd
 have HW:=Lib.hid hw
 have HC:Hid (RN.cmdF s.data.toList=.bad):=by
  unfold Hid RN.cmdF
  rw [if_neg hnd,hw]
  exact RN.cmd_way_bad (by first | exact .inl hx | exact .inr hx)
 obtain ⟨n1,n2,n3,n4,n5,n6⟩:=RN.not_word (l:=s.data.toList) (by rw [hw];simp)
 have f_parts:=strB_f n1
 have f_bridges:=strB_f n2
 have f_joints:=strB_f n3
 have f_save:=strB_f n4
 have f_turn:=strB_f n5
 have f_crash:=strB_f n6
 clear n1 n2 n3 n4 n5 n6
 have HNX:=Lib.hid hx
 have HNY:=Lib.hid hy
 clear hz hz2 hnd hw
 go_enter Tryz.func15,Tryz.ntmps15
 go_wp2_with fail
 refine (sp_ref 32 s (by omega) _).mono ?_
 rintro e w1 ⟨ts,_,cp,rfl,h1,⟨rb,rfl,hb1,hb2⟩,h3,h4⟩
 rw [HW.out] at h1
 obtain ⟨hn,t0,t1,t2,g0,e0,g1,e1,g2,e2⟩:=map_three h1
 have c0:=hb2 0 _ g0
 have c1:=hb2 1 _ g1
 have c2:=hb2 2 _ g2
 rw [hn] at h3 ⊢
 have HX:Hid (Ext w0 w1):=h4
 have g_way:=strP_t e0
 have g_wayb:=strB_t e0
 have g_size:=strB_f (s:=t0) (l:=[115,105,122,101]) (by rw [e0];decide)
 have g_sizep:=strP_f (s:=t0) (l:=[115,105,122,101]) (by rw [e0];decide)
 have HN1:Hid (∀ w,Calls Tryz.prog 50 #[.string t1] w fun e w'=>e=.returned (.int .i64 (NT.numF x1))∧w=w'):=fun w=>by rw [←e1];exact (number_any t1 w).mono fun _ _ q=>⟨q.1,q.2.symm⟩
 have HN2:Hid (∀ w,Calls Tryz.prog 50 #[.string t2] w fun e w'=>e=.returned (.int .i64 (NT.numF x2))∧w=w'):=fun w=>by rw [←e2];exact (number_any t2 w).mono fun _ _ q=>⟨q.1,q.2.symm⟩
 obtain ⟨R1,d1,R2,d2,r1,r2,r3⟩:=(H.out.moved HX.out).at_
 have HB:Hid (Blk w1 m 49 #[.slice R1 E.length d1,.slice R2 S.length d2,.int .i64 (t:Int)]∧RowE w1 R1 d1 E∧RowE w1 R2 d2 S):=⟨r1,r2,r3⟩
 have k5:=r1.cell 0
 simp only [List.getElem?_toArray,List.getElem?_cons_zero] at k5
 clear h1 hb1 hb2 h3 h4 hn r1 r2 r3 g0 e0 g1 e1 g2 e2
 have HP:Hid (∀ W',Ext w1 W'→RlP w0 m t E S s (.returned (.string ⟨(RN.tBad).toArray⟩)) W'):=fun W' hW=>⟨_,E,S,t,by rw [HC.out];exact ⟨rfl,rfl,rfl,rfl⟩,rfl,(H.out.moved HX.out).moved hW,Chg.new (HX.out.trans hW) _⟩
 rw [HNX.out] at HN1
 go_wp2_with fail
 refine (HN1.out _).mono ?_
 rintro e w' ⟨rfl,rfl⟩
 go_wp2_with fail
 refine (HN2.out _).mono ?_
 rintro e w' ⟨rfl,rfl⟩
 go_wp2
 go_ret
 exact HP.out _ (Ext.refl _)
set_option maxRecDepth 100000 in
theorem rline_way_bad2 {w0:World} {m t:Nat} {E S:List AK.Ed} (h:RefA w0 m t E S) (s:ByteArray) (hs:s.size≤3000) (ht:t < 99999) (x1 x2:List UInt8) (hw:RN.spc 32 [] s.data.toList=[[119,97,121],x1,x2]) (hnd:s.data.toList.take 3≠[100,111,32]) (hx:NT.numF x2=-1) (a:Nat) (ha:NT.numF x1=(a:Int)):Calls Tryz.prog 15 #[.pointer (some ⟨m,0,none⟩),.string s] w0 (RlP w0 m t E S s):=by
 have H:=Lib.hid h
 clear h
 have hz:=sz_len s
 have hz2:=spc_sz s.data.toList [] [119,97,121] (by rw [hw];simp)
 simp only [List.length_cons,List.length_nil] at hz2
 have h2:(2:Int) < (s.size:Int):=by omega
 have q0:(3:Int)≤(s.size:Int):=by omega
 have qd:=do_f (s:=s) (by omega) hnd
 have HW:=Lib.hid hw
 have HC:Hid (RN.cmdF s.data.toList=.bad):=by
  unfold Hid RN.cmdF
  rw [if_neg hnd,hw]
  exact RN.cmd_way_bad (by first | exact .inl hx | exact .inr hx)
 obtain ⟨n1,n2,n3,n4,n5,n6⟩:=RN.not_word (l:=s.data.toList) (by rw [hw];simp)
 have f_parts:=strB_f n1
 have f_bridges:=strB_f n2
 have f_joints:=strB_f n3
 have f_save:=strB_f n4
 have f_turn:=strB_f n5
 have f_crash:=strB_f n6
 clear n1 n2 n3 n4 n5 n6
 have HNX:=Lib.hid hx
 have HNY:=Lib.hid ha
 clear hz hz2 hnd hw
 go_enter Tryz.func15,Tryz.ntmps15
 go_wp2_with fail
 refine (sp_ref 32 s (by omega) _).mono ?_
 rintro e w1 ⟨ts,_,cp,rfl,h1,⟨rb,rfl,hb1,hb2⟩,h3,h4⟩
 rw [HW.out] at h1
 obtain ⟨hn,t0,t1,t2,g0,e0,g1,e1,g2,e2⟩:=map_three h1
 have c0:=hb2 0 _ g0
 have c1:=hb2 1 _ g1
 have c2:=hb2 2 _ g2
 rw [hn] at h3 ⊢
 have HX:Hid (Ext w0 w1):=h4
 have g_way:=strP_t e0
 have g_wayb:=strB_t e0
 have g_size:=strB_f (s:=t0) (l:=[115,105,122,101]) (by rw [e0];decide)
 have g_sizep:=strP_f (s:=t0) (l:=[115,105,122,101]) (by rw [e0];decide)
 have HN1:Hid (∀ w,Calls Tryz.prog 50 #[.string t1] w fun e w'=>e=.returned (.int .i64 (NT.numF x1))∧w=w'):=fun w=>by rw [←e1];exact (number_any t1 w).mono fun _ _ q=>⟨q.1,q.2.symm⟩
 have HN2:Hid (∀ w,Calls Tryz.prog 50 #[.string t2] w fun e w'=>e=.returned (.int .i64 (NT.numF x2))∧w=w'):=fun w=>by rw [←e2];exact (number_any t2 w).mono fun _ _ q=>⟨q.1,q.2.symm⟩
 obtain ⟨R1,d1,R2,d2,r1,r2,r3⟩:=(H.out.moved HX.out).at_
 have HB:Hid (Blk w1 m 49 #[.slice R1 E.length d1,.slice R2 S.length d2,.int .i64 (t:Int)]∧RowE w1 R1 d1 E∧RowE w1 R2 d2 S):=⟨r1,r2,r3⟩
 have k5:=r1.cell 0
 simp only [List.getElem?_toArray,List.getElem?_cons_zero] at k5
 clear h1 hb1 hb2 h3 h4 hn r1 r2 r3 g0 e0 g1 e1 g2 e2
 have HP:Hid (∀ W',Ext w1 W'→RlP w0 m t E S s (.returned (.string ⟨(RN.tBad).toArray⟩)) W'):=fun W' hW=>⟨_,E,S,t,by rw [HC.out];exact ⟨rfl,rfl,rfl,rfl⟩,rfl,(H.out.moved HX.out).moved hW,Chg.new (HX.out.trans hW) _⟩
 rw [HNY.out] at HN1
 go_wp2_with fail
 refine (HN1.out _).mono ?_
 rintro e w' ⟨rfl,rfl⟩
 rw [HNX.out] at HN2
 go_wp2_with fail
 refine (HN2.out _).mono ?_
 rintro e w' ⟨rfl,rfl⟩
 have z1:¬ ((a:Int) < 0):=by omega
 go_wp2
 go_ret
 exact HP.out _ (Ext.refl _)
set_option maxRecDepth 100000 in
theorem rline_way_far {w0:World} {m t:Nat} {E S:List AK.Ed} (h:RefA w0 m t E S) (s:ByteArray) (hs:s.size≤3000) (ht:t < 99999) (x1 x2:List UInt8) (hw:RN.spc 32 [] s.data.toList=[[119,97,121],x1,x2]) (hnd:s.data.toList.take 3≠[100,111,32]) (a b:Nat) (hx:NT.numF x1=(a:Int)) (hy:NT.numF x2=(b:Int)) (hab:¬ (a < 20∧b < 20)):Calls Tryz.prog 15 #[.pointer (some ⟨m,0,none⟩),.string s] w0 (RlP w0 m t E S s):=by
 have H:=Lib.hid h
 clear h
 have hz:=sz_len s
 have hz2:=spc_sz s.data.toList [] [119,97,121] (by rw [hw];simp)
 simp only [List.length_cons,List.length_nil] at hz2
 have h2:(2:Int) < (s.size:Int):=by omega
 have q0:(3:Int)≤(s.size:Int):=by omega
 have qd:=do_f (s:=s) (by omega) hnd
 have HW:=Lib.hid hw
 have HC:Hid (RN.cmdF s.data.toList=.way a b):=by
  unfold Hid RN.cmdF
  rw [if_neg hnd,hw]
  exact RN.cmd_way hx hy
 obtain ⟨n1,n2,n3,n4,n5,n6⟩:=RN.not_word (l:=s.data.toList) (by rw [hw];simp)
 have f_parts:=strB_f n1
 have f_bridges:=strB_f n2
 have f_joints:=strB_f n3
 have f_save:=strB_f n4
 have f_turn:=strB_f n5
 have f_crash:=strB_f n6
 clear n1 n2 n3 n4 n5 n6
 have HNX:=Lib.hid hx
 have HNY:=Lib.hid hy
 clear hz hz2 hnd hw
 go_enter Tryz.func15,Tryz.ntmps15
 go_wp2_with fail
 refine (sp_ref 32 s (by omega) _).mono ?_
 rintro e w1 ⟨ts,_,cp,rfl,h1,⟨rb,rfl,hb1,hb2⟩,h3,h4⟩
 rw [HW.out] at h1
 obtain ⟨hn,t0,t1,t2,g0,e0,g1,e1,g2,e2⟩:=map_three h1
 have c0:=hb2 0 _ g0
 have c1:=hb2 1 _ g1
 have c2:=hb2 2 _ g2
 rw [hn] at h3 ⊢
 have HX:Hid (Ext w0 w1):=h4
 have g_way:=strP_t e0
 have g_wayb:=strB_t e0
 have g_size:=strB_f (s:=t0) (l:=[115,105,122,101]) (by rw [e0];decide)
 have g_sizep:=strP_f (s:=t0) (l:=[115,105,122,101]) (by rw [e0];decide)
 have HN1:Hid (∀ w,Calls Tryz.prog 50 #[.string t1] w fun e w'=>e=.returned (.int .i64 (NT.numF x1))∧w=w'):=fun w=>by rw [←e1];exact (number_any t1 w).mono fun _ _ q=>⟨q.1,q.2.symm⟩
 have HN2:Hid (∀ w,Calls Tryz.prog 50 #[.string t2] w fun e w'=>e=.returned (.int .i64 (NT.numF x2))∧w=w'):=fun w=>by rw [←e2];exact (number_any t2 w).mono fun _ _ q=>⟨q.1,q.2.symm⟩
 obtain ⟨R1,d1,R2,d2,r1,r2,r3⟩:=(H.out.moved HX.out).at_
 have HB:Hid (Blk w1 m 49 #[.slice R1 E.length d1,.slice R2 S.length d2,.int .i64 (t:Int)]∧RowE w1 R1 d1 E∧RowE w1 R2 d2 S):=⟨r1,r2,r3⟩
 have k5:=r1.cell 0
 simp only [List.getElem?_toArray,List.getElem?_cons_zero] at k5
 clear h1 hb1 hb2 h3 h4 hn r1 r2 r3 g0 e0 g1 e1 g2 e2
 have HP:Hid (∀ W',Ext w1 W'→RlP w0 m t E S s (.returned (.string ⟨(RN.nameOf 1).toArray⟩)) W'):=fun W' hW=>⟨_,E,S,t,by rw [HC.out];exact ⟨.inr ⟨hab,rfl⟩,rfl,rfl,rfl⟩,rfl,(H.out.moved HX.out).moved hW,Chg.new (HX.out.trans hW) _⟩
 rw [HNX.out] at HN1
 go_wp2_with fail
 refine (HN1.out _).mono ?_
 rintro e w' ⟨rfl,rfl⟩
 rw [HNY.out] at HN2
 go_wp2_with fail
 refine (HN2.out _).mono ?_
 rintro e w' ⟨rfl,rfl⟩
 have z1:¬ ((a:Int) < 0):=by omega
 have z2:¬ ((b:Int) < 0):=by omega
 have HTE:=Lib.hid (told_err ⟨#[]⟩ 1 (by omega) (by omega))
 have hq:(20:Int)≤(a:Int)∨(¬ (20:Int)≤(a:Int)∧(20:Int)≤(b:Int)):=by omega
 clear hab
 rcases hq with z3 | ⟨z3,z4⟩
 all_goals
  go_wp2_with fail
  refine (HTE.out _).mono ?_
  rintro e w' ⟨rfl,rfl⟩
  go_wp2
  go_ret
  exact HP.out _ (Ext.refl _)
set_option maxRecDepth 100000 in
theorem rline_way_ok {w0:World} {m t:Nat} {E S:List AK.Ed} (h:RefA w0 m t E S) (s:ByteArray) (hs:s.size≤3000) (ht:t < 99999) (x1 x2:List UInt8) (hw:RN.spc 32 [] s.data.toList=[[119,97,121],x1,x2]) (hnd:s.data.toList.take 3≠[100,111,32]) (a b:Nat) (hx:NT.numF x1=(a:Int)) (hy:NT.numF x2=(b:Int)) (ha:a < 20) (hb:b < 20):Calls Tryz.prog 15 #[.pointer (some ⟨m,0,none⟩),.string s] w0 (RlP w0 m t E S s):=by
 have H:=Lib.hid h
 clear h
 have hz:=sz_len s
 have hz2:=spc_sz s.data.toList [] [119,97,121] (by rw [hw];simp)
 simp only [List.length_cons,List.length_nil] at hz2
 have h2:(2:Int) < (s.size:Int):=by omega
 have q0:(3:Int)≤(s.size:Int):=by omega
 have qd:=do_f (s:=s) (by omega) hnd
 have HW:=Lib.hid hw
 have HC:Hid (RN.cmdF s.data.toList=.way a b):=by
  unfold Hid RN.cmdF
  rw [if_neg hnd,hw]
  exact RN.cmd_way hx hy
 obtain ⟨n1,n2,n3,n4,n5,n6⟩:=RN.not_word (l:=s.data.toList) (by rw [hw];simp)
 have f_parts:=strB_f n1
 have f_bridges:=strB_f n2
 have f_joints:=strB_f n3
 have f_save:=strB_f n4
 have f_turn:=strB_f n5
 have f_crash:=strB_f n6
 clear n1 n2 n3 n4 n5 n6
 have HNX:=Lib.hid hx
 have HNY:=Lib.hid hy
 clear hz hz2 hnd hw
 go_enter Tryz.func15,Tryz.ntmps15
 go_wp2_with fail
 refine (sp_ref 32 s (by omega) _).mono ?_
 rintro e w1 ⟨ts,_,cp,rfl,h1,⟨rb,rfl,hb1,hb2⟩,h3,h4⟩
 rw [HW.out] at h1
 obtain ⟨hn,t0,t1,t2,g0,e0,g1,e1,g2,e2⟩:=map_three h1
 have c0:=hb2 0 _ g0
 have c1:=hb2 1 _ g1
 have c2:=hb2 2 _ g2
 rw [hn] at h3 ⊢
 have HX:Hid (Ext w0 w1):=h4
 have g_way:=strP_t e0
 have g_wayb:=strB_t e0
 have g_size:=strB_f (s:=t0) (l:=[115,105,122,101]) (by rw [e0];decide)
 have g_sizep:=strP_f (s:=t0) (l:=[115,105,122,101]) (by rw [e0];decide)
 have HN1:Hid (∀ w,Calls Tryz.prog 50 #[.string t1] w fun e w'=>e=.returned (.int .i64 (NT.numF x1))∧w=w'):=fun w=>by rw [←e1];exact (number_any t1 w).mono fun _ _ q=>⟨q.1,q.2.symm⟩
 have HN2:Hid (∀ w,Calls Tryz.prog 50 #[.string t2] w fun e w'=>e=.returned (.int .i64 (NT.numF x2))∧w=w'):=fun w=>by rw [←e2];exact (number_any t2 w).mono fun _ _ q=>⟨q.1,q.2.symm⟩
 obtain ⟨R1,d1,R2,d2,r1,r2,r3⟩:=(H.out.moved HX.out).at_
 have HB:Hid (Blk w1 m 49 #[.slice R1 E.length d1,.slice R2 S.length d2,.int .i64 (t:Int)]∧RowE w1 R1 d1 E∧RowE w1 R2 d2 S):=⟨r1,r2,r3⟩
 have k5:=r1.cell 0
 simp only [List.getElem?_toArray,List.getElem?_cons_zero] at k5
 clear h1 hb1 hb2 h3 h4 hn r1 r2 r3 g0 e0 g1 e1 g2 e2
 rw [HNX.out] at HN1
 go_wp2_with fail
 refine (HN1.out _).mono ?_
 rintro e w' ⟨rfl,rfl⟩
 rw [HNY.out] at HN2
 go_wp2_with fail
 refine (HN2.out _).mono ?_
 rintro e w' ⟨rfl,rfl⟩
 have z1:¬ ((a:Int) < 0):=by omega
 have z2:¬ ((b:Int) < 0):=by omega
 have z3:¬ (20:Int)≤(a:Int):=by omega
 have z4:¬ (20:Int)≤(b:Int):=by omega
 have HSO:=Lib.hid (shortof_any w1 20 a b R1 E.length d1 E rfl HB.out.2.1.1 (dk_fine H.out.e) ha hb (by omega))
 go_wp2_with fail
 refine HSO.out.mono ?_
 rintro e w2 ⟨hx2,d,hd,⟨hg,rfl⟩ | ⟨hg,R3,d3,p,rfl,hway,hrow,hpl⟩⟩
 ·have HP:Hid (RlP w0 m t E S s (.returned (.string ⟨(RN.nameOf 4).toArray⟩)) w2):=⟨_,E,S,t,by rw [HC.out];exact ⟨.inl ⟨ha,hb,d,hd,.inl ⟨hg,rfl⟩⟩,rfl,rfl,rfl⟩,rfl,(H.out.moved HX.out).moved hx2,Chg.new (HX.out.trans hx2) _⟩
  have HTE:=Lib.hid (told_err ⟨#[]⟩ 4 (by omega) (by omega))
  clear hd hg hx2 HSO
  go_wp2_with fail
  refine (HTE.out _).mono ?_
  rintro e w' ⟨rfl,rfl⟩
  go_wp2
  go_ret
  exact HP.out
 ·have HP:Hid (RlP w0 m t E S s (.returned (.string ⟨(RN.wordsT RN.tDash (p.map Lib.decDigits)).toArray⟩)) w2):=⟨_,E,S,t,by rw [HC.out];exact ⟨.inl ⟨ha,hb,d,hd,.inr ⟨hg,p,hway,hpl,rfl⟩⟩,rfl,rfl,rfl⟩,rfl,(H.out.moved HX.out).moved hx2,Chg.new (HX.out.trans hx2) _⟩
  have HN:=Lib.hid (numbers_any w2 R3 p.length d3 p rfl (by omega) (IntsAt.of_own (xs:=p.map fun (x:Nat)=>(x:Int)) (by rw [←natV_map];exact hrow)).1 (fun x hx=>by
   obtain ⟨i,hi⟩:=List.mem_iff_getElem?.1 hx
   have:=((PD.Way.at hway ha).2.2 i x hi).1
   omega))
  obtain ⟨o,ho⟩:∃ o,RN.wordsT RN.tDash (p.map Lib.decDigits)=o:=⟨_,rfl⟩
  rw [ho] at HN HP
  clear hd hg hx2 HSO hway hrow hpl ho
  go_wp2_with fail
  refine HN.out.mono ?_
  rintro e w' ⟨rfl,rfl⟩
  go_wp2
  go_ret
  exact HP.out
set_option maxRecDepth 100000 in
theorem rline_bad {w0:World} {m t:Nat} {E S:List AK.Ed} (h:RefA w0 m t E S) (s:ByteArray) (hs:s.size≤3000) (x0:List UInt8) (xr:List (List UInt8)) (hw:RN.spc 32 [] s.data.toList=x0::xr) (hnd:s.data.toList.take 3≠[100,111,32])
  (h6:s.data.toList≠[112,97,114,116,115]∧s.data.toList≠[98,114,105,100,103,101,115]∧s.data.toList≠[106,111,105,110,116,115]∧s.data.toList≠[115,97,118,101]∧s.data.toList≠[116,117,114,110]∧s.data.toList≠[99,114,97,115,104])
  (hz:x0=[115,105,122,101]→xr.length≠1) (hy:x0=[119,97,121]→xr.length≠2) (hc:RN.cmdF s.data.toList=.bad):Calls Tryz.prog 15 #[.pointer (some ⟨m,0,none⟩),.string s] w0 (RlP w0 m t E S s):=by
 have H:=Lib.hid h
 have HP:Hid (∀ W',Ext w0 W'→RlP w0 m t E S s (.returned (.string ⟨#[98,97,100]⟩)) W'):=fun W' hW=>⟨RN.tBad,E,S,t,by rw [hc];exact ⟨rfl,rfl,rfl,rfl⟩,rfl,H.out.moved hW,Chg.new hW _⟩
 obtain ⟨n1,n2,n3,n4,n5,n6⟩:=h6
 have f_parts:=strB_f n1
 have f_bridges:=strB_f n2
 have f_joints:=strB_f n3
 have f_save:=strB_f n4
 have f_turn:=strB_f n5
 have f_crash:=strB_f n6
 have hdo:(¬ (2:Int) < (s.size:Int))∨((2:Int) < (s.size:Int)∧((s.extract 0 3).toList == [100,111,32])=false):=by
  by_cases h2:2 < s.size
  ·exact .inr ⟨by omega,do_f h2 hnd⟩
  ·exact .inl (by omega)
 have HSP:Hid (∀ W,Calls Tryz.prog 14 #[.string s,.int .u8 32] W fun e w'=>∃ (b n cp:Nat) (t0:ByteArray),e=.returned (.slice (some ⟨b,0,none⟩) n cp)∧n=xr.length+1∧w'.cell? ⟨b,0,none⟩=some (.string t0)∧t0.data.toList=x0∧n≤cp∧n≤3001∧Ext W w'):=fun W=>by
  refine (sp_ref 32 s (by omega) W).mono ?_
  rintro e w1 ⟨ts,_,cp,rfl,h1,⟨rb,rfl,hb1,hb2⟩,h3,h4⟩
  have hl:=(sp_len h1).2
  rw [hw] at h1
  match ts,h1 with
  | t0::tr,h1=>
   simp only [List.map_cons,List.cons.injEq] at h1
   exact ⟨rb,_,cp,t0,rfl,by rw [←h1.2];simp,hb2 0 _ rfl,h1.1,h3,by omega,h4⟩
 have hcase:(x0=[115,105,122,101]∧xr.length≠1∧x0≠[119,97,121])∨(x0≠[115,105,122,101]∧x0=[119,97,121]∧xr.length≠2)∨(x0≠[115,105,122,101]∧x0≠[119,97,121]):=by
  by_cases e1:x0=[115,105,122,101]
  ·exact .inl ⟨e1,hz e1,by rw [e1];decide⟩
  ·by_cases e2:x0=[119,97,121]
   ·exact .inr (.inl ⟨e1,e2,hy e2⟩)
   ·exact .inr (.inr ⟨e1,e2⟩)
 have HCA:=Lib.hid hcase
 clear h hw hnd hz hy hc n1 n2 n3 n4 n5 n6 hcase
 rcases hdo with h2 | ⟨h2,qd⟩
 all_goals
  have q0:(2:Int) < (s.size:Int)→(3:Int)≤(s.size:Int):=by omega
  try have q1:(3:Int)≤(s.size:Int):=by omega
  clear q0
  go_enter Tryz.func15,Tryz.ntmps15
  go_wp2_with fail
  refine (HSP.out _).mono ?_
  rintro e w1 ⟨rb,n,cp,t0,rfl,hn,c0,e0,hcp,hn3,hx⟩
  have HX:=Lib.hid hx
  have hn0:0 < n:=by omega
  have hca:=HCA.out
  rw [←e0] at hca
  rcases hca with ⟨g1,g2,g3⟩ | ⟨g1,g2,g3⟩ | ⟨g1,g2⟩
  ·have k1:=strP_t g1
   have k2:=strP_f g3
   have k3:=strB_f g3
   have k4:((n:Int) == 2)=false:=by rw [beq_eq_false_iff_ne];omega
   clear g1 g2 g3 hn hx e0
   go_wp2
   go_ret
   exact HP.out _ HX.out
  ·have k1:=strP_f g1
   have k2:=strB_f g1
   have k3:=strP_t g2
   have k4:((n:Int) == 3)=false:=by rw [beq_eq_false_iff_ne];omega
   clear g1 g2 g3 hn hx e0
   go_wp2
   go_ret
   exact HP.out _ HX.out
  ·have k1:=strP_f g1
   have k2:=strB_f g1
   have k3:=strP_f g2
   have k4:=strB_f g2
   clear g1 g2 hn hx e0
   go_wp2
   go_ret
   exact HP.out _ HX.out
set_option maxRecDepth 100000 in
theorem rline_do {w0:World} {m t:Nat} {E S:List AK.Ed} (h:RefA w0 m t E S) (s:ByteArray) (hs:s.size≤3000) (hd:s.data.toList.take 3=[100,111,32]):Calls Tryz.prog 15 #[.pointer (some ⟨m,0,none⟩),.string s] w0 (RlP w0 m t E S s):=by
 have hz:2 < s.size:=by
  rw [sz_len]
  have:=congrArg List.length hd
  rw [List.length_take] at this
  simp only [List.length_cons,List.length_nil] at this
  omega
 have h2:(2:Int) < (s.size:Int):=by omega
 have q0:(3:Int)≤(s.size:Int):=by omega
 have qd:=do_t hz hd
 have hsz:(s.extract 3 s.size).size≤3000:=by rw [ByteArray.size_extract];omega
 have HD:=Lib.hid (rsdo_any h (s.extract 3 s.size) hsz)
 have HE:Hid (RN.cmdF s.data.toList=RN.cmdDo (s.extract 3 s.size).data.toList):=by
  unfold Hid RN.cmdF
  rw [if_pos hd,str_drop s 3 (by omega)]
 clear hz hd h
 go_enter Tryz.func15,Tryz.ntmps15
 go_wp2_with fail
 refine HD.out.mono ?_
 rintro e w1 ⟨o,E',ha,rfl,hr,hc⟩
 have HP:Hid (RlP w0 m t E S s (.returned (.string ⟨o.toArray⟩)) w1):=⟨o,E',S,t,by rw [HE.out];exact ha,rfl,hr,hc⟩
 clear ha hr hc HD
 go_wp2
 go_ret
 exact HP.out
theorem RN.cmd_one_bad {x:List UInt8} (k1:¬ x=[112,97,114,116,115]) (k2:¬ x=[98,114,105,100,103,101,115]) (k3:¬ x=[106,111,105,110,116,115]) (k4:¬ x=[115,97,118,101]) (k5:¬ x=[116,117,114,110]) (k6:¬ x=[99,114,97,115,104]):RN.cmdW [x]=.bad:=by
 show (if x=RN.wParts then RN.Cmd.parts else if x=RN.wBridges then .bridges else if x=RN.wJoints then .joints else if x=RN.wSave then .save else if x=RN.wTurn then .turn else if x=RN.wCrash then .crash else .bad)=_
 rw [if_neg (show ¬ x=RN.wParts from k1),if_neg (show ¬ x=RN.wBridges from k2),if_neg (show ¬ x=RN.wJoints from k3),if_neg (show ¬ x=RN.wSave from k4),if_neg (show ¬ x=RN.wTurn from k5),if_neg (show ¬ x=RN.wCrash from k6)]
theorem rline_any {w0:World} {m t:Nat} {E S:List AK.Ed} (h:RefA w0 m t E S) (s:ByteArray) (hs:s.size≤3000) (ht:t < 99999):Calls Tryz.prog 15 #[.pointer (some ⟨m,0,none⟩),.string s] w0 (RlP w0 m t E S s):=by
 by_cases hd:s.data.toList.take 3=[100,111,32]
 ·exact rline_do h s hs hd
 have hcF:RN.cmdF s.data.toList=RN.cmdW (RN.spc 32 [] s.data.toList):=by unfold RN.cmdF;rw [if_neg hd]
 match hw:RN.spc 32 [] s.data.toList with
 | []=>exact absurd hw (RN.spc_ne _ _ _)
 | [x]=>
  have hx:=RN.spc_single hw
  by_cases k1:s.data.toList=[112,97,114,116,115]
  ·exact rline_parts h s hs ht k1
  by_cases k2:s.data.toList=[98,114,105,100,103,101,115]
  ·exact rline_bridges h s hs ht k2
  by_cases k3:s.data.toList=[106,111,105,110,116,115]
  ·exact rline_joints h s hs ht k3
  by_cases k4:s.data.toList=[115,97,118,101]
  ·exact rline_save h s hs ht k4
  by_cases k5:s.data.toList=[116,117,114,110]
  ·exact rline_turn h s hs ht k5
  by_cases k6:s.data.toList=[99,114,97,115,104]
  ·exact rline_crash h s hs ht k6
  refine rline_bad h s hs x [] hw hd ⟨k1,k2,k3,k4,k5,k6⟩ (fun _=>by simp) (fun _=>by simp) ?_
  rw [hcF,hw,hx]
  exact RN.cmd_one_bad k1 k2 k3 k4 k5 k6
 | [x,a]=>
  have h6:=RN.not_word (l:=s.data.toList) (by rw [hw];simp)
  by_cases hx:x=[115,105,122,101]
  ·subst hx
   rcases RN.num_cases a with q | ⟨A,q⟩
   ·exact rline_size_bad h s hs ht a hw hd q
   ·by_cases hA:A < 20
    ·exact rline_size_ok h s hs ht a hw hd A q hA
    ·exact rline_size_far h s hs ht a hw hd A q (by omega)
  ·refine rline_bad h s hs x [a] hw hd h6 (fun e=>absurd e hx) (fun _=>by simp) ?_
   rw [hcF,hw]
   show (if x=RN.wSize∧0≤NT.numF a then RN.Cmd.size (NT.numF a).toNat else .bad)=_
   rw [if_neg (fun q=>hx q.1)]
 | [x,a,b]=>
  have h6:=RN.not_word (l:=s.data.toList) (by rw [hw];simp)
  by_cases hx:x=[119,97,121]
  ·subst hx
   rcases RN.num_cases a with q | ⟨A,q⟩
   ·exact rline_way_bad1 h s hs ht a b hw hd q (RN.num_cases b)
   ·rcases RN.num_cases b with r | ⟨B,r⟩
    ·exact rline_way_bad2 h s hs ht a b hw hd r A q
    ·by_cases hAB:A < 20∧B < 20
     ·exact rline_way_ok h s hs ht a b hw hd A B q r hAB.1 hAB.2
     ·exact rline_way_far h s hs ht a b hw hd A B q r hAB
  ·refine rline_bad h s hs x [a,b] hw hd h6 (fun _=>by simp) (fun e=>absurd e hx) ?_
   rw [hcF,hw]
   show (if x=RN.wWay∧0≤NT.numF a∧0≤NT.numF b then RN.Cmd.way (NT.numF a).toNat (NT.numF b).toNat else .bad)=_
   rw [if_neg (fun q=>hx q.1)]
 | x::a::b::c::r=>
  have h6:=RN.not_word (l:=s.data.toList) (by rw [hw];simp)
  refine rline_bad h s hs x (a::b::c::r) hw hd h6 (fun _=>by simp) (fun _=>by simp) ?_
  rw [hcF,hw]
  rfl
theorem asU_hit (w:World):(Instr.typeAssert (.iface 73 (.agg #[])) 20 73 true).run Tryz.prog w=.ok (.tuple #[.agg #[],.bool true]) w:=by kernel_rfl
theorem asU_nil (w:World):(Instr.typeAssert .nilIface 20 73 true).run Tryz.prog w=.ok (.tuple #[.agg #[],.bool false]) w:=by kernel_rfl
theorem catch_idle (p:Addr) (w:World):CallsD Tryz.prog 25 #[.pointer (some p)] .returning w fun e u' w'=>e=.returned (.tuple #[])∧u'=.returning∧w'=w.alloc (.cells #[] 73):=by
 have k:=asU_nil
 refine callsD_of_wpS Tryz.func25 rfl fun c₀ cs hu=>?_
 apply wpS_seq
 apply wpS_region
 simp [wpOpsS,go_sem,recoverD,hu,Tryz.ntmps25,Exit.thenS,k]
 apply wpS_seq
 apply wpS_region
 simp [wpOpsS,go_sem,Exit.thenS]
 refine wpS_cond (t:=false) (by simp [Act.eval,Array.replicate]) ?_
 simp only [Bool.false_eq_true,if_false]
 refine wpS_of_wp (wp_skip ?_)
 cases c₀
 simp_all [bodyPostS,results,Tryz.results25]
theorem catch_thrown (p:Addr) (w:World) (old:Value) (hc:w.cell? p=some old) (hz:w.frozen? p=false):CallsD Tryz.prog 25 #[.pointer (some p)] (.panicking thrown) w fun e u' w'=>e=.returned (.tuple #[])∧u'=.panicking [{ v:=.iface 73 (.agg #[]),recovered:=true }]∧w'=(w.alloc (.cells #[] 73)).setCell p (.string ⟨#[98,97,100]⟩):=by
 have k:=asU_hit
 have hp:p.block < w.heap.size:=World.block_lt_of_cell? w p hc
 have hc2:=(World.cell?_alloc_lt w (.cells #[] 73) p hp).trans hc
 have hz2:(w.alloc (.cells #[] 73)).frozen? p=false:=(Below.frozen (Ext.alloc w (.cells #[] 73)) hp).trans hz
 unfold thrown
 refine callsD_of_wpS Tryz.func25 rfl fun c₀ cs hu=>?_
 apply wpS_seq
 apply wpS_region
 simp [wpOpsS,go_sem,recoverD,hu,Tryz.ntmps25,Exit.thenS,k]
 apply wpS_seq
 apply wpS_region
 simp [wpOpsS,go_sem,Exit.thenS]
 refine wpS_cond (t:=true) (by simp [Act.eval,Array.replicate]) ?_
 simp only [if_true]
 apply wpS_region
 simp [wpOpsS,go_sem,hc2,hz2,bodyPostS,results,Tryz.results25]
def LnP (W w0:World) (q gu kb t:Nat) (A S:List AK.Ed) (s:ByteArray) (e:Ending) (w':World):Prop:=
 ∃ o kb' A' S' t',RN.AnsR (RN.cmdF s.data.toList) A S t o A' S' t'∧e=.returned (.string ⟨o.toArray⟩)∧SesA W w' q gu kb' t' A' S'∧KeepL w0 w'
theorem door_ret {R:Ending→World→Prop} {tmps:Array Value} {w:World} {b:Nat} {o:ByteArray} (hp:tmps[4]?.getD undef=.pointer (some ⟨b,0,none⟩)) (hc:w.cell? ⟨b,0,none⟩=some (.string o)) (h:R (.returned (.string o)) (w.alloc (.cells #[] 73))):
  bodyPostD Tryz.prog Tryz.f12 R .ret { tmps:=tmps,defers:=[{ target:=.fn (.func 25) #[.pointer (some ⟨b,0,none⟩)],args:=#[] }] } w:=by
 have hc2:=(World.cell?_alloc_lt w (.cells #[] 73) ⟨b,0,none⟩ (World.block_lt_of_cell? w _ hc)).trans hc
 refine leaves_cons (f:=25) (args:=#[.pointer (some ⟨b,0,none⟩)]) (by simp) (by simp [go_sem]) ?_
 refine (catch_idle ⟨b,0,none⟩ _).mono ?_
 rintro e u' w'' ⟨rfl,rfl,rfl⟩
 simp [Leaves,settle,results,Tryz.results12,go_sem,hp,hc2]
 exact h
theorem door_panic {R:Ending→World→Prop} {tmps:Array Value} {w:World} {b:Nat} {o:Value} (hp:tmps[4]?.getD undef=.pointer (some ⟨b,0,none⟩)) (hc:w.cell? ⟨b,0,none⟩=some o) (hf:w.frozen? ⟨b,0,none⟩=false) (h:R (.returned (.string ⟨#[98,97,100]⟩)) ((w.alloc (.cells #[] 73)).setCell ⟨b,0,none⟩ (.string ⟨#[98,97,100]⟩))):
  bodyPostD Tryz.prog Tryz.f12 R (.panic thrown) { tmps:=tmps,defers:=[{ target:=.fn (.func 25) #[.pointer (some ⟨b,0,none⟩)],args:=#[] }] } w:=by
 have hc2:=(World.cell?_alloc_lt w (.cells #[] 73) ⟨b,0,none⟩ (World.block_lt_of_cell? w _ hc)).trans hc
 refine leaves_cons (f:=25) (args:=#[.pointer (some ⟨b,0,none⟩)]) (by simp) (by simp [go_sem]) ?_
 refine (catch_thrown ⟨b,0,none⟩ _ _ hc hf).mono ?_
 rintro e u' w'' ⟨rfl,rfl,rfl⟩
 simp [Leaves,settle,results,Tryz.results12,go_sem,hp,hc2]
 exact h
theorem DskA.far {lf:Bool} {W wr w':World} {gu kb n t p:Nat} {A S:List AK.Ed} {ty:TypeId} {cs:Array Value} (h:DskA lf W wr gu kb n t A S) (hc:Chg (fun k=>k=p) wr w') (hb:Blk wr p ty cs) (hty:ty=9∨ty=40∨ty=36) (hq:W.heap.size≤p):DskA lf W w' gu kb n t A S:=by
 obtain ⟨d,gs,N,G,f,h1,h2,h3,h4⟩:=h
 obtain ⟨u,v,k1,k2,k3,k4,k5⟩:=h1.sk.all
 have n1:¬ u.fp p:=k1.notyp hb (by rcases hty with rfl | rfl | rfl <;> decide)
 have n2:gs≠p:=k3.blk.ne_ hb (by rcases hty with rfl | rfl | rfl <;> decide)
 have n3:v.ownBlock≠some p:=own_ne k3.row hb (by rcases hty with rfl | rfl | rfl <;> decide)
 have hsk:SkR W 62 d gu gs t (NT.encL n S) false none w':=⟨⟨u,v,k1.chg hc (fun k hk e=>n1 (e ▸ hk)),k2,k3.chg hc n2 (fun k hk e=>n3 (by rw [hk,e])),k4,k5⟩,h1.sk.bel.trans (hc.below h1.sk.bel.size (fun k _ e=>by rw [e];exact hq)),h1.sk.gs,fun _ _ h=>by simp at h⟩
 have off:¬ G.T p:=h1.g.m.notyp (by rcases hty with rfl | rfl | rfl <;> decide) hb
 have hg:GrI w' G n N A f:=by
  refine ⟨h1.g.m.chg hc (fun k hk e=>off (by rw [←e];exact .inl hk)) (fun i F hi e=>off (by rw [←e];exact .inr ⟨i,F,hi,rfl⟩)) (fun k e cs2 hb2=>?_),h1.g.k,h1.g.few,h1.g.nN⟩
  subst e
  have:=blk_same hb hb2
  rcases hty with rfl | rfl | rfl <;> revert this <;> decide
 exact ⟨d,gs,N,G,f,⟨hsk,h1.blk.chg hc (h1.blk.ne_ hb (by rcases hty with rfl | rfl | rfl <;> decide)),hg,h1.new,h1.le⟩,h2,h3,h4⟩
structure LnS (W w0 wr:World) (q gu kb t:Nat) (A S:List AK.Ed):Prop where
 ses:SesA W wr q gu kb t A S
 kp:KeepL w0 wr
 out:∃ v,Blk wr w0.heap.size 9 #[v]
 w0:Ext W w0
section
variable {W w0 wr w' w'':World} {q gu kb kb' t t':Nat} {A S A' S':List AK.Ed}
theorem LnS.start (h:SesA W w0 q gu kb t A S):LnS W w0 (w0.alloc (.cells #[.string ⟨#[]⟩] 9)) q gu kb t A S:=⟨h.moved (Ext.alloc _ _),KeepL.of_ext (Ext.alloc _ _),⟨_,Blk.new _ _ _⟩,h.ext⟩
theorem LnS.moved (h:LnS W w0 wr q gu kb t A S) (hx:Ext wr w'):LnS W w0 w' q gu kb t A S:=⟨h.ses.moved hx,h.kp.trans (KeepL.of_ext hx),by obtain ⟨v,hv⟩:=h.out;exact ⟨v,blk_ext hv hx⟩,h.w0⟩
theorem LnS.env (h:LnS W w0 wr q gu kb t A S) (he:RunEnv W):RunEnv wr:=he.ext h.ses.ext
theorem LnS.turned (h:LnS W w0 wr q gu kb t A S) (hs:SesA W w' q gu kb' t' A' S') (hk:KeepL wr w'):LnS W w0 w' q gu kb' t' A' S':=⟨hs,h.kp.trans hk,by obtain ⟨v,hv⟩:=h.out;exact ⟨v,hk.blk hv (by unfold SesT;decide)⟩,h.w0⟩
theorem LnS.c4 (h:LnS W w0 wr q gu kb t A S):∃ v,wr.cell? ⟨w0.heap.size,0,none⟩=some v∧wr.frozen? ⟨w0.heap.size,0,none⟩=false:=by
 obtain ⟨v,hv⟩:=h.out
 exact ⟨v,hv.cell 0,hv.frozen 0⟩
theorem KeepL.new (h:KeepL w0 wr) (hc:Chg (fun k=>k=w0.heap.size) wr w'):KeepL w0 w':=by
 obtain ⟨T,c,hT⟩:=h
 refine ⟨fun k=>T k∨k=w0.heap.size,(c.mono fun k _ h=>.inl h).trans hc fun k _ h=>.inr h,fun k hk=>?_⟩
 rcases hk with hk | hk
 ·exact hT k hk
 ·exact .inl (by omega)
theorem LnS.fin (h:LnS W w0 wr q gu kb t' A' S') {o:List UInt8} {s:ByteArray} {A S:List AK.Ed} {t kb0:Nat} (ha:RN.AnsR (RN.cmdF s.data.toList) A S t o A' S' t') (hc:Chg (fun k=>k=w0.heap.size) wr w'):LnP W w0 q gu kb0 t A S s (.returned (.string ⟨o.toArray⟩)) w':=by
 obtain ⟨v,hv⟩:=h.out
 have hq:W.heap.size≤w0.heap.size:=Below.size h.w0
 exact ⟨o,kb,A',S',t',ha,rfl,⟨h.ses.blk.chg hc (h.ses.blk.ne_ hv (by decide)),h.ses.dk.far hc hv (.inl rfl) hq,h.ses.new⟩,h.kp.new hc⟩
theorem fin_ret (h:LnS W w0 wr q gu kb t' A' S') {o:List UInt8} {s:ByteArray} {A S:List AK.Ed} {t kb0:Nat} (ha:RN.AnsR (RN.cmdF s.data.toList) A S t o A' S' t') {tmps:Array Value} (hp:tmps[4]?.getD undef=.pointer (some ⟨w0.heap.size,0,none⟩)):
  bodyPostD Tryz.prog Tryz.f12 (LnP W w0 q gu kb0 t A S s) .ret { tmps:=tmps,defers:=[{ target:=.fn (.func 25) #[.pointer (some ⟨w0.heap.size,0,none⟩)],args:=#[] }] } (wr.setCell ⟨w0.heap.size,0,none⟩ (.string ⟨o.toArray⟩)):=by
 obtain ⟨v,hv⟩:=h.out
 have hb:=hv.set_ 0 (.string ⟨o.toArray⟩)
 exact door_ret hp (by rw [hb.cell];rfl) (h.fin ha ((chg_set _ _ _ _).trans (Chg.new (Ext.alloc _ _) _) (fun _ _ h=>h)))
theorem fin_panic (h:LnS W w0 wr q gu kb t A S) {s:ByteArray} {kb0:Nat} (ha:RN.cmdF s.data.toList=.bad) {tmps:Array Value} (hp:tmps[4]?.getD undef=.pointer (some ⟨w0.heap.size,0,none⟩)):
  bodyPostD Tryz.prog Tryz.f12 (LnP W w0 q gu kb0 t A S s) (.panic thrown) { tmps:=tmps,defers:=[{ target:=.fn (.func 25) #[.pointer (some ⟨w0.heap.size,0,none⟩)],args:=#[] }] } wr:=by
 obtain ⟨v,hv⟩:=h.out
 exact door_panic hp (hv.cell 0) (hv.frozen 0) ((h.moved (Ext.alloc _ _)).fin (o:=RN.tBad) (by rw [ha];exact ⟨rfl,rfl,rfl,rfl⟩) (chg_set _ _ _ _))
end
theorem isPre (l:List UInt8):Lib.hasPrefix l [100,111,32]=decide (l.take 3=[100,111,32]):=by
 unfold Lib.hasPrefix
 rw [Bool.eq_iff_iff,List.isPrefixOf_iff_prefix,List.prefix_iff_eq_take,decide_eq_true_iff]
 exact ⟨fun h=>h.symm,fun h=>h.symm⟩
theorem pre_t {s:ByteArray} (h:s.data.toList.take 3=[100,111,32]) (w:World):Calls Tryz.prog 26 #[.string s,.string ⟨#[100,111,32]⟩] w fun e w'=>e=.returned (.tuple #[.string (s.extract 3 s.size),.bool true])∧w=w':=by
 have h1:Lib.hasPrefix s.data.toList [100,111,32]=true:=by rw [isPre,h];rfl
 have h3:3≤s.size:=by
  rw [sz_len]
  have:=congrArg List.length h
  rw [List.length_take] at this
  simp only [List.length_cons,List.length_nil] at this
  omega
 have h2:(⟨(Lib.trimPrefix s.data.toList [100,111,32]).toArray⟩:ByteArray)=s.extract 3 s.size:=by
  unfold Lib.trimPrefix
  rw [if_pos h1]
  exact str_eq (str_drop s 3 h3)
 refine (pcutp_any s ⟨#[100,111,32]⟩ w).mono ?_
 rintro e w' ⟨rfl,rfl⟩
 exact ⟨by rw [h1,h2],rfl⟩
theorem pre_f {s:ByteArray} (h:s.data.toList.take 3≠[100,111,32]) (w:World):Calls Tryz.prog 26 #[.string s,.string ⟨#[100,111,32]⟩] w fun e w'=>e=.returned (.tuple #[.string s,.bool false])∧w=w':=by
 have h1:Lib.hasPrefix s.data.toList [100,111,32]=false:=by rw [isPre];exact decide_eq_false h
 have h2:(⟨(Lib.trimPrefix s.data.toList [100,111,32]).toArray⟩:ByteArray)=s:=by
  unfold Lib.trimPrefix
  rw [if_neg (by rw [h1];simp)]
 refine (pcutp_any s ⟨#[100,111,32]⟩ w).mono ?_
 rintro e w' ⟨rfl,rfl⟩
 exact ⟨by rw [h1,h2],rfl⟩
set_option maxRecDepth 100000 in
theorem keyStr_inv {v:Value} {l:Lit} (h:keyOf Tryz.prog 9 v=some l):∃ s:ByteArray,s.size≤maxLen∧v=.string s:=by
 obtain ⟨s,rfl⟩:∃ s,v=.string s:=by
  unfold keyOf at h
  rw [Tryz.underlying9] at h
  cases v <;> simp [mapKey,Tryz.underlying9] at h
  exact ⟨_,rfl⟩
 refine ⟨s,?_,rfl⟩
 unfold keyOf at h
 rw [Tryz.underlying9] at h
 simp [mapKey,Tryz.underlying9] at h
 exact h.1
def kS:KK ByteArray:=⟨9,fun x=>x.size≤maxLen,fun x=>.string x.data.toList,fun x=>.string x,Maps.string_keyed Tryz.underlying9,fun x h=>Go.WideMaps.keyOf_string_mk Tryz.underlying9 h,fun v l h=>keyStr_inv h,fun x y h=>by simpa using h⟩
def manyF (x:List UInt8):Int:=if x=[116,117,114,110] then 1 else if x=[99,114,97,115,104] then 1 else if x=[115,97,118,101] then 1 else if x=[106,111,105,110,116,115] then 1 else if x=[98,114,105,100,103,101,115] then 1 else if x=[119,97,121] then 3 else if x=[115,105,122,101] then 2 else if x=[112,97,114,116,115] then 1 else 0
def manyM:ByteArray→Option Value:=updV (updV (updV (updV (updV (updV (updV (updV (fun _=>none) ⟨#[112,97,114,116,115]⟩ (some (.int .i64 1))) ⟨#[115,105,122,101]⟩ (some (.int .i64 2))) ⟨#[119,97,121]⟩ (some (.int .i64 3))) ⟨#[98,114,105,100,103,101,115]⟩ (some (.int .i64 1))) ⟨#[106,111,105,110,116,115]⟩ (some (.int .i64 1))) ⟨#[115,97,118,101]⟩ (some (.int .i64 1))) ⟨#[99,114,97,115,104]⟩ (some (.int .i64 1))) ⟨#[116,117,114,110]⟩ (some (.int .i64 1))
theorem ba_eq {x:ByteArray} {l:List UInt8}:x=⟨l.toArray⟩↔x.data.toList=l:=⟨fun h=>by rw [h],fun h=>(str_eq h).symm⟩
theorem manyM_get (x:ByteArray):(manyM x).getD (.int .i64 0)=.int .i64 (manyF x.data.toList):=by
 unfold manyM manyF updV
 simp only [ba_eq]
 split
 ·rfl
 split
 ·rfl
 split
 ·rfl
 split
 ·rfl
 split
 ·rfl
 split
 ·rfl
 split
 ·rfl
 split
 ·rfl
 rfl
theorem zeroIK (w:World):(zeroValue 3).run Tryz.prog w=.ok (.int .i64 0) w:=by kernel_rfl
def InsR (b:Nat) (k:ByteArray) (v:Int) (w w':World):Prop:=(Instr.mapUpdate 78 (.map (some b)) (.string k) (.int .i64 v)).run Tryz.prog w=.ok () w'
theorem many_map (w:World):∃ m1 m2 m3 m4 m5 m6 m7 m8:World,InsR w.heap.size ⟨#[112,97,114,116,115]⟩ 1 (w.alloc (.map #[] 0)) m1∧InsR w.heap.size ⟨#[115,105,122,101]⟩ 2 m1 m2∧InsR w.heap.size ⟨#[119,97,121]⟩ 3 m2 m3∧InsR w.heap.size ⟨#[98,114,105,100,103,101,115]⟩ 1 m3 m4∧InsR w.heap.size ⟨#[106,111,105,110,116,115]⟩ 1 m4 m5∧InsR w.heap.size ⟨#[115,97,118,101]⟩ 1 m5 m6∧InsR w.heap.size ⟨#[99,114,97,115,104]⟩ 1 m6 m7∧InsR w.heap.size ⟨#[116,117,114,110]⟩ 1 m7 m8∧Ext w m8∧
  ∀ x:ByteArray,x.size≤maxLen→(Instr.lookup 78 (.map (some w.heap.size)) (.string x) false).run Tryz.prog m8=.ok (.int .i64 (manyF x.data.toList)) m8:=by
 have v0:=VM.made kS w
 have hu:=Tryz.underlying78
 obtain ⟨m1,r1,v1,c1,_⟩:=v0.put hu (by omega) ⟨#[112,97,114,116,115]⟩ (by show 5≤maxLen;decide) (.int .i64 1)
 obtain ⟨m2,r2,v2,c2,_⟩:=v1.put hu (by omega) ⟨#[115,105,122,101]⟩ (by show 4≤maxLen;decide) (.int .i64 2)
 obtain ⟨m3,r3,v3,c3,_⟩:=v2.put hu (by omega) ⟨#[119,97,121]⟩ (by show 3≤maxLen;decide) (.int .i64 3)
 obtain ⟨m4,r4,v4,c4,_⟩:=v3.put hu (by omega) ⟨#[98,114,105,100,103,101,115]⟩ (by show 7≤maxLen;decide) (.int .i64 1)
 obtain ⟨m5,r5,v5,c5,_⟩:=v4.put hu (by omega) ⟨#[106,111,105,110,116,115]⟩ (by show 6≤maxLen;decide) (.int .i64 1)
 obtain ⟨m6,r6,v6,c6,_⟩:=v5.put hu (by omega) ⟨#[115,97,118,101]⟩ (by show 4≤maxLen;decide) (.int .i64 1)
 obtain ⟨m7,r7,v7,c7,_⟩:=v6.put hu (by omega) ⟨#[99,114,97,115,104]⟩ (by show 5≤maxLen;decide) (.int .i64 1)
 obtain ⟨m8,r8,v8,c8,_⟩:=v7.put hu (by omega) ⟨#[116,117,114,110]⟩ (by show 4≤maxLen;decide) (.int .i64 1)
 have st:∀ {a b:World},Ext w a→Chg (fun j=>j=w.heap.size) a b→Ext w b:=fun ha hc=>Below.trans ha (hc.below (Below.size ha) (fun k _ e=>by omega))
 refine ⟨m1,m2,m3,m4,m5,m6,m7,m8,r1,r2,r3,r4,r5,r6,r7,r8,st (st (st (st (st (st (st (st (Ext.alloc _ _) c1) c2) c3) c4) c5) c6) c7) c8,fun x hx=>?_⟩
 exact (v8.look hu (zeroIK m8) x hx).trans (congrArg (fun v=>Result.ok v m8) (manyM_get x))
section
variable {w:World} {A:List AK.Ed} {R:Option Addr} {c:Nat}
theorem gs_any {G:GrP} {n N:Nat} {f:AK.Ed→GM.St} (h:GrI w G n N A f) (a:Nat) (ha:a < n):Calls Tryz.prog 33 #[.pointer (some ⟨G.gb,0,none⟩),.int .i64 a] w fun e w'=>e=.returned (.tuple #[.int .i64 ((comp n A a).length:Nat),.nilIface])∧Ext w w':=by
 have:=gsize_ok h.m a ha
 rwa [comp_joins h] at this
theorem br_any (hd:DkE 20 A) (hE:EdsAt w R A):Calls Tryz.prog 39 #[.int .i64 20,.slice R A.length c] w fun e w'=>∃ R' c' x,e=.returned (.tuple #[.slice R' (x:List AK.Ed).length c',.nilIface])∧EdsAt w' R' x∧x.length≤60∧BrsOf 20 A x∧Ext w w':=by
 refine (bridges_any w 20 R A.length c A rfl (by have:=hd.le;omega) hE).mono ?_
 rintro e w' ⟨hx,⟨hbad,_⟩ | ⟨_,k,R',c',x,hk,rfl,h1,_,h2,h3⟩⟩
 ·exact absurd hd.enc hbad
 ·obtain rfl:20=k:=by omega
  exact ⟨R',c',x,rfl,h1,h2,h3,hx⟩
theorem jo_any (hd:DkE 20 A) (hE:EdsAt w R A):Calls Tryz.prog 42 #[.int .i64 20,.slice R A.length c] w fun e w'=>∃ R' c' x,e=.returned (.tuple #[.slice R' (x:List Int).length c',.nilIface])∧IntsAt w' R' x∧x.length≤60∧JtsOf 20 A x∧Ext w w':=by
 refine (joints_any w 20 R A.length c A rfl (by have:=hd.le;omega) hE).mono ?_
 rintro e w' ⟨hx,⟨hbad,_⟩ | ⟨_,k,R',c',x,hk,rfl,h1,_,h2,h3⟩⟩
 ·exact absurd hd.enc hbad
 ·obtain rfl:20=k:=by omega
  exact ⟨R',c',x,rfl,h1,h2,h3,hx⟩
theorem sh_far (hd:DkE 20 A) (hE:EdsAt w R A) (a b:Nat) (hab:¬ (a < 20∧b < 20)):Calls Tryz.prog 35 #[.int .i64 20,.slice R A.length c,.int .i64 (a:Int),.int .i64 (b:Int)] w fun e w'=>e=.returned (.tuple #[.slice none 0 0,.iface 52 (.int .i64 1)])∧Ext w w':=by
 have hck:ckF 20 A [(a:Int),(b:Int)]=1:=by
  unfold ckF
  rw [if_neg (by have:=hd.enc;simpa using this),if_pos]
  simp [badN];omega
 refine (short_any w 20 R A.length c A rfl (by have:=hd.le;omega) hE a b).mono ?_
 rintro e w' ⟨hx,⟨_,rfl⟩ | ⟨k,x,y,d,h0,_⟩⟩
 ·rw [hck];exact ⟨rfl,hx⟩
 ·rw [hck] at h0;omega
theorem sh_ok (hd:DkE 20 A) (hE:EdsAt w R A) (a b:Nat) (ha:a < 20) (hb:b < 20):Calls Tryz.prog 35 #[.int .i64 20,.slice R A.length c,.int .i64 (a:Int),.int .i64 (b:Int)] w fun e w'=>Ext w w'∧∃ d,PD.IsDist 20 A b d∧((PD.g d a < 0∧e=.returned (.tuple #[.slice none 0 0,.iface 52 (.int .i64 4)]))∨
  (0≤PD.g d a∧∃ R' c' p,e=.returned (.tuple #[.slice R' p.length c',.nilIface])∧PD.Way 20 A d a p∧IntsAt w' R' (p.map fun (x:Nat)=>(x:Int))∧p.length≤100)):=by
 have hck:ckF 20 A [(a:Int),(b:Int)]=0:=by
  unfold ckF
  rw [if_neg (by have:=hd.enc;simpa using this),if_neg]
  simp [badN];omega
 refine (short_any w 20 R A.length c A rfl (by have:=hd.le;omega) hE a b).mono ?_
 rintro e w' ⟨hx,⟨hbad,_⟩ | ⟨k,x,y,d,_,hk,hax,hby,hdist,hh⟩⟩
 ·exact absurd hck hbad
 ·obtain rfl:20=k:=by omega
  obtain rfl:a=x:=by omega
  obtain rfl:b=y:=by omega
  refine ⟨hx,d,hdist,?_⟩
  rcases hh with ⟨h0,rfl⟩ | ⟨h0,R',c',p,rfl,hw,hrow,hp⟩
  ·exact .inl ⟨h0,rfl⟩
  ·exact .inr ⟨h0,R',c',p,rfl,hw,(IntsAt.of_own (xs:=p.map fun (x:Nat)=>(x:Int)) (by rw [←natV_map];exact hrow)).1,hp⟩
end
theorem sp_prog2 (s:ByteArray) (hs:s.size≤3000) (w:World):Calls Tryz.prog 28 #[.string s,.string ⟨#[32]⟩] w fun e w'=>∃ (ts:List ByteArray) (b:Nat),e=.returned (.slice (some ⟨b,0,none⟩) ts.length ts.length)∧ts.map (fun t=>t.data.toList)=RN.spc 32 [] s.data.toList∧StsAt w' (some ⟨b,0,none⟩) ts∧Ext w w':=by
 refine (psplit_any s 32 (by omega) w).mono ?_
 rintro e w' ⟨ts,h1,rfl,rfl⟩
 have hb:=Blk.new w 9 (ts.map Value.string).toArray
 refine ⟨ts,_,rfl,h1,⟨_,rfl,⟨_,hb⟩,fun i t ht=>?_⟩,Ext.alloc _ _⟩
 rw [hb.cell]
 simp [ht]
set_option maxRecDepth 100000 in
theorem pline_do {W w0:World} {q gu kb t:Nat} {A S:List AK.Ed} (h:SesA W w0 q gu kb t A S) (he:RunEnv W) (s:ByteArray) (hs:s.size≤3000) (hd:s.data.toList.take 3=[100,111,32]):Calls Tryz.prog 12 #[.pointer (some ⟨q,0,none⟩),.string s] w0 (LnP W w0 q gu kb t A S s):=by
 have hmf:∀ (fn:Fn) (first cap:Array Value) (w:World),(Instr.makeFunc fn first cap).run Tryz.prog w=.ok (.func fn first cap) w:=fun _ _ _ _=>rfl
 have HL:=Lib.hid (LnS.start h)
 have HE:=Lib.hid he
 have HPC:=Lib.hid (pre_t hd)
 have h3:3≤s.size:=by
  rw [sz_len]
  have:=congrArg List.length hd
  rw [List.length_take] at this
  simp only [List.length_cons,List.length_nil] at this
  omega
 have HC:Hid (RN.cmdF s.data.toList=RN.cmdDo (s.extract 3 s.size).data.toList):=by
  unfold Hid RN.cmdF
  rw [if_pos hd,str_drop s 3 h3]
 have hsz:(s.extract 3 s.size).size≤3000:=by rw [ByteArray.size_extract];omega
 clear h he hd h3
 go_enter_defers Tryz.func12,Tryz.ntmps12
 go_wp2_with fail
 refine (HPC.out _).mono ?_
 rintro e w' ⟨rfl,rfl⟩
 go_wp2_with fail
 refine (sdo_any HL.out.ses HE.out _ hsz).mono ?_
 rintro e w5 (⟨o,A',ha,rfl,hsa,hk⟩ | ⟨hb,rfl,hx⟩)
 ·have HL5:=Lib.hid (HL.out.turned hsa hk)
  obtain ⟨v4,c4,f4⟩:=HL5.out.c4
  have HA:Hid (RN.AnsR (RN.cmdF s.data.toList) A S t o A' S t):=by unfold Hid;rw [HC.out];exact ha
  clear hsa hk ha
  go_wp2
  exact fin_ret HL5.out HA.out rfl
 ·have HL5:=Lib.hid (HL.out.moved hx)
  obtain ⟨v4,c4,f4⟩:=HL5.out.c4
  have HB:Hid (RN.cmdF s.data.toList=.bad):=HC.out.trans hb
  clear hx hb
  go_wp2
  exact fin_panic HL5.out HB.out rfl
set_option maxRecDepth 100000 in
theorem pline_parts {W w0:World} {q gu kb t:Nat} {A S:List AK.Ed} (h:SesA W w0 q gu kb t A S) (he:RunEnv W) (s:ByteArray) (hs:s.size≤3000) (ht:t+1≤790) (hl:s.data.toList=[112,97,114,116,115]):Calls Tryz.prog 12 #[.pointer (some ⟨q,0,none⟩),.string s] w0 (LnP W w0 q gu kb t A S s):=by
 have hmf:∀ (fn:Fn) (first cap:Array Value) (w:World),(Instr.makeFunc fn first cap).run Tryz.prog w=.ok (.func fn first cap) w:=fun _ _ _ _=>rfl
 have hmm:=@run_makeMap Tryz.prog
 have HL0:=Lib.hid (LnS.start h)
 have HE:=Lib.hid he
 have hnd:s.data.toList.take 3≠[100,111,32]:=by rw [hl];decide
 have HPC:=Lib.hid (pre_f hnd)
 have HW:Hid (RN.spc 32 [] s.data.toList=[[112,97,114,116,115]]):=by unfold Hid;rw [hl];decide
 have HC:Hid (RN.cmdF s.data.toList=.parts):=by unfold Hid;rw [hl];rfl
 clear h he hl hnd
 go_enter_defers Tryz.func12,Tryz.ntmps12
 go_wp2_with fail
 refine (HPC.out _).mono ?_
 rintro e w' ⟨rfl,rfl⟩
 go_wp2_with fail
 refine (sp_prog2 s hs _).mono ?_
 rintro e w1 ⟨ts,rb,rfl,h1,⟨rb',hrb,hb1,hb2⟩,h4⟩
 injection hrb with hrb
 injection hrb with hrb
 subst hrb
 rw [HW.out] at h1
 obtain ⟨hn,t0,g0,e0⟩:=map_one h1
 obtain ⟨m1,m2,m3,m4,m5,m6,m7,m8,r1,r2,r3,r4,r5,r6,r7,r8,hx8,hlk⟩:=many_map w1
 unfold InsR at r1 r2 r3 r4 r5 r6 r7 r8
 have hlk:=hlk t0 (by rw [sz_len,e0];decide)
 rw [e0,show manyF [112,97,114,116,115]=1 from by decide] at hlk
 have HL8:=Lib.hid ((HL0.out.moved h4).moved hx8)
 obtain ⟨cs8,hb8⟩:=hb1
 have c0:=(hx8.cell (p:=⟨rb,0,none⟩) hb8.lt).trans (hb2 0 _ g0)
 have g_parts:=strB_t e0
 have hkb:=HL8.out.ses.blk
 have k0:=hkb.cell 0
 have k1:=hkb.cell 1
 simp only [List.getElem?_toArray,List.getElem?_cons_zero,List.getElem?_cons_succ] at k0 k1
 rw [hn]
 clear h1 g0 e0 hb8 hb2 h4 hn hx8 hkb
 go_wp2_with fail
 clear hlk r1 r2 r3 r4 r5 r6 r7 r8
 go_loopw [9,49] (fun v9 v49 wx=>v9=.slice none 0 0∧v49=.int .i64 0∧Hid (wx=m8)) (fun _ _ _=>0)
 case atStart=>exact ⟨rfl,rfl,rfl⟩
 case round=>
  obtain ⟨rfl,rfl,HR⟩:=hrel
  obtain rfl:=HR.out
  have HDG:=Lib.hid (da_graph HL8.out.ses.dk)
  go_wp2_with fail
  refine HDG.out.mono ?_
  rintro e w2 ⟨G,f,rfl,hg⟩
  have HL2:=Lib.hid (HL8.out.moved hg.ext)
  have HG:=Lib.hid hg.at_
  have c0:=(hg.ext.cell (p:=⟨rb,0,none⟩) (World.block_lt_of_cell? _ _ c0)).trans c0
  have k0:=(hg.ext.cell (p:=⟨q,0,none⟩) (World.block_lt_of_cell? _ _ k0)).trans k0
  have k1:=(hg.ext.cell (p:=⟨q,1,none⟩) (World.block_lt_of_cell? _ _ k1)).trans k1
  obtain ⟨g0,hg0⟩:∃ g,G.gb=g:=⟨_,rfl⟩
  rw [hg0]
  have HG0:=Lib.hid hg0
  clear hg hg0 HDG
  have HPT:=gp_any HG.out HL2.out.ses.dk.de.le
  rw [HG0.out] at HPT
  have HPT:=Lib.hid HPT
  go_wp2_with fail
  refine HPT.out.mono ?_
  rintro e w3 ⟨rfl,hx3⟩
  have HL3:=Lib.hid (HL2.out.moved hx3)
  have hcl:=RN.cnt_le (ldr A) 20
  clear hx3 HPT
  go_wp2_with fail
  refine (itoa_any (PD.cnt (ldr A) 20) (by omega) _ (HL3.out.env HE.out)).mono ?_
  rintro e w4 ⟨rfl,hx4⟩
  have HL4:=Lib.hid (HL3.out.moved hx4)
  clear hx4
  obtain ⟨v4,c4,f4⟩:=HL4.out.c4
  go_wp2
  exact fin_ret HL4.out (by rw [HC.out];exact ⟨rfl,rfl,rfl,rfl⟩) rfl
set_option maxRecDepth 100000 in
theorem pline_bridges {W w0:World} {q gu kb t:Nat} {A S:List AK.Ed} (h:SesA W w0 q gu kb t A S) (he:RunEnv W) (s:ByteArray) (hs:s.size≤3000) (ht:t+1≤790) (hl:s.data.toList=[98,114,105,100,103,101,115]):Calls Tryz.prog 12 #[.pointer (some ⟨q,0,none⟩),.string s] w0 (LnP W w0 q gu kb t A S s):=by
 have hmf:∀ (fn:Fn) (first cap:Array Value) (w:World),(Instr.makeFunc fn first cap).run Tryz.prog w=.ok (.func fn first cap) w:=fun _ _ _ _=>rfl
 have hmm:=@run_makeMap Tryz.prog
 have HL0:=Lib.hid (LnS.start h)
 have HE:=Lib.hid he
 have hnd:s.data.toList.take 3≠[100,111,32]:=by rw [hl];decide
 have HPC:=Lib.hid (pre_f hnd)
 have HW:Hid (RN.spc 32 [] s.data.toList=[[98,114,105,100,103,101,115]]):=by unfold Hid;rw [hl];decide
 have HC:Hid (RN.cmdF s.data.toList=.bridges):=by unfold Hid;rw [hl];rfl
 clear h he hl hnd
 go_enter_defers Tryz.func12,Tryz.ntmps12
 go_wp2_with fail
 refine (HPC.out _).mono ?_
 rintro e w' ⟨rfl,rfl⟩
 go_wp2_with fail
 refine (sp_prog2 s hs _).mono ?_
 rintro e w1 ⟨ts,rb,rfl,h1,⟨rb',hrb,hb1,hb2⟩,h4⟩
 injection hrb with hrb
 injection hrb with hrb
 subst hrb
 rw [HW.out] at h1
 obtain ⟨hn,t0,g0,e0⟩:=map_one h1
 obtain ⟨m1,m2,m3,m4,m5,m6,m7,m8,r1,r2,r3,r4,r5,r6,r7,r8,hx8,hlk⟩:=many_map w1
 unfold InsR at r1 r2 r3 r4 r5 r6 r7 r8
 have hlk:=hlk t0 (by rw [sz_len,e0];decide)
 rw [e0,show manyF [98,114,105,100,103,101,115]=1 from by decide] at hlk
 have HL8:=Lib.hid ((HL0.out.moved h4).moved hx8)
 obtain ⟨cs8,hb8⟩:=hb1
 have c0:=(hx8.cell (p:=⟨rb,0,none⟩) hb8.lt).trans (hb2 0 _ g0)
 have g_parts:=strB_f (s:=t0) (l:=[112,97,114,116,115]) (by rw [e0];decide)
 have g_size:=strB_f (s:=t0) (l:=[115,105,122,101]) (by rw [e0];decide)
 have g_way:=strB_f (s:=t0) (l:=[119,97,121]) (by rw [e0];decide)
 have g_bridges:=strB_t e0
 have hkb:=HL8.out.ses.blk
 have k0:=hkb.cell 0
 have k1:=hkb.cell 1
 simp only [List.getElem?_toArray,List.getElem?_cons_zero,List.getElem?_cons_succ] at k0 k1
 rw [hn]
 clear h1 g0 e0 hb8 hb2 h4 hn hx8 hkb
 go_wp2_with fail
 clear hlk r1 r2 r3 r4 r5 r6 r7 r8
 go_loopw [9,49] (fun v9 v49 wx=>v9=.slice none 0 0∧v49=.int .i64 0∧Hid (wx=m8)) (fun _ _ _=>0)
 case atStart=>exact ⟨rfl,rfl,rfl⟩
 case round=>
  obtain ⟨rfl,rfl,HR⟩:=hrel
  obtain rfl:=HR.out
  have HDG:=Lib.hid (da_graph HL8.out.ses.dk)
  go_wp2_with fail
  refine HDG.out.mono ?_
  rintro e w2 ⟨G,f,rfl,hg⟩
  have HL2:=Lib.hid (HL8.out.moved hg.ext)
  have HG:=Lib.hid hg.at_
  have c0:=(hg.ext.cell (p:=⟨rb,0,none⟩) (World.block_lt_of_cell? _ _ c0)).trans c0
  have k0:=(hg.ext.cell (p:=⟨q,0,none⟩) (World.block_lt_of_cell? _ _ k0)).trans k0
  have k1:=(hg.ext.cell (p:=⟨q,1,none⟩) (World.block_lt_of_cell? _ _ k1)).trans k1
  obtain ⟨g0,hg0⟩:∃ g,G.gb=g:=⟨_,rfl⟩
  rw [hg0]
  have HG0:=Lib.hid hg0
  clear hg hg0 HDG
  have HN:=Lib.hid (da_nodes HL2.out.ses.dk)
  go_wp2_with fail
  refine HN.out.mono ?_
  rintro e w3 ⟨rfl,hx3⟩
  have HL3:=Lib.hid (HL2.out.moved hx3)
  have HGE:=ge_any (HG.out.ext hx3) HL2.out.ses.dk.de.le
  rw [HG0.out] at HGE
  have HGE:=Lib.hid HGE
  clear hx3 HN
  go_wp2_with fail
  refine HGE.out.mono ?_
  rintro e w4 ⟨R4,d4,rfl,hE4,_,hx4⟩
  have HL4:=Lib.hid (HL3.out.moved hx4)
  have HE4:=Lib.hid hE4
  have HDE:Hid (DkE 20 A):=HL2.out.ses.dk.de
  clear hx4 hE4 HGE
  go_wp2_with fail
  refine (br_any HDE.out HE4.out).mono ?_
  rintro e w5 ⟨R5,d5,x,rfl,hE5,hxl,hbr,hx5⟩
  have HL5:=Lib.hid (HL4.out.moved hx5)
  have HWD:=words_edge 40 w5 R5 x.length d5 x rfl (by omega) hE5 RN.edW ⟨#[45]⟩ enEdge (fun z hz W' _=>by
   have h3:=hbr.2.2 z hz
   obtain ⟨u,hu⟩:=Int.eq_ofNat_of_zero_le h3.1
   obtain ⟨v,hv⟩:=Int.eq_ofNat_of_zero_le (show 0≤z.2 by omega)
   have hz2:z=((u:Int),(v:Int)):=Prod.ext hu hv
   subst hz2
   exact edge_any u v (by simp at h3;omega) (by simp at h3;omega) W') (fun z hz=>by
   have h3:=hbr.2.2 z hz
   have h4:=RN.dec_len_le z.1.toNat z.1.toNat (Nat.le_refl _)
   have h5:=RN.dec_len_le z.2.toNat z.2.toNat (Nat.le_refl _)
   simp only [RN.edW,List.length_append,List.length_cons];omega)
  have HA:Hid (RN.AnsR (RN.cmdF s.data.toList) A S t (RN.wordsT RN.tDash (x.map RN.edW)) A S t):=by unfold Hid;rw [HC.out];exact ⟨⟨x,hbr,by omega,rfl⟩,rfl,rfl,rfl⟩
  obtain ⟨o,ho⟩:∃ o,RN.wordsT (⟨#[45]⟩:ByteArray).data.toList (x.map RN.edW)=o:=⟨_,rfl⟩
  have ho2:RN.wordsT RN.tDash (x.map RN.edW)=o:=ho
  rw [ho] at HWD
  rw [ho2] at HA
  have HWD:=Lib.hid HWD
  clear hx5 hE5 hbr ho ho2
  go_wp2_with fail
  refine HWD.out.mono ?_
  rintro e w6 ⟨rfl,hx6⟩
  have HL6:=Lib.hid (HL5.out.moved hx6)
  clear hx6 HWD
  go_wp2_with fail
  refine (answer_ok _ _).mono ?_
  rintro e w7 ⟨rfl,hx7⟩
  have HL7:=Lib.hid (HL6.out.moved hx7)
  clear hx7
  obtain ⟨v4,c4,f4⟩:=HL7.out.c4
  go_wp2
  exact fin_ret HL7.out HA.out rfl
set_option maxRecDepth 100000 in
theorem pline_joints {W w0:World} {q gu kb t:Nat} {A S:List AK.Ed} (h:SesA W w0 q gu kb t A S) (he:RunEnv W) (s:ByteArray) (hs:s.size≤3000) (ht:t+1≤790) (hl:s.data.toList=[106,111,105,110,116,115]):Calls Tryz.prog 12 #[.pointer (some ⟨q,0,none⟩),.string s] w0 (LnP W w0 q gu kb t A S s):=by
 have hmf:∀ (fn:Fn) (first cap:Array Value) (w:World),(Instr.makeFunc fn first cap).run Tryz.prog w=.ok (.func fn first cap) w:=fun _ _ _ _=>rfl
 have hmm:=@run_makeMap Tryz.prog
 have HL0:=Lib.hid (LnS.start h)
 have HE:=Lib.hid he
 have hnd:s.data.toList.take 3≠[100,111,32]:=by rw [hl];decide
 have HPC:=Lib.hid (pre_f hnd)
 have HW:Hid (RN.spc 32 [] s.data.toList=[[106,111,105,110,116,115]]):=by unfold Hid;rw [hl];decide
 have HC:Hid (RN.cmdF s.data.toList=.joints):=by unfold Hid;rw [hl];rfl
 clear h he hl hnd
 go_enter_defers Tryz.func12,Tryz.ntmps12
 go_wp2_with fail
 refine (HPC.out _).mono ?_
 rintro e w' ⟨rfl,rfl⟩
 go_wp2_with fail
 refine (sp_prog2 s hs _).mono ?_
 rintro e w1 ⟨ts,rb,rfl,h1,⟨rb',hrb,hb1,hb2⟩,h4⟩
 injection hrb with hrb
 injection hrb with hrb
 subst hrb
 rw [HW.out] at h1
 obtain ⟨hn,t0,g0,e0⟩:=map_one h1
 obtain ⟨m1,m2,m3,m4,m5,m6,m7,m8,r1,r2,r3,r4,r5,r6,r7,r8,hx8,hlk⟩:=many_map w1
 unfold InsR at r1 r2 r3 r4 r5 r6 r7 r8
 have hlk:=hlk t0 (by rw [sz_len,e0];decide)
 rw [e0,show manyF [106,111,105,110,116,115]=1 from by decide] at hlk
 have HL8:=Lib.hid ((HL0.out.moved h4).moved hx8)
 obtain ⟨cs8,hb8⟩:=hb1
 have c0:=(hx8.cell (p:=⟨rb,0,none⟩) hb8.lt).trans (hb2 0 _ g0)
 have g_parts:=strB_f (s:=t0) (l:=[112,97,114,116,115]) (by rw [e0];decide)
 have g_size:=strB_f (s:=t0) (l:=[115,105,122,101]) (by rw [e0];decide)
 have g_way:=strB_f (s:=t0) (l:=[119,97,121]) (by rw [e0];decide)
 have g_bridges:=strB_f (s:=t0) (l:=[98,114,105,100,103,101,115]) (by rw [e0];decide)
 have g_joints:=strB_t e0
 have hkb:=HL8.out.ses.blk
 have k0:=hkb.cell 0
 have k1:=hkb.cell 1
 simp only [List.getElem?_toArray,List.getElem?_cons_zero,List.getElem?_cons_succ] at k0 k1
 rw [hn]
 clear h1 g0 e0 hb8 hb2 h4 hn hx8 hkb
 go_wp2_with fail
 clear hlk r1 r2 r3 r4 r5 r6 r7 r8
 go_loopw [9,49] (fun v9 v49 wx=>v9=.slice none 0 0∧v49=.int .i64 0∧Hid (wx=m8)) (fun _ _ _=>0)
 case atStart=>exact ⟨rfl,rfl,rfl⟩
 case round=>
  obtain ⟨rfl,rfl,HR⟩:=hrel
  obtain rfl:=HR.out
  have HDG:=Lib.hid (da_graph HL8.out.ses.dk)
  go_wp2_with fail
  refine HDG.out.mono ?_
  rintro e w2 ⟨G,f,rfl,hg⟩
  have HL2:=Lib.hid (HL8.out.moved hg.ext)
  have HG:=Lib.hid hg.at_
  have c0:=(hg.ext.cell (p:=⟨rb,0,none⟩) (World.block_lt_of_cell? _ _ c0)).trans c0
  have k0:=(hg.ext.cell (p:=⟨q,0,none⟩) (World.block_lt_of_cell? _ _ k0)).trans k0
  have k1:=(hg.ext.cell (p:=⟨q,1,none⟩) (World.block_lt_of_cell? _ _ k1)).trans k1
  obtain ⟨g0,hg0⟩:∃ g,G.gb=g:=⟨_,rfl⟩
  rw [hg0]
  have HG0:=Lib.hid hg0
  clear hg hg0 HDG
  have HN:=Lib.hid (da_nodes HL2.out.ses.dk)
  go_wp2_with fail
  refine HN.out.mono ?_
  rintro e w3 ⟨rfl,hx3⟩
  have HL3:=Lib.hid (HL2.out.moved hx3)
  have HGE:=ge_any (HG.out.ext hx3) HL2.out.ses.dk.de.le
  rw [HG0.out] at HGE
  have HGE:=Lib.hid HGE
  clear hx3 HN
  go_wp2_with fail
  refine HGE.out.mono ?_
  rintro e w4 ⟨R4,d4,rfl,hE4,_,hx4⟩
  have HL4:=Lib.hid (HL3.out.moved hx4)
  have HE4:=Lib.hid hE4
  have HDE:Hid (DkE 20 A):=HL2.out.ses.dk.de
  clear hx4 hE4 HGE
  go_wp2_with fail
  refine (jo_any HDE.out HE4.out).mono ?_
  rintro e w5 ⟨R5,d5,x,rfl,hE5,hxl,hbr,hx5⟩
  have HL5:=Lib.hid (HL4.out.moved hx5)
  have HWD:=words_int 31 w5 R5 x.length d5 x rfl (by omega) hE5 (fun y=>Lib.decDigits y.toNat) ⟨#[45]⟩ enItoa (fun z hz W' hW=>by
   obtain ⟨c,rfl,hc,_⟩:=(hbr.2 z).1 hz
   simp only [Int.toNat_natCast]
   exact itoa_any c (by omega) W' ((HL5.out.env HE.out).ext hW)) (fun z hz=>by
   obtain ⟨c,rfl,hc,_⟩:=(hbr.2 z).1 hz
   have h4:=RN.dec_len_le ((c:Int).toNat) ((c:Int).toNat) (Nat.le_refl _)
   omega)
  have HA:Hid (RN.AnsR (RN.cmdF s.data.toList) A S t (RN.wordsT RN.tDash (x.map fun y=>Lib.decDigits y.toNat)) A S t):=by unfold Hid;rw [HC.out];exact ⟨⟨x,hbr,hxl,rfl⟩,rfl,rfl,rfl⟩
  obtain ⟨o,ho⟩:∃ o,RN.wordsT (⟨#[45]⟩:ByteArray).data.toList (x.map fun y=>Lib.decDigits y.toNat)=o:=⟨_,rfl⟩
  have ho2:RN.wordsT RN.tDash (x.map fun y=>Lib.decDigits y.toNat)=o:=ho
  rw [ho] at HWD
  rw [ho2] at HA
  have HWD:=Lib.hid HWD
  clear hx5 hE5 hbr ho ho2
  go_wp2_with fail
  refine HWD.out.mono ?_
  rintro e w6 ⟨rfl,hx6⟩
  have HL6:=Lib.hid (HL5.out.moved hx6)
  clear hx6 HWD
  go_wp2_with fail
  refine (answer_ok _ _).mono ?_
  rintro e w7 ⟨rfl,hx7⟩
  have HL7:=Lib.hid (HL6.out.moved hx7)
  clear hx7
  obtain ⟨v4,c4,f4⟩:=HL7.out.c4
  go_wp2
  exact fin_ret HL7.out HA.out rfl
set_option maxRecDepth 100000 in
theorem pline_save {W w0:World} {q gu kb t:Nat} {A S:List AK.Ed} (h:SesA W w0 q gu kb t A S) (he:RunEnv W) (s:ByteArray) (hs:s.size≤3000) (ht:t+1≤790) (hl:s.data.toList=[115,97,118,101]):Calls Tryz.prog 12 #[.pointer (some ⟨q,0,none⟩),.string s] w0 (LnP W w0 q gu kb t A S s):=by
 have hmf:∀ (fn:Fn) (first cap:Array Value) (w:World),(Instr.makeFunc fn first cap).run Tryz.prog w=.ok (.func fn first cap) w:=fun _ _ _ _=>rfl
 have hmm:=@run_makeMap Tryz.prog
 have HL0:=Lib.hid (LnS.start h)
 have HE:=Lib.hid he
 have hnd:s.data.toList.take 3≠[100,111,32]:=by rw [hl];decide
 have HPC:=Lib.hid (pre_f hnd)
 have HW:Hid (RN.spc 32 [] s.data.toList=[[115,97,118,101]]):=by unfold Hid;rw [hl];decide
 have HC:Hid (RN.cmdF s.data.toList=.save):=by unfold Hid;rw [hl];rfl
 clear h he hl hnd
 go_enter_defers Tryz.func12,Tryz.ntmps12
 go_wp2_with fail
 refine (HPC.out _).mono ?_
 rintro e w' ⟨rfl,rfl⟩
 go_wp2_with fail
 refine (sp_prog2 s hs _).mono ?_
 rintro e w1 ⟨ts,rb,rfl,h1,⟨rb',hrb,hb1,hb2⟩,h4⟩
 injection hrb with hrb
 injection hrb with hrb
 subst hrb
 rw [HW.out] at h1
 obtain ⟨hn,t0,g0,e0⟩:=map_one h1
 obtain ⟨m1,m2,m3,m4,m5,m6,m7,m8,r1,r2,r3,r4,r5,r6,r7,r8,hx8,hlk⟩:=many_map w1
 unfold InsR at r1 r2 r3 r4 r5 r6 r7 r8
 have hlk:=hlk t0 (by rw [sz_len,e0];decide)
 rw [e0,show manyF [115,97,118,101]=1 from by decide] at hlk
 have HL8:=Lib.hid ((HL0.out.moved h4).moved hx8)
 obtain ⟨cs8,hb8⟩:=hb1
 have c0:=(hx8.cell (p:=⟨rb,0,none⟩) hb8.lt).trans (hb2 0 _ g0)
 have g_parts:=strB_f (s:=t0) (l:=[112,97,114,116,115]) (by rw [e0];decide)
 have g_size:=strB_f (s:=t0) (l:=[115,105,122,101]) (by rw [e0];decide)
 have g_way:=strB_f (s:=t0) (l:=[119,97,121]) (by rw [e0];decide)
 have g_bridges:=strB_f (s:=t0) (l:=[98,114,105,100,103,101,115]) (by rw [e0];decide)
 have g_joints:=strB_f (s:=t0) (l:=[106,111,105,110,116,115]) (by rw [e0];decide)
 have g_save:=strB_t e0
 have hkb:=HL8.out.ses.blk
 have k0:=hkb.cell 0
 have k1:=hkb.cell 1
 simp only [List.getElem?_toArray,List.getElem?_cons_zero,List.getElem?_cons_succ] at k0 k1
 rw [hn]
 clear h1 g0 e0 hb8 hb2 h4 hn hx8 hkb
 go_wp2_with fail
 clear hlk r1 r2 r3 r4 r5 r6 r7 r8
 go_loopw [9,49] (fun v9 v49 wx=>v9=.slice none 0 0∧v49=.int .i64 0∧Hid (wx=m8)) (fun _ _ _=>0)
 case atStart=>exact ⟨rfl,rfl,rfl⟩
 case round=>
  obtain ⟨rfl,rfl,HR⟩:=hrel
  obtain rfl:=HR.out
  have HDG:=Lib.hid (da_graph HL8.out.ses.dk)
  go_wp2_with fail
  refine HDG.out.mono ?_
  rintro e w2 ⟨G,f,rfl,hg⟩
  have HL2:=Lib.hid (HL8.out.moved hg.ext)
  have HG:=Lib.hid hg.at_
  have c0:=(hg.ext.cell (p:=⟨rb,0,none⟩) (World.block_lt_of_cell? _ _ c0)).trans c0
  have k0:=(hg.ext.cell (p:=⟨q,0,none⟩) (World.block_lt_of_cell? _ _ k0)).trans k0
  have k1:=(hg.ext.cell (p:=⟨q,1,none⟩) (World.block_lt_of_cell? _ _ k1)).trans k1
  obtain ⟨g0,hg0⟩:∃ g,G.gb=g:=⟨_,rfl⟩
  rw [hg0]
  have HG0:=Lib.hid hg0
  clear hg hg0 HDG
  have HSV:=Lib.hid (da_save HL2.out.ses.dk ht)
  go_wp2_with fail
  refine HSV.out.mono ?_
  rintro e w3 ⟨⟨rfl,hd3⟩ | ⟨_,hf,_⟩,hk3⟩
  ·have HL3:=Lib.hid (HL2.out.turned ⟨hk3.blk HL2.out.ses.blk (by decide),hd3,HL2.out.ses.new⟩ (KeepL.of_keeps hk3))
   clear hd3 hk3 HSV
   go_wp2_with fail
   refine (answer_ok _ _).mono ?_
   rintro e w7 ⟨rfl,hx7⟩
   have HL7:=Lib.hid (HL3.out.moved hx7)
   clear hx7
   obtain ⟨v4,c4,f4⟩:=HL7.out.c4
   go_wp2
   exact fin_ret HL7.out (o:=RN.tOk) (by rw [HC.out];exact ⟨rfl,rfl,rfl,rfl⟩) rfl
  ·simp at hf
set_option maxRecDepth 100000 in
theorem pline_turn {W w0:World} {q gu kb t:Nat} {A S:List AK.Ed} (h:SesA W w0 q gu kb t A S) (he:RunEnv W) (s:ByteArray) (hs:s.size≤3000) (ht:t+1≤790) (hl:s.data.toList=[116,117,114,110]):Calls Tryz.prog 12 #[.pointer (some ⟨q,0,none⟩),.string s] w0 (LnP W w0 q gu kb t A S s):=by
 have hmf:∀ (fn:Fn) (first cap:Array Value) (w:World),(Instr.makeFunc fn first cap).run Tryz.prog w=.ok (.func fn first cap) w:=fun _ _ _ _=>rfl
 have hmm:=@run_makeMap Tryz.prog
 have HL0:=Lib.hid (LnS.start h)
 have HE:=Lib.hid he
 have hnd:s.data.toList.take 3≠[100,111,32]:=by rw [hl];decide
 have HPC:=Lib.hid (pre_f hnd)
 have HW:Hid (RN.spc 32 [] s.data.toList=[[116,117,114,110]]):=by unfold Hid;rw [hl];decide
 have HC:Hid (RN.cmdF s.data.toList=.turn):=by unfold Hid;rw [hl];rfl
 clear h he hl hnd
 go_enter_defers Tryz.func12,Tryz.ntmps12
 go_wp2_with fail
 refine (HPC.out _).mono ?_
 rintro e w' ⟨rfl,rfl⟩
 go_wp2_with fail
 refine (sp_prog2 s hs _).mono ?_
 rintro e w1 ⟨ts,rb,rfl,h1,⟨rb',hrb,hb1,hb2⟩,h4⟩
 injection hrb with hrb
 injection hrb with hrb
 subst hrb
 rw [HW.out] at h1
 obtain ⟨hn,t0,g0,e0⟩:=map_one h1
 obtain ⟨m1,m2,m3,m4,m5,m6,m7,m8,r1,r2,r3,r4,r5,r6,r7,r8,hx8,hlk⟩:=many_map w1
 unfold InsR at r1 r2 r3 r4 r5 r6 r7 r8
 have hlk:=hlk t0 (by rw [sz_len,e0];decide)
 rw [e0,show manyF [116,117,114,110]=1 from by decide] at hlk
 have HL8:=Lib.hid ((HL0.out.moved h4).moved hx8)
 obtain ⟨cs8,hb8⟩:=hb1
 have c0:=(hx8.cell (p:=⟨rb,0,none⟩) hb8.lt).trans (hb2 0 _ g0)
 have g_parts:=strB_f (s:=t0) (l:=[112,97,114,116,115]) (by rw [e0];decide)
 have g_size:=strB_f (s:=t0) (l:=[115,105,122,101]) (by rw [e0];decide)
 have g_way:=strB_f (s:=t0) (l:=[119,97,121]) (by rw [e0];decide)
 have g_bridges:=strB_f (s:=t0) (l:=[98,114,105,100,103,101,115]) (by rw [e0];decide)
 have g_joints:=strB_f (s:=t0) (l:=[106,111,105,110,116,115]) (by rw [e0];decide)
 have g_save:=strB_f (s:=t0) (l:=[115,97,118,101]) (by rw [e0];decide)
 have g_turn:=strB_t e0
 have hkb:=HL8.out.ses.blk
 have k0:=hkb.cell 0
 have k1:=hkb.cell 1
 simp only [List.getElem?_toArray,List.getElem?_cons_zero,List.getElem?_cons_succ] at k0 k1
 rw [hn]
 clear h1 g0 e0 hb8 hb2 h4 hn hx8 hkb
 go_wp2_with fail
 clear hlk r1 r2 r3 r4 r5 r6 r7 r8
 go_loopw [9,49] (fun v9 v49 wx=>v9=.slice none 0 0∧v49=.int .i64 0∧Hid (wx=m8)) (fun _ _ _=>0)
 case atStart=>exact ⟨rfl,rfl,rfl⟩
 case round=>
  obtain ⟨rfl,rfl,HR⟩:=hrel
  obtain rfl:=HR.out
  have HDG:=Lib.hid (da_graph HL8.out.ses.dk)
  go_wp2_with fail
  refine HDG.out.mono ?_
  rintro e w2 ⟨G,f,rfl,hg⟩
  have HL2:=Lib.hid (HL8.out.moved hg.ext)
  have HG:=Lib.hid hg.at_
  have c0:=(hg.ext.cell (p:=⟨rb,0,none⟩) (World.block_lt_of_cell? _ _ c0)).trans c0
  have k0:=(hg.ext.cell (p:=⟨q,0,none⟩) (World.block_lt_of_cell? _ _ k0)).trans k0
  have k1:=(hg.ext.cell (p:=⟨q,1,none⟩) (World.block_lt_of_cell? _ _ k1)).trans k1
  obtain ⟨g0,hg0⟩:∃ g,G.gb=g:=⟨_,rfl⟩
  rw [hg0]
  have HG0:=Lib.hid hg0
  clear hg hg0 HDG
  have HT:=Lib.hid (da_turn HL2.out.ses.dk)
  go_wp2_with fail
  refine HT.out.mono ?_
  rintro e w3 ⟨rfl,hx3⟩
  have HL3:=Lib.hid (HL2.out.moved hx3)
  clear hx3 HT
  go_wp2_with fail
  refine (itoa_any t (by omega) _ (HL3.out.env HE.out)).mono ?_
  rintro e w4 ⟨rfl,hx4⟩
  have HL4:=Lib.hid (HL3.out.moved hx4)
  clear hx4
  obtain ⟨v4,c4,f4⟩:=HL4.out.c4
  go_wp2
  exact fin_ret HL4.out (by rw [HC.out];exact ⟨rfl,rfl,rfl,rfl⟩) rfl
set_option maxRecDepth 100000 in
theorem pline_crash {W w0:World} {q gu kb t:Nat} {A S:List AK.Ed} (h:SesA W w0 q gu kb t A S) (he:RunEnv W) (s:ByteArray) (hs:s.size≤3000) (ht:t+1≤790) (hl:s.data.toList=[99,114,97,115,104]):Calls Tryz.prog 12 #[.pointer (some ⟨q,0,none⟩),.string s] w0 (LnP W w0 q gu kb t A S s):=by
 have hmf:∀ (fn:Fn) (first cap:Array Value) (w:World),(Instr.makeFunc fn first cap).run Tryz.prog w=.ok (.func fn first cap) w:=fun _ _ _ _=>rfl
 have hmm:=@run_makeMap Tryz.prog
 have HL0:=Lib.hid (LnS.start h)
 have HE:=Lib.hid he
 have hnd:s.data.toList.take 3≠[100,111,32]:=by rw [hl];decide
 have HPC:=Lib.hid (pre_f hnd)
 have HW:Hid (RN.spc 32 [] s.data.toList=[[99,114,97,115,104]]):=by unfold Hid;rw [hl];decide
 have HC:Hid (RN.cmdF s.data.toList=.crash):=by unfold Hid;rw [hl];rfl
 clear h he hl hnd
 go_enter_defers Tryz.func12,Tryz.ntmps12
 go_wp2_with fail
 refine (HPC.out _).mono ?_
 rintro e w' ⟨rfl,rfl⟩
 go_wp2_with fail
 refine (sp_prog2 s hs _).mono ?_
 rintro e w1 ⟨ts,rb,rfl,h1,⟨rb',hrb,hb1,hb2⟩,h4⟩
 injection hrb with hrb
 injection hrb with hrb
 subst hrb
 rw [HW.out] at h1
 obtain ⟨hn,t0,g0,e0⟩:=map_one h1
 obtain ⟨m1,m2,m3,m4,m5,m6,m7,m8,r1,r2,r3,r4,r5,r6,r7,r8,hx8,hlk⟩:=many_map w1
 unfold InsR at r1 r2 r3 r4 r5 r6 r7 r8
 have hlk:=hlk t0 (by rw [sz_len,e0];decide)
 rw [e0,show manyF [99,114,97,115,104]=1 from by decide] at hlk
 have HL8:=Lib.hid ((HL0.out.moved h4).moved hx8)
 obtain ⟨cs8,hb8⟩:=hb1
 have c0:=(hx8.cell (p:=⟨rb,0,none⟩) hb8.lt).trans (hb2 0 _ g0)
 have g_parts:=strB_f (s:=t0) (l:=[112,97,114,116,115]) (by rw [e0];decide)
 have g_size:=strB_f (s:=t0) (l:=[115,105,122,101]) (by rw [e0];decide)
 have g_way:=strB_f (s:=t0) (l:=[119,97,121]) (by rw [e0];decide)
 have g_bridges:=strB_f (s:=t0) (l:=[98,114,105,100,103,101,115]) (by rw [e0];decide)
 have g_joints:=strB_f (s:=t0) (l:=[106,111,105,110,116,115]) (by rw [e0];decide)
 have g_save:=strB_f (s:=t0) (l:=[115,97,118,101]) (by rw [e0];decide)
 have g_turn:=strB_f (s:=t0) (l:=[116,117,114,110]) (by rw [e0];decide)
 have hkb:=HL8.out.ses.blk
 have k0:=hkb.cell 0
 have k1:=hkb.cell 1
 simp only [List.getElem?_toArray,List.getElem?_cons_zero,List.getElem?_cons_succ] at k0 k1
 rw [hn]
 clear h1 g0 e0 hb8 hb2 h4 hn hx8 hkb
 go_wp2_with fail
 clear hlk r1 r2 r3 r4 r5 r6 r7 r8
 go_loopw [9,49] (fun v9 v49 wx=>v9=.slice none 0 0∧v49=.int .i64 0∧Hid (wx=m8)) (fun _ _ _=>0)
 case atStart=>exact ⟨rfl,rfl,rfl⟩
 case round=>
  obtain ⟨rfl,rfl,HR⟩:=hrel
  obtain rfl:=HR.out
  have HDG:=Lib.hid (da_graph HL8.out.ses.dk)
  go_wp2_with fail
  refine HDG.out.mono ?_
  rintro e w2 ⟨G,f,rfl,hg⟩
  have HL2:=Lib.hid (HL8.out.moved hg.ext)
  have HG:=Lib.hid hg.at_
  have c0:=(hg.ext.cell (p:=⟨rb,0,none⟩) (World.block_lt_of_cell? _ _ c0)).trans c0
  have k0:=(hg.ext.cell (p:=⟨q,0,none⟩) (World.block_lt_of_cell? _ _ k0)).trans k0
  have k1:=(hg.ext.cell (p:=⟨q,1,none⟩) (World.block_lt_of_cell? _ _ k1)).trans k1
  obtain ⟨g0,hg0⟩:∃ g,G.gb=g:=⟨_,rfl⟩
  rw [hg0]
  have HG0:=Lib.hid hg0
  clear hg hg0 HDG
  have HCR:=Lib.hid (da_crash HL2.out.ses.dk none 0 0 [] (.inl rfl) rfl (Nat.zero_le _))
  go_wp2_with fail
  refine HCR.out.mono ?_
  rintro e w3 ⟨rfl,hs3,hk3⟩
  have HK3:Hid (Blk w3 q 36 #[.pointer (some ⟨gu,0,none⟩),.pointer (some ⟨kb,0,none⟩)]∧SkA true W w3 gu 20 t S∧KeepL w2 w3):=⟨hk3.blk HL2.out.ses.blk (by decide),hs3,KeepL.of_keeps hk3⟩
  have k0:=HK3.out.1.cell 0
  simp only [List.getElem?_toArray,List.getElem?_cons_zero] at k0
  clear hs3 hk3 HCR
  go_wp2_with fail
  refine (da_open HK3.out.2.1).mono ?_
  rintro e w4 ⟨kb',rfl,hd4,hx4⟩
  have hb4:=blk_ext HK3.out.1 hx4
  have c5:=hb4.cell 1
  have f5:=hb4.frozen 1
  simp only [List.getElem?_toArray,List.getElem?_cons_zero,List.getElem?_cons_succ] at c5
  have HL5:Hid (LnS W w0 (w4.setCell ⟨q,1,none⟩ (.pointer (some ⟨kb',0,none⟩))) q gu kb' t S S):=
   HL2.out.turned ⟨by simpa using hb4.set_ 1 (.pointer (some ⟨kb',0,none⟩)),hd4.far (chg_set _ _ _ _) hb4 (.inr (.inr rfl)) HL2.out.ses.new,HL2.out.ses.new⟩
    (HK3.out.2.2.trans ((KeepL.of_ext hx4).trans (KeepL.one hb4 (.inr (.inr (.inr (.inr (.inr rfl))))) (chg_set _ _ _ _))))
  clear hd4 hx4 hb4
  obtain ⟨v4,c4,f4⟩:=HL5.out.c4
  go_wp2
  exact fin_ret HL5.out (o:=RN.tOk) (by rw [HC.out];exact ⟨rfl,rfl,rfl,rfl⟩) rfl
def NmLp (w:World) (xs:List Nat) (B:Option Addr) (cB i:Nat) (wr:World):Prop:=wr.ownsRow 0 3 1 (.slice B i cB) i ((xs.take i).map fun (x:Nat)=>.int .i64 (x:Int))∧Ext w wr∧∀ j,(Value.slice B i cB).ownBlock=some j→w.heap.size≤j
section
variable {w wr w':World} {xs:List Nat} {B:Option Addr} {cB i g c x:Nat}
theorem NmLp.start (w:World) (xs:List Nat):NmLp w xs none 0 0 w:=⟨World.ownsRow_nil _ _ _ _,Ext.refl _,fun j hj=>by simp [Value.ownBlock] at hj⟩
theorem NmLp.moved (h:NmLp w xs B cB i wr) (hx:Ext wr w'):NmLp w xs B cB i w':=
 ⟨own_chg h.1 (Chg.of_below hx) (fun j hj=>by have:=own_lt h.1 hj;omega),h.2.1.trans hx,h.2.2⟩
theorem NmLp.push (h:NmLp w xs B cB i wr) (hx:xs[i]?=some x) (ho:w'.ownsRow 0 3 1 (.slice (some ⟨g,0,none⟩) (i+1) c) (i+1) (((xs.take i).map fun (x:Nat)=>Value.int .i64 (x:Int))++[.int .i64 (x:Int)])) (hc:Chg (fun j=>(Value.slice B i cB).ownBlock=some j) wr w') (hat:(Value.slice B i cB).ownBlock=some g∨g=wr.heap.size):NmLp w xs (some ⟨g,0,none⟩) c (i+1) w':=by
 refine ⟨?_,Below.trans h.2.1 (hc.below (Below.size h.2.1) (fun k _ hk=>h.2.2 k hk)),fun j hj=>?_⟩
 ·rw [List.take_add_one,hx,List.map_append];exact ho
 ·simp [Value.ownBlock] at hj;subst hj
  rcases hat with hat | hat
  ·exact h.2.2 _ hat
  ·have:=Below.size h.2.1;omega
theorem NmLp.done (h:NmLp w xs B cB i wr) (hi:xs.length=i) (h0:0 < i):∃ g,B=some ⟨g,0,none⟩∧∀ (j:Nat) y,xs[j]?=some y→wr.cell? ⟨g,j,none⟩=some (.int .i64 (y:Int)):=by
 obtain ⟨g,cap,hv,_⟩:=own_form h.1 h0
 injection hv with e1
 subst e1
 refine ⟨g,rfl,fun j y hy=>?_⟩
 have hj:j < i:=by have:=(List.getElem?_eq_some_iff.1 hy).1;omega
 rw [h.1.cellAt j (by omega),List.take_of_length_le (by omega),List.getElem?_map,hy]
 rfl
end
set_option maxRecDepth 100000 in
theorem pline_size_bad {W w0:World} {q gu kb t:Nat} {A S:List AK.Ed} (h:SesA W w0 q gu kb t A S) (he:RunEnv W) (s:ByteArray) (hs:s.size≤3000) (ht:t+1≤790) (x1:List UInt8) (hw:RN.spc 32 [] s.data.toList=[[115,105,122,101],x1]) (hnd:s.data.toList.take 3≠[100,111,32]) (hx:NT.numF x1=-1):Calls Tryz.prog 12 #[.pointer (some ⟨q,0,none⟩),.string s] w0 (LnP W w0 q gu kb t A S s):=by
 have hmf:∀ (fn:Fn) (first cap:Array Value) (w:World),(Instr.makeFunc fn first cap).run Tryz.prog w=.ok (.func fn first cap) w:=fun _ _ _ _=>rfl
 have hmm:=@run_makeMap Tryz.prog
 have HL0:=Lib.hid (LnS.start h)
 have HE:=Lib.hid he
 have HPC:=Lib.hid (pre_f hnd)
 have HW:=Lib.hid hw
 have HC:Hid (RN.cmdF s.data.toList=.bad):=by
  unfold Hid RN.cmdF
  rw [if_neg hnd,hw]
  exact RN.cmd_size_bad hx
 clear h he hnd hw
 go_enter_defers Tryz.func12,Tryz.ntmps12
 go_wp2_with fail
 refine (HPC.out _).mono ?_
 rintro e w' ⟨rfl,rfl⟩
 go_wp2_with fail
 refine (sp_prog2 s hs _).mono ?_
 rintro e w1 ⟨ts,rb,rfl,h1,⟨rb',hrb,hb1,hb2⟩,h4⟩
 injection hrb with hrb
 injection hrb with hrb
 subst hrb
 rw [HW.out] at h1
 obtain ⟨hn,t0,t1,g0,e0,g1,e1⟩:=map_two h1
 obtain ⟨m1,m2,m3,m4,m5,m6,m7,m8,r1,r2,r3,r4,r5,r6,r7,r8,hx8,hlk⟩:=many_map w1
 unfold InsR at r1 r2 r3 r4 r5 r6 r7 r8
 have hlk:=hlk t0 (by rw [sz_len,e0];decide)
 rw [e0,show manyF [115,105,122,101]=2 from by decide] at hlk
 have HL8:=Lib.hid ((HL0.out.moved h4).moved hx8)
 obtain ⟨cs8,hb8⟩:=hb1
 have c0:=(hx8.cell (p:=⟨rb,0,none⟩) hb8.lt).trans (hb2 0 _ g0)
 have c1:=(hx8.cell (p:=⟨rb,1,none⟩) hb8.lt).trans (hb2 1 _ g1)
 have g_parts:=strB_f (s:=t0) (l:=[112,97,114,116,115]) (by rw [e0];decide)
 have g_size:=strB_t e0
 have hkb:=HL8.out.ses.blk
 have k0:=hkb.cell 0
 have k1:=hkb.cell 1
 simp only [List.getElem?_toArray,List.getElem?_cons_zero,List.getElem?_cons_succ] at k0 k1
 rw [hn]
 have hz1:t1.size≤3000:=Nat.le_trans (sp_sz (h1.trans HW.out.symm) g1) hs
 have HNB:Hid (NT.numF t1.data.toList=-1):=by unfold Hid;rw [e1];exact hx
 have hrlt:rb < m8.heap.size:=by have h1:=hb8.lt;have h2:=hx8.size;omega
 have hqlt:q < m8.heap.size:=hkb.lt
 clear h1 g0 e0 g1 e1 hx hb8 hb2 h4 hn hx8 hkb
 go_wp2_with fail
 clear hlk r1 r2 r3 r4 r5 r6 r7 r8
 go_loopw [9,49] (fun v9 v49 wx=>∃ (i:Nat) (B:Option Addr) (cB:Nat),i≤0∧v9=.slice B i cB∧v49=.int .i64 (i:Int)∧Hid (NmLp m8 [] B cB i wx)) (fun _ v49 _=>1 - (intOf v49).toNat)
 case atStart=>exact ⟨0,none,0,Nat.zero_le _,rfl,rfl,NmLp.start _ _⟩
 case round=>
  obtain ⟨i,B,cB,hi,rfl,rfl,HR⟩:=hrel
  have HL9:=Lib.hid (HL8.out.moved HR.out.2.1)
  obtain rfl:i=0:=by omega
  have c1:=(HR.out.2.1.cell (p:=⟨rb,1,none⟩) hrlt).trans c1
  have HNO:=Lib.hid (number_bad t1 (by omega) HNB.out wr (HL9.out.env HE.out).errs (fun w' hx=>tab_ext (HL9.out.env HE.out).tab hx))
  go_wp2_with fail
  refine HNO.out.mono ?_
  rintro e w2 ⟨rfl,hx2⟩
  have HL2:=Lib.hid (HL9.out.moved hx2)
  clear hx2 HNO
  go_wp2
  exact fin_panic HL2.out HC.out rfl
set_option maxRecDepth 100000 in
theorem pline_size_far {W w0:World} {q gu kb t:Nat} {A S:List AK.Ed} (h:SesA W w0 q gu kb t A S) (he:RunEnv W) (s:ByteArray) (hs:s.size≤3000) (ht:t+1≤790) (x1:List UInt8) (hw:RN.spc 32 [] s.data.toList=[[115,105,122,101],x1]) (hnd:s.data.toList.take 3≠[100,111,32]) (a:Nat) (hx:NT.numF x1=(a:Int)) (ha:20≤a):Calls Tryz.prog 12 #[.pointer (some ⟨q,0,none⟩),.string s] w0 (LnP W w0 q gu kb t A S s):=by
 have hmf:∀ (fn:Fn) (first cap:Array Value) (w:World),(Instr.makeFunc fn first cap).run Tryz.prog w=.ok (.func fn first cap) w:=fun _ _ _ _=>rfl
 have hmm:=@run_makeMap Tryz.prog
 have HL0:=Lib.hid (LnS.start h)
 have HE:=Lib.hid he
 have HPC:=Lib.hid (pre_f hnd)
 have HW:=Lib.hid hw
 have HC:Hid (RN.cmdF s.data.toList=.size a):=by
  unfold Hid RN.cmdF
  rw [if_neg hnd,hw]
  exact RN.cmd_size hx
 clear h he hnd hw
 go_enter_defers Tryz.func12,Tryz.ntmps12
 go_wp2_with fail
 refine (HPC.out _).mono ?_
 rintro e w' ⟨rfl,rfl⟩
 go_wp2_with fail
 refine (sp_prog2 s hs _).mono ?_
 rintro e w1 ⟨ts,rb,rfl,h1,⟨rb',hrb,hb1,hb2⟩,h4⟩
 injection hrb with hrb
 injection hrb with hrb
 subst hrb
 rw [HW.out] at h1
 obtain ⟨hn,t0,t1,g0,e0,g1,e1⟩:=map_two h1
 obtain ⟨m1,m2,m3,m4,m5,m6,m7,m8,r1,r2,r3,r4,r5,r6,r7,r8,hx8,hlk⟩:=many_map w1
 unfold InsR at r1 r2 r3 r4 r5 r6 r7 r8
 have hlk:=hlk t0 (by rw [sz_len,e0];decide)
 rw [e0,show manyF [115,105,122,101]=2 from by decide] at hlk
 have HL8:=Lib.hid ((HL0.out.moved h4).moved hx8)
 obtain ⟨cs8,hb8⟩:=hb1
 have c0:=(hx8.cell (p:=⟨rb,0,none⟩) hb8.lt).trans (hb2 0 _ g0)
 have c1:=(hx8.cell (p:=⟨rb,1,none⟩) hb8.lt).trans (hb2 1 _ g1)
 have g_parts:=strB_f (s:=t0) (l:=[112,97,114,116,115]) (by rw [e0];decide)
 have g_size:=strB_t e0
 have hkb:=HL8.out.ses.blk
 have k0:=hkb.cell 0
 have k1:=hkb.cell 1
 simp only [List.getElem?_toArray,List.getElem?_cons_zero,List.getElem?_cons_succ] at k0 k1
 rw [hn]
 have hz1:t1.size≤3000:=Nat.le_trans (sp_sz (h1.trans HW.out.symm) g1) hs
 have HN1:Hid (NT.numF t1.data.toList=(a:Int)):=by unfold Hid;rw [e1];exact hx
 have hrlt:rb < m8.heap.size:=by have h1:=hb8.lt;have h2:=hx8.size;omega
 have hqlt:q < m8.heap.size:=hkb.lt
 clear h1 g0 e0 g1 e1 hx hb8 hb2 h4 hn hx8 hkb
 go_wp2_with fail
 clear hlk r1 r2 r3 r4 r5 r6 r7 r8
 go_loopw [9,49] (fun v9 v49 wx=>∃ (i:Nat) (B:Option Addr) (cB:Nat),i≤1∧v9=.slice B i cB∧v49=.int .i64 (i:Int)∧Hid (NmLp m8 [a] B cB i wx)) (fun _ v49 _=>1 - (intOf v49).toNat)
 case atStart=>exact ⟨0,none,0,Nat.zero_le _,rfl,rfl,NmLp.start _ _⟩
 case round=>
  obtain ⟨i,B,cB,hi,rfl,rfl,HR⟩:=hrel
  have HL9:=Lib.hid (HL8.out.moved HR.out.2.1)
  by_cases hi0:i=0
  ·subst hi0
   have c1:=(HR.out.2.1.cell (p:=⟨rb,1,none⟩) hrlt).trans c1
   have HNO:=Lib.hid (number_ok t1 a HN1.out wr (HL9.out.env HE.out).errs (fun w' hx=>tab_ext (HL9.out.env HE.out).tab hx))
   go_wp2_with fail
   refine HNO.out.mono ?_
   rintro e w2 ⟨rfl,hx2⟩
   have HM:=Lib.hid (HR.out.moved (Ext.trans hx2 (Ext.alloc w2 (.cells #[.int .i64 (a:Int)] 3))))
   clear hx2 HNO
   go_wp2_with (at_builtin;refine wpList_push _ rfl (.tmp 53) (.tmp 56) 79 rfl 3 _ 8 Tryz.underlying79 infoI rfl (.slice B 0 cB) 0 _ rfl HM.out.1 ⟨by omega,by omega⟩ (.int .i64 (a:Int)) w2.heap.size rfl (by simp) rfl ?_;intro g5 c5 w5 ho5 hc5 hat5 _;have HN:=Lib.hid (HM.out.push rfl ho5 hc5 hat5);clear ho5 hc5 hat5)
   go_roundw
   case rel=>exact ⟨1,_,_,by omega,rfl,rfl,HN.out⟩
   case measure=>simp [intOf]
  obtain rfl:i=1:=by omega
  obtain ⟨gn,rfl,hcn⟩:=HR.out.done rfl (by omega)
  have c0:=(HR.out.2.1.cell (p:=⟨rb,0,none⟩) hrlt).trans c0
  have k0:=(HR.out.2.1.cell (p:=⟨q,0,none⟩) hqlt).trans k0
  have k1:=(HR.out.2.1.cell (p:=⟨q,1,none⟩) hqlt).trans k1
  have HL8:=HL9
  have d0:=hcn 0 a rfl
  clear hcn
  have HDG:=Lib.hid (da_graph HL8.out.ses.dk)
  go_wp2_with fail
  refine HDG.out.mono ?_
  rintro e w2 ⟨G,f,rfl,hg⟩
  have HL2:=Lib.hid (HL8.out.moved hg.ext)
  have HG:=Lib.hid hg.at_
  have HG2X:=Lib.hid hg.ext
  have c0:=(hg.ext.cell (p:=⟨rb,0,none⟩) (World.block_lt_of_cell? _ _ c0)).trans c0
  have k0:=(hg.ext.cell (p:=⟨q,0,none⟩) (World.block_lt_of_cell? _ _ k0)).trans k0
  have k1:=(hg.ext.cell (p:=⟨q,1,none⟩) (World.block_lt_of_cell? _ _ k1)).trans k1
  obtain ⟨g0,hg0⟩:∃ g,G.gb=g:=⟨_,rfl⟩
  rw [hg0]
  have HG0:=Lib.hid hg0
  clear hg hg0 HDG
  have d0:=(HG2X.out.cell (p:=⟨gn,0,none⟩) (World.block_lt_of_cell? _ _ d0)).trans d0
  have HS:=gsize_range HG.out.m (a:Int) (by omega)
  rw [HG0.out] at HS
  have HS:=Lib.hid HS
  have HIT:=Lib.hid (sh_strconv_Itoa_small 0 (by omega))
  go_wp2_with fail
  refine HS.out.mono ?_
  rintro e w3 ⟨rfl,rfl⟩
  go_wp2_with fail
  refine (HIT.out _).mono ?_
  rintro e w4 ⟨rfl,rfl⟩
  go_wp2_with fail
  refine (answer_err _ 1 (by omega) _ (HL2.out.env HE.out).door).mono ?_
  rintro e w7 ⟨rfl,hx7⟩
  have HL7:=Lib.hid (HL2.out.moved hx7)
  clear hx7
  obtain ⟨v4,c4,f4⟩:=HL7.out.c4
  go_wp2
  exact fin_ret HL7.out (o:=RN.nameOf 1) (by rw [HC.out];exact ⟨by rw [if_neg (by omega)],rfl,rfl,rfl⟩) rfl
set_option maxRecDepth 100000 in
theorem pline_size_ok {W w0:World} {q gu kb t:Nat} {A S:List AK.Ed} (h:SesA W w0 q gu kb t A S) (he:RunEnv W) (s:ByteArray) (hs:s.size≤3000) (ht:t+1≤790) (x1:List UInt8) (hw:RN.spc 32 [] s.data.toList=[[115,105,122,101],x1]) (hnd:s.data.toList.take 3≠[100,111,32]) (a:Nat) (hx:NT.numF x1=(a:Int)) (ha:a < 20):Calls Tryz.prog 12 #[.pointer (some ⟨q,0,none⟩),.string s] w0 (LnP W w0 q gu kb t A S s):=by
 have hmf:∀ (fn:Fn) (first cap:Array Value) (w:World),(Instr.makeFunc fn first cap).run Tryz.prog w=.ok (.func fn first cap) w:=fun _ _ _ _=>rfl
 have hmm:=@run_makeMap Tryz.prog
 have HL0:=Lib.hid (LnS.start h)
 have HE:=Lib.hid he
 have HPC:=Lib.hid (pre_f hnd)
 have HW:=Lib.hid hw
 have HC:Hid (RN.cmdF s.data.toList=.size a):=by
  unfold Hid RN.cmdF
  rw [if_neg hnd,hw]
  exact RN.cmd_size hx
 clear h he hnd hw
 go_enter_defers Tryz.func12,Tryz.ntmps12
 go_wp2_with fail
 refine (HPC.out _).mono ?_
 rintro e w' ⟨rfl,rfl⟩
 go_wp2_with fail
 refine (sp_prog2 s hs _).mono ?_
 rintro e w1 ⟨ts,rb,rfl,h1,⟨rb',hrb,hb1,hb2⟩,h4⟩
 injection hrb with hrb
 injection hrb with hrb
 subst hrb
 rw [HW.out] at h1
 obtain ⟨hn,t0,t1,g0,e0,g1,e1⟩:=map_two h1
 obtain ⟨m1,m2,m3,m4,m5,m6,m7,m8,r1,r2,r3,r4,r5,r6,r7,r8,hx8,hlk⟩:=many_map w1
 unfold InsR at r1 r2 r3 r4 r5 r6 r7 r8
 have hlk:=hlk t0 (by rw [sz_len,e0];decide)
 rw [e0,show manyF [115,105,122,101]=2 from by decide] at hlk
 have HL8:=Lib.hid ((HL0.out.moved h4).moved hx8)
 obtain ⟨cs8,hb8⟩:=hb1
 have c0:=(hx8.cell (p:=⟨rb,0,none⟩) hb8.lt).trans (hb2 0 _ g0)
 have c1:=(hx8.cell (p:=⟨rb,1,none⟩) hb8.lt).trans (hb2 1 _ g1)
 have g_parts:=strB_f (s:=t0) (l:=[112,97,114,116,115]) (by rw [e0];decide)
 have g_size:=strB_t e0
 have hkb:=HL8.out.ses.blk
 have k0:=hkb.cell 0
 have k1:=hkb.cell 1
 simp only [List.getElem?_toArray,List.getElem?_cons_zero,List.getElem?_cons_succ] at k0 k1
 rw [hn]
 have hz1:t1.size≤3000:=Nat.le_trans (sp_sz (h1.trans HW.out.symm) g1) hs
 have HN1:Hid (NT.numF t1.data.toList=(a:Int)):=by unfold Hid;rw [e1];exact hx
 have hrlt:rb < m8.heap.size:=by have h1:=hb8.lt;have h2:=hx8.size;omega
 have hqlt:q < m8.heap.size:=hkb.lt
 clear h1 g0 e0 g1 e1 hx hb8 hb2 h4 hn hx8 hkb
 go_wp2_with fail
 clear hlk r1 r2 r3 r4 r5 r6 r7 r8
 go_loopw [9,49] (fun v9 v49 wx=>∃ (i:Nat) (B:Option Addr) (cB:Nat),i≤1∧v9=.slice B i cB∧v49=.int .i64 (i:Int)∧Hid (NmLp m8 [a] B cB i wx)) (fun _ v49 _=>1 - (intOf v49).toNat)
 case atStart=>exact ⟨0,none,0,Nat.zero_le _,rfl,rfl,NmLp.start _ _⟩
 case round=>
  obtain ⟨i,B,cB,hi,rfl,rfl,HR⟩:=hrel
  have HL9:=Lib.hid (HL8.out.moved HR.out.2.1)
  by_cases hi0:i=0
  ·subst hi0
   have c1:=(HR.out.2.1.cell (p:=⟨rb,1,none⟩) hrlt).trans c1
   have HNO:=Lib.hid (number_ok t1 a HN1.out wr (HL9.out.env HE.out).errs (fun w' hx=>tab_ext (HL9.out.env HE.out).tab hx))
   go_wp2_with fail
   refine HNO.out.mono ?_
   rintro e w2 ⟨rfl,hx2⟩
   have HM:=Lib.hid (HR.out.moved (Ext.trans hx2 (Ext.alloc w2 (.cells #[.int .i64 (a:Int)] 3))))
   clear hx2 HNO
   go_wp2_with (at_builtin;refine wpList_push _ rfl (.tmp 53) (.tmp 56) 79 rfl 3 _ 8 Tryz.underlying79 infoI rfl (.slice B 0 cB) 0 _ rfl HM.out.1 ⟨by omega,by omega⟩ (.int .i64 (a:Int)) w2.heap.size rfl (by simp) rfl ?_;intro g5 c5 w5 ho5 hc5 hat5 _;have HN:=Lib.hid (HM.out.push rfl ho5 hc5 hat5);clear ho5 hc5 hat5)
   go_roundw
   case rel=>exact ⟨1,_,_,by omega,rfl,rfl,HN.out⟩
   case measure=>simp [intOf]
  obtain rfl:i=1:=by omega
  obtain ⟨gn,rfl,hcn⟩:=HR.out.done rfl (by omega)
  have c0:=(HR.out.2.1.cell (p:=⟨rb,0,none⟩) hrlt).trans c0
  have k0:=(HR.out.2.1.cell (p:=⟨q,0,none⟩) hqlt).trans k0
  have k1:=(HR.out.2.1.cell (p:=⟨q,1,none⟩) hqlt).trans k1
  have HL8:=HL9
  have d0:=hcn 0 a rfl
  clear hcn
  have HDG:=Lib.hid (da_graph HL8.out.ses.dk)
  go_wp2_with fail
  refine HDG.out.mono ?_
  rintro e w2 ⟨G,f,rfl,hg⟩
  have HL2:=Lib.hid (HL8.out.moved hg.ext)
  have HG:=Lib.hid hg.at_
  have HG2X:=Lib.hid hg.ext
  have c0:=(hg.ext.cell (p:=⟨rb,0,none⟩) (World.block_lt_of_cell? _ _ c0)).trans c0
  have k0:=(hg.ext.cell (p:=⟨q,0,none⟩) (World.block_lt_of_cell? _ _ k0)).trans k0
  have k1:=(hg.ext.cell (p:=⟨q,1,none⟩) (World.block_lt_of_cell? _ _ k1)).trans k1
  obtain ⟨g0,hg0⟩:∃ g,G.gb=g:=⟨_,rfl⟩
  rw [hg0]
  have HG0:=Lib.hid hg0
  clear hg hg0 HDG
  have d0:=(HG2X.out.cell (p:=⟨gn,0,none⟩) (World.block_lt_of_cell? _ _ d0)).trans d0
  have HS:=gs_any HG.out a ha
  rw [HG0.out] at HS
  have HS:=Lib.hid HS
  have hcl:=RN.comp_len_le 20 A a
  go_wp2_with fail
  refine HS.out.mono ?_
  rintro e w3 ⟨rfl,hx3⟩
  have HL3:=Lib.hid (HL2.out.moved hx3)
  clear hx3 HS
  go_wp2_with fail
  refine (itoa_any (comp 20 A a).length (by omega) _ (HL3.out.env HE.out)).mono ?_
  rintro e w4 ⟨rfl,hx4⟩
  have HL4:=Lib.hid (HL3.out.moved hx4)
  clear hx4
  go_wp2_with fail
  refine (answer_ok _ _).mono ?_
  rintro e w7 ⟨rfl,hx7⟩
  have HL7:=Lib.hid (HL4.out.moved hx7)
  clear hx7
  obtain ⟨v4,c4,f4⟩:=HL7.out.c4
  go_wp2
  exact fin_ret HL7.out (by rw [HC.out];exact ⟨by rw [if_pos ha],rfl,rfl,rfl⟩) rfl
set_option maxRecDepth 100000 in
theorem pline_way_bad1 {W w0:World} {q gu kb t:Nat} {A S:List AK.Ed} (h:SesA W w0 q gu kb t A S) (he:RunEnv W) (s:ByteArray) (hs:s.size≤3000) (ht:t+1≤790) (x1 x2:List UInt8) (hw:RN.spc 32 [] s.data.toList=[[119,97,121],x1,x2]) (hnd:s.data.toList.take 3≠[100,111,32]) (hx:NT.numF x1=-1):Calls Tryz.prog 12 #[.pointer (some ⟨q,0,none⟩),.string s] w0 (LnP W w0 q gu kb t A S s):=by
 have hmf:∀ (fn:Fn) (first cap:Array Value) (w:World),(Instr.makeFunc fn first cap).run Tryz.prog w=.ok (.func fn first cap) w:=fun _ _ _ _=>rfl
 have hmm:=@run_makeMap Tryz.prog
 have HL0:=Lib.hid (LnS.start h)
 have HE:=Lib.hid he
 have HPC:=Lib.hid (pre_f hnd)
 have HW:=Lib.hid hw
 have HC:Hid (RN.cmdF s.data.toList=.bad):=by
  unfold Hid RN.cmdF
  rw [if_neg hnd,hw]
  exact RN.cmd_way_bad (.inl hx)
 clear h he hnd hw
 go_enter_defers Tryz.func12,Tryz.ntmps12
 go_wp2_with fail
 refine (HPC.out _).mono ?_
 rintro e w' ⟨rfl,rfl⟩
 go_wp2_with fail
 refine (sp_prog2 s hs _).mono ?_
 rintro e w1 ⟨ts,rb,rfl,h1,⟨rb',hrb,hb1,hb2⟩,h4⟩
 injection hrb with hrb
 injection hrb with hrb
 subst hrb
 rw [HW.out] at h1
 obtain ⟨hn,t0,t1,t2,g0,e0,g1,e1,g2,e2⟩:=map_three h1
 obtain ⟨m1,m2,m3,m4,m5,m6,m7,m8,r1,r2,r3,r4,r5,r6,r7,r8,hx8,hlk⟩:=many_map w1
 unfold InsR at r1 r2 r3 r4 r5 r6 r7 r8
 have hlk:=hlk t0 (by rw [sz_len,e0];decide)
 rw [e0,show manyF [119,97,121]=3 from by decide] at hlk
 have HL8:=Lib.hid ((HL0.out.moved h4).moved hx8)
 obtain ⟨cs8,hb8⟩:=hb1
 have c0:=(hx8.cell (p:=⟨rb,0,none⟩) hb8.lt).trans (hb2 0 _ g0)
 have c1:=(hx8.cell (p:=⟨rb,1,none⟩) hb8.lt).trans (hb2 1 _ g1)
 have c2:=(hx8.cell (p:=⟨rb,2,none⟩) hb8.lt).trans (hb2 2 _ g2)
 have g_parts:=strB_f (s:=t0) (l:=[112,97,114,116,115]) (by rw [e0];decide)
 have g_size:=strB_f (s:=t0) (l:=[115,105,122,101]) (by rw [e0];decide)
 have g_way:=strB_t e0
 have hkb:=HL8.out.ses.blk
 have k0:=hkb.cell 0
 have k1:=hkb.cell 1
 simp only [List.getElem?_toArray,List.getElem?_cons_zero,List.getElem?_cons_succ] at k0 k1
 rw [hn]
 have hz1:t1.size≤3000:=Nat.le_trans (sp_sz (h1.trans HW.out.symm) g1) hs
 have hz2:t2.size≤3000:=Nat.le_trans (sp_sz (h1.trans HW.out.symm) g2) hs
 have HNB:Hid (NT.numF t1.data.toList=-1):=by unfold Hid;rw [e1];exact hx
 have hrlt:rb < m8.heap.size:=by have h1:=hb8.lt;have h2:=hx8.size;omega
 have hqlt:q < m8.heap.size:=hkb.lt
 clear h1 g0 e0 g1 e1 g2 e2 hx hb8 hb2 h4 hn hx8 hkb
 go_wp2_with fail
 clear hlk r1 r2 r3 r4 r5 r6 r7 r8
 go_loopw [9,49] (fun v9 v49 wx=>∃ (i:Nat) (B:Option Addr) (cB:Nat),i≤0∧v9=.slice B i cB∧v49=.int .i64 (i:Int)∧Hid (NmLp m8 [] B cB i wx)) (fun _ v49 _=>2 - (intOf v49).toNat)
 case atStart=>exact ⟨0,none,0,Nat.zero_le _,rfl,rfl,NmLp.start _ _⟩
 case round=>
  obtain ⟨i,B,cB,hi,rfl,rfl,HR⟩:=hrel
  have HL9:=Lib.hid (HL8.out.moved HR.out.2.1)
  obtain rfl:i=0:=by omega
  have c1:=(HR.out.2.1.cell (p:=⟨rb,1,none⟩) hrlt).trans c1
  have HNO:=Lib.hid (number_bad t1 (by omega) HNB.out wr (HL9.out.env HE.out).errs (fun w' hx=>tab_ext (HL9.out.env HE.out).tab hx))
  go_wp2_with fail
  refine HNO.out.mono ?_
  rintro e w2 ⟨rfl,hx2⟩
  have HL2:=Lib.hid (HL9.out.moved hx2)
  clear hx2 HNO
  go_wp2
  exact fin_panic HL2.out HC.out rfl
set_option maxRecDepth 100000 in
theorem pline_way_bad2 {W w0:World} {q gu kb t:Nat} {A S:List AK.Ed} (h:SesA W w0 q gu kb t A S) (he:RunEnv W) (s:ByteArray) (hs:s.size≤3000) (ht:t+1≤790) (x1 x2:List UInt8) (hw:RN.spc 32 [] s.data.toList=[[119,97,121],x1,x2]) (hnd:s.data.toList.take 3≠[100,111,32]) (a:Nat) (ha:NT.numF x1=(a:Int)) (hx:NT.numF x2=-1):Calls Tryz.prog 12 #[.pointer (some ⟨q,0,none⟩),.string s] w0 (LnP W w0 q gu kb t A S s):=by
 have hmf:∀ (fn:Fn) (first cap:Array Value) (w:World),(Instr.makeFunc fn first cap).run Tryz.prog w=.ok (.func fn first cap) w:=fun _ _ _ _=>rfl
 have hmm:=@run_makeMap Tryz.prog
 have HL0:=Lib.hid (LnS.start h)
 have HE:=Lib.hid he
 have HPC:=Lib.hid (pre_f hnd)
 have HW:=Lib.hid hw
 have HC:Hid (RN.cmdF s.data.toList=.bad):=by
  unfold Hid RN.cmdF
  rw [if_neg hnd,hw]
  exact RN.cmd_way_bad (.inr hx)
 clear h he hnd hw
 go_enter_defers Tryz.func12,Tryz.ntmps12
 go_wp2_with fail
 refine (HPC.out _).mono ?_
 rintro e w' ⟨rfl,rfl⟩
 go_wp2_with fail
 refine (sp_prog2 s hs _).mono ?_
 rintro e w1 ⟨ts,rb,rfl,h1,⟨rb',hrb,hb1,hb2⟩,h4⟩
 injection hrb with hrb
 injection hrb with hrb
 subst hrb
 rw [HW.out] at h1
 obtain ⟨hn,t0,t1,t2,g0,e0,g1,e1,g2,e2⟩:=map_three h1
 obtain ⟨m1,m2,m3,m4,m5,m6,m7,m8,r1,r2,r3,r4,r5,r6,r7,r8,hx8,hlk⟩:=many_map w1
 unfold InsR at r1 r2 r3 r4 r5 r6 r7 r8
 have hlk:=hlk t0 (by rw [sz_len,e0];decide)
 rw [e0,show manyF [119,97,121]=3 from by decide] at hlk
 have HL8:=Lib.hid ((HL0.out.moved h4).moved hx8)
 obtain ⟨cs8,hb8⟩:=hb1
 have c0:=(hx8.cell (p:=⟨rb,0,none⟩) hb8.lt).trans (hb2 0 _ g0)
 have c1:=(hx8.cell (p:=⟨rb,1,none⟩) hb8.lt).trans (hb2 1 _ g1)
 have c2:=(hx8.cell (p:=⟨rb,2,none⟩) hb8.lt).trans (hb2 2 _ g2)
 have g_parts:=strB_f (s:=t0) (l:=[112,97,114,116,115]) (by rw [e0];decide)
 have g_size:=strB_f (s:=t0) (l:=[115,105,122,101]) (by rw [e0];decide)
 have g_way:=strB_t e0
 have hkb:=HL8.out.ses.blk
 have k0:=hkb.cell 0
 have k1:=hkb.cell 1
 simp only [List.getElem?_toArray,List.getElem?_cons_zero,List.getElem?_cons_succ] at k0 k1
 rw [hn]
 have hz1:t1.size≤3000:=Nat.le_trans (sp_sz (h1.trans HW.out.symm) g1) hs
 have hz2:t2.size≤3000:=Nat.le_trans (sp_sz (h1.trans HW.out.symm) g2) hs
 have HN1:Hid (NT.numF t1.data.toList=(a:Int)):=by unfold Hid;rw [e1];exact ha
 have HNB:Hid (NT.numF t2.data.toList=-1):=by unfold Hid;rw [e2];exact hx
 have hrlt:rb < m8.heap.size:=by have h1:=hb8.lt;have h2:=hx8.size;omega
 have hqlt:q < m8.heap.size:=hkb.lt
 clear h1 g0 e0 g1 e1 g2 e2 ha hx hb8 hb2 h4 hn hx8 hkb
 go_wp2_with fail
 clear hlk r1 r2 r3 r4 r5 r6 r7 r8
 go_loopw [9,49] (fun v9 v49 wx=>∃ (i:Nat) (B:Option Addr) (cB:Nat),i≤1∧v9=.slice B i cB∧v49=.int .i64 (i:Int)∧Hid (NmLp m8 [a] B cB i wx)) (fun _ v49 _=>2 - (intOf v49).toNat)
 case atStart=>exact ⟨0,none,0,Nat.zero_le _,rfl,rfl,NmLp.start _ _⟩
 case round=>
  obtain ⟨i,B,cB,hi,rfl,rfl,HR⟩:=hrel
  have HL9:=Lib.hid (HL8.out.moved HR.out.2.1)
  by_cases hi0:i=0
  ·subst hi0
   have c1:=(HR.out.2.1.cell (p:=⟨rb,1,none⟩) hrlt).trans c1
   have HNO:=Lib.hid (number_ok t1 a HN1.out wr (HL9.out.env HE.out).errs (fun w' hx=>tab_ext (HL9.out.env HE.out).tab hx))
   go_wp2_with fail
   refine HNO.out.mono ?_
   rintro e w2 ⟨rfl,hx2⟩
   have HM:=Lib.hid (HR.out.moved (Ext.trans hx2 (Ext.alloc w2 (.cells #[.int .i64 (a:Int)] 3))))
   clear hx2 HNO
   go_wp2_with (at_builtin;refine wpList_push _ rfl (.tmp 53) (.tmp 56) 79 rfl 3 _ 8 Tryz.underlying79 infoI rfl (.slice B 0 cB) 0 _ rfl HM.out.1 ⟨by omega,by omega⟩ (.int .i64 (a:Int)) w2.heap.size rfl (by simp) rfl ?_;intro g5 c5 w5 ho5 hc5 hat5 _;have HN:=Lib.hid (HM.out.push rfl ho5 hc5 hat5);clear ho5 hc5 hat5)
   go_roundw
   case rel=>exact ⟨1,_,_,by omega,rfl,rfl,HN.out⟩
   case measure=>simp [intOf]
  obtain rfl:i=1:=by omega
  have c2:=(HR.out.2.1.cell (p:=⟨rb,2,none⟩) hrlt).trans c2
  have HNO:=Lib.hid (number_bad t2 (by omega) HNB.out wr (HL9.out.env HE.out).errs (fun w' hx=>tab_ext (HL9.out.env HE.out).tab hx))
  go_wp2_with fail
  refine HNO.out.mono ?_
  rintro e w2 ⟨rfl,hx2⟩
  have HL2:=Lib.hid (HL9.out.moved hx2)
  clear hx2 HNO
  go_wp2
  exact fin_panic HL2.out HC.out rfl
def ShR (A:List AK.Ed) (a b:Nat) (V1 V2:Value) (w':World):Prop:=(¬ (a < 20∧b < 20)∧V1=.slice none 0 0∧V2=.iface 52 (.int .i64 1))∨(a < 20∧b < 20∧∃ d,PD.IsDist 20 A b d∧((PD.g d a < 0∧V1=.slice none 0 0∧V2=.iface 52 (.int .i64 4))∨
 (0≤PD.g d a∧∃ R' c' p,V1=.slice R' p.length c'∧V2=.nilIface∧PD.Way 20 A d a p∧IntsAt w' R' (p.map fun (x:Nat)=>(x:Int))∧p.length≤100)))
theorem sh_any {w:World} {A:List AK.Ed} {R:Option Addr} {c:Nat} (hd:DkE 20 A) (hE:EdsAt w R A) (a b:Nat):Calls Tryz.prog 35 #[.int .i64 20,.slice R A.length c,.int .i64 (a:Int),.int .i64 (b:Int)] w fun e w'=>∃ V1 V2,e=.returned (.tuple #[V1,V2])∧ShR A a b V1 V2 w'∧Ext w w':=by
 by_cases hab:a < 20∧b < 20
 ·refine (sh_ok hd hE a b hab.1 hab.2).mono ?_
  rintro e w' ⟨hx,d,hdi,⟨h0,rfl⟩ | ⟨h0,R',c',p,rfl,h1,h2,h3⟩⟩
  ·exact ⟨_,_,rfl,.inr ⟨hab.1,hab.2,d,hdi,.inl ⟨h0,rfl,rfl⟩⟩,hx⟩
  ·exact ⟨_,_,rfl,.inr ⟨hab.1,hab.2,d,hdi,.inr ⟨h0,R',c',p,rfl,rfl,h1,h2,h3⟩⟩,hx⟩
 ·refine (sh_far hd hE a b hab).mono ?_
  rintro e w' ⟨rfl,hx⟩
  exact ⟨_,_,rfl,.inl ⟨hab,rfl,rfl⟩,hx⟩
set_option maxRecDepth 100000 in
theorem pline_way {W w0:World} {q gu kb t:Nat} {A S:List AK.Ed} (h:SesA W w0 q gu kb t A S) (he:RunEnv W) (s:ByteArray) (hs:s.size≤3000) (ht:t+1≤790) (x1 x2:List UInt8) (hw:RN.spc 32 [] s.data.toList=[[119,97,121],x1,x2]) (hnd:s.data.toList.take 3≠[100,111,32]) (a b:Nat) (hx:NT.numF x1=(a:Int)) (hy:NT.numF x2=(b:Int)):Calls Tryz.prog 12 #[.pointer (some ⟨q,0,none⟩),.string s] w0 (LnP W w0 q gu kb t A S s):=by
 have hmf:∀ (fn:Fn) (first cap:Array Value) (w:World),(Instr.makeFunc fn first cap).run Tryz.prog w=.ok (.func fn first cap) w:=fun _ _ _ _=>rfl
 have hmm:=@run_makeMap Tryz.prog
 have HL0:=Lib.hid (LnS.start h)
 have HE:=Lib.hid he
 have HPC:=Lib.hid (pre_f hnd)
 have HW:=Lib.hid hw
 have HC:Hid (RN.cmdF s.data.toList=.way a b):=by
  unfold Hid RN.cmdF
  rw [if_neg hnd,hw]
  exact RN.cmd_way hx hy
 clear h he hnd hw
 go_enter_defers Tryz.func12,Tryz.ntmps12
 go_wp2_with fail
 refine (HPC.out _).mono ?_
 rintro e w' ⟨rfl,rfl⟩
 go_wp2_with fail
 refine (sp_prog2 s hs _).mono ?_
 rintro e w1 ⟨ts,rb,rfl,h1,⟨rb',hrb,hb1,hb2⟩,h4⟩
 injection hrb with hrb
 injection hrb with hrb
 subst hrb
 rw [HW.out] at h1
 obtain ⟨hn,t0,t1,t2,g0,e0,g1,e1,g2,e2⟩:=map_three h1
 obtain ⟨m1,m2,m3,m4,m5,m6,m7,m8,r1,r2,r3,r4,r5,r6,r7,r8,hx8,hlk⟩:=many_map w1
 unfold InsR at r1 r2 r3 r4 r5 r6 r7 r8
 have hlk:=hlk t0 (by rw [sz_len,e0];decide)
 rw [e0,show manyF [119,97,121]=3 from by decide] at hlk
 have HL8:=Lib.hid ((HL0.out.moved h4).moved hx8)
 obtain ⟨cs8,hb8⟩:=hb1
 have c0:=(hx8.cell (p:=⟨rb,0,none⟩) hb8.lt).trans (hb2 0 _ g0)
 have c1:=(hx8.cell (p:=⟨rb,1,none⟩) hb8.lt).trans (hb2 1 _ g1)
 have c2:=(hx8.cell (p:=⟨rb,2,none⟩) hb8.lt).trans (hb2 2 _ g2)
 have g_parts:=strB_f (s:=t0) (l:=[112,97,114,116,115]) (by rw [e0];decide)
 have g_size:=strB_f (s:=t0) (l:=[115,105,122,101]) (by rw [e0];decide)
 have g_way:=strB_t e0
 have hkb:=HL8.out.ses.blk
 have k0:=hkb.cell 0
 have k1:=hkb.cell 1
 simp only [List.getElem?_toArray,List.getElem?_cons_zero,List.getElem?_cons_succ] at k0 k1
 rw [hn]
 have hz1:t1.size≤3000:=Nat.le_trans (sp_sz (h1.trans HW.out.symm) g1) hs
 have hz2:t2.size≤3000:=Nat.le_trans (sp_sz (h1.trans HW.out.symm) g2) hs
 have HN1:Hid (NT.numF t1.data.toList=(a:Int)):=by unfold Hid;rw [e1];exact hx
 have HN2:Hid (NT.numF t2.data.toList=(b:Int)):=by unfold Hid;rw [e2];exact hy
 have hrlt:rb < m8.heap.size:=by have h1:=hb8.lt;have h2:=hx8.size;omega
 have hqlt:q < m8.heap.size:=hkb.lt
 clear h1 g0 e0 g1 e1 g2 e2 hx hy hb8 hb2 h4 hn hx8 hkb
 go_wp2_with fail
 clear hlk r1 r2 r3 r4 r5 r6 r7 r8
 go_loopw [9,49] (fun v9 v49 wx=>∃ (i:Nat) (B:Option Addr) (cB:Nat),i≤2∧v9=.slice B i cB∧v49=.int .i64 (i:Int)∧Hid (NmLp m8 [a,b] B cB i wx)) (fun _ v49 _=>2 - (intOf v49).toNat)
 case atStart=>exact ⟨0,none,0,Nat.zero_le _,rfl,rfl,NmLp.start _ _⟩
 case round=>
  obtain ⟨i,B,cB,hi,rfl,rfl,HR⟩:=hrel
  have HL9:=Lib.hid (HL8.out.moved HR.out.2.1)
  by_cases hi0:i=0
  ·subst hi0
   have c1:=(HR.out.2.1.cell (p:=⟨rb,1,none⟩) hrlt).trans c1
   have HNO:=Lib.hid (number_ok t1 a HN1.out wr (HL9.out.env HE.out).errs (fun w' hx=>tab_ext (HL9.out.env HE.out).tab hx))
   go_wp2_with fail
   refine HNO.out.mono ?_
   rintro e w2 ⟨rfl,hx2⟩
   have HM:=Lib.hid (HR.out.moved (Ext.trans hx2 (Ext.alloc w2 (.cells #[.int .i64 (a:Int)] 3))))
   clear hx2 HNO
   go_wp2_with (at_builtin;refine wpList_push _ rfl (.tmp 53) (.tmp 56) 79 rfl 3 _ 8 Tryz.underlying79 infoI rfl (.slice B 0 cB) 0 _ rfl HM.out.1 ⟨by omega,by omega⟩ (.int .i64 (a:Int)) w2.heap.size rfl (by simp) rfl ?_;intro g5 c5 w5 ho5 hc5 hat5 _;have HN:=Lib.hid (HM.out.push rfl ho5 hc5 hat5);clear ho5 hc5 hat5)
   go_roundw
   case rel=>exact ⟨1,_,_,by omega,rfl,rfl,HN.out⟩
   case measure=>simp [intOf]
  by_cases hi1:i=1
  ·subst hi1
   have c2:=(HR.out.2.1.cell (p:=⟨rb,2,none⟩) hrlt).trans c2
   have HNO:=Lib.hid (number_ok t2 b HN2.out wr (HL9.out.env HE.out).errs (fun w' hx=>tab_ext (HL9.out.env HE.out).tab hx))
   go_wp2_with fail
   refine HNO.out.mono ?_
   rintro e w2 ⟨rfl,hx2⟩
   have HM:=Lib.hid (HR.out.moved (Ext.trans hx2 (Ext.alloc w2 (.cells #[.int .i64 (b:Int)] 3))))
   clear hx2 HNO
   go_wp2_with (at_builtin;refine wpList_push _ rfl (.tmp 53) (.tmp 56) 79 rfl 3 _ 8 Tryz.underlying79 infoI rfl (.slice B 1 cB) 1 _ rfl HM.out.1 ⟨by omega,by omega⟩ (.int .i64 (b:Int)) w2.heap.size rfl (by simp) rfl ?_;intro g5 c5 w5 ho5 hc5 hat5 _;have HN:=Lib.hid (HM.out.push rfl ho5 hc5 hat5);clear ho5 hc5 hat5)
   go_roundw
   case rel=>exact ⟨2,_,_,by omega,rfl,rfl,HN.out⟩
   case measure=>simp [intOf]
  obtain rfl:i=2:=by omega
  obtain ⟨gn,rfl,hcn⟩:=HR.out.done rfl (by omega)
  have c0:=(HR.out.2.1.cell (p:=⟨rb,0,none⟩) hrlt).trans c0
  have k0:=(HR.out.2.1.cell (p:=⟨q,0,none⟩) hqlt).trans k0
  have k1:=(HR.out.2.1.cell (p:=⟨q,1,none⟩) hqlt).trans k1
  have HL8:=HL9
  have d0:=hcn 0 a rfl
  have d1:=hcn 1 b rfl
  clear hcn
  have HDG:=Lib.hid (da_graph HL8.out.ses.dk)
  go_wp2_with fail
  refine HDG.out.mono ?_
  rintro e w2 ⟨G,f,rfl,hg⟩
  have HL2:=Lib.hid (HL8.out.moved hg.ext)
  have HG:=Lib.hid hg.at_
  have HG2X:=Lib.hid hg.ext
  have c0:=(hg.ext.cell (p:=⟨rb,0,none⟩) (World.block_lt_of_cell? _ _ c0)).trans c0
  have k0:=(hg.ext.cell (p:=⟨q,0,none⟩) (World.block_lt_of_cell? _ _ k0)).trans k0
  have k1:=(hg.ext.cell (p:=⟨q,1,none⟩) (World.block_lt_of_cell? _ _ k1)).trans k1
  obtain ⟨g0,hg0⟩:∃ g,G.gb=g:=⟨_,rfl⟩
  rw [hg0]
  have HG0:=Lib.hid hg0
  clear hg hg0 HDG
  have d0:=(HG2X.out.cell (p:=⟨gn,0,none⟩) (World.block_lt_of_cell? _ _ d0)).trans d0
  have d1:=(HG2X.out.cell (p:=⟨gn,1,none⟩) (World.block_lt_of_cell? _ _ d1)).trans d1
  have HN:Hid (∀ W',Ext w2 W'→Calls Tryz.prog 36 #[.pointer (some ⟨kb,0,none⟩)] W' fun e w'=>e=.returned (.int .i64 20)∧Ext W' w'):=fun W' hW=>da_nodes (HL2.out.moved hW).ses.dk
  have HGE:Hid (∀ W',Ext w2 W'→Calls Tryz.prog 37 #[.pointer (some ⟨g0,0,none⟩)] W' fun e w'=>∃ A5 c5,e=.returned (.slice A5 A.length c5)∧EdsAt w' A5 A∧(A.length≤c5∧c5≤maxLen)∧Ext W' w'):=fun W' hW=>by
   have:=ge_any (HG.out.ext hW) HL2.out.ses.dk.de.le
   rwa [HG0.out] at this
  have HDE:Hid (DkE 20 A):=HL2.out.ses.dk.de
  have HCC:Hid (∀ W',Ext w2 W'→Ext w2 W'∧W'.cell? ⟨q,1,none⟩=some (.pointer (some ⟨kb,0,none⟩))∧W'.cell? ⟨gn,0,none⟩=some (.int .i64 (a:Int))∧W'.cell? ⟨gn,1,none⟩=some (.int .i64 (b:Int))):=fun W' hW=>⟨hW,(hW.cell (p:=⟨q,1,none⟩) (World.block_lt_of_cell? _ _ k1)).trans k1,(hW.cell (p:=⟨gn,0,none⟩) (World.block_lt_of_cell? _ _ d0)).trans d0,(hW.cell (p:=⟨gn,1,none⟩) (World.block_lt_of_cell? _ _ d1)).trans d1⟩
  go_wp2_with fail
  go_region_held3 (fun W'=>Ext w2 W'∧W'.cell? ⟨q,1,none⟩=some (.pointer (some ⟨kb,0,none⟩))∧W'.cell? ⟨gn,0,none⟩=some (.int .i64 (a:Int))∧W'.cell? ⟨gn,1,none⟩=some (.int .i64 (b:Int)))
   (exact HCC.out _ (by first | exact Ext.drew _ | assumption | exact fst_ (by assumption) | exact Ext.trans (fst_ (by assumption)) (by assumption)))
   (first
    | (go_at_call 36;refine (HN.out _ (by first | exact Ext.drew _ | exact fst_ (by assumption) | assumption)).mono ?_;rintro e w3 ⟨rfl,hx3⟩)
    | (go_at_call 37;refine (HGE.out _ (by first | exact Ext.drew _ | exact fst_ (by assumption) | assumption)).mono ?_;rintro e w4 ⟨R4,d4,rfl,hE4,_,hx4⟩;have HE4:=Lib.hid hE4;clear hE4)
    | (go_at_call 35;refine (sh_any HDE.out (by first | exact HE4.out | exact HE4.out.ext (by assumption)) a b).mono ?_;rintro e w5 ⟨V1,V2,rfl,hsh,hx5⟩;have HSH:=Lib.hid hsh;clear hsh)
    | fail)
  rename_i hHeld
  have HL5:=Lib.hid (HL2.out.moved hHeld.1)
  clear hHeld hx3 hx4 hx5 HE4 HN HGE HCC
  rcases HSH.out with ⟨hab,rfl,rfl⟩ | ⟨ha,hb,d,hdi,⟨h0,rfl,rfl⟩ | ⟨h0,R',c',p,rfl,rfl,hw,hrow,hpl⟩⟩
  ·have HA:Hid (RN.AnsR (RN.cmdF s.data.toList) A S t (RN.nameOf 1) A S t):=by unfold Hid;rw [HC.out];exact ⟨.inr ⟨hab,rfl⟩,rfl,rfl,rfl⟩
   clear HSH hab
   go_wp2_with fail
   refine (words_int 31 _ none 0 0 [] rfl (by omega) (.inl rfl) (fun y=>Lib.decDigits y.toNat) ⟨#[45]⟩ enItoa (fun x hx=>by simp at hx) (fun x hx=>by simp at hx)).mono ?_
   rintro e w6 ⟨rfl,hx6⟩
   have HL6:=Lib.hid (HL5.out.moved hx6)
   clear hx6
   go_wp2_with fail
   refine (answer_err _ 1 (by omega) _ (HL6.out.env HE.out).door).mono ?_
   rintro e w7 ⟨rfl,hx7⟩
   have HL7:=Lib.hid (HL6.out.moved hx7)
   clear hx7
   obtain ⟨v4,c4,f4⟩:=HL7.out.c4
   go_wp2
   exact fin_ret HL7.out HA.out rfl
  ·have HA:Hid (RN.AnsR (RN.cmdF s.data.toList) A S t (RN.nameOf 4) A S t):=by unfold Hid;rw [HC.out];exact ⟨.inl ⟨ha,hb,d,hdi,.inl ⟨h0,rfl⟩⟩,rfl,rfl,rfl⟩
   clear HSH hdi h0
   go_wp2_with fail
   refine (words_int 31 _ none 0 0 [] rfl (by omega) (.inl rfl) (fun y=>Lib.decDigits y.toNat) ⟨#[45]⟩ enItoa (fun x hx=>by simp at hx) (fun x hx=>by simp at hx)).mono ?_
   rintro e w6 ⟨rfl,hx6⟩
   have HL6:=Lib.hid (HL5.out.moved hx6)
   clear hx6
   go_wp2_with fail
   refine (answer_err _ 4 (by omega) _ (HL6.out.env HE.out).door).mono ?_
   rintro e w7 ⟨rfl,hx7⟩
   have HL7:=Lib.hid (HL6.out.moved hx7)
   clear hx7
   obtain ⟨v4,c4,f4⟩:=HL7.out.c4
   go_wp2
   exact fin_ret HL7.out HA.out rfl
  ·have HWD:=words_int 31 w5 R' p.length c' (p.map fun (x:Nat)=>(x:Int)) (by simp) (by omega) hrow (fun y=>Lib.decDigits y.toNat) ⟨#[45]⟩ enItoa (fun z hz W' hW=>by
    obtain ⟨y,hy,rfl⟩:=List.mem_map.1 hz
    obtain ⟨j,hj⟩:=List.mem_iff_getElem?.1 hy
    have:=((PD.Way.at hw ha).2.2 j y hj).1
    simp only [Int.toNat_natCast]
    exact itoa_any y (by omega) W' ((HL5.out.env HE.out).ext hW)) (fun z hz=>by
    obtain ⟨y,hy,rfl⟩:=List.mem_map.1 hz
    obtain ⟨j,hj⟩:=List.mem_iff_getElem?.1 hy
    have:=((PD.Way.at hw ha).2.2 j y hj).1
    have h4:=RN.dec_len_le ((y:Int).toNat) ((y:Int).toNat) (Nat.le_refl _)
    omega)
   have em:(p.map fun (x:Nat)=>(x:Int)).map (fun y=>Lib.decDigits y.toNat)=p.map Lib.decDigits:=by rw [List.map_map];rfl
   rw [em] at HWD
   have HA:Hid (RN.AnsR (RN.cmdF s.data.toList) A S t (RN.wordsT RN.tDash (p.map Lib.decDigits)) A S t):=by unfold Hid;rw [HC.out];exact ⟨.inl ⟨ha,hb,d,hdi,.inr ⟨h0,p,hw,hpl,rfl⟩⟩,rfl,rfl,rfl⟩
   obtain ⟨o,ho⟩:∃ o,RN.wordsT (⟨#[45]⟩:ByteArray).data.toList (p.map Lib.decDigits)=o:=⟨_,rfl⟩
   have ho2:RN.wordsT RN.tDash (p.map Lib.decDigits)=o:=ho
   rw [ho] at HWD
   rw [ho2] at HA
   have HWD:=Lib.hid HWD
   clear HSH hdi h0 hw hrow em ho ho2
   go_wp2_with fail
   refine HWD.out.mono ?_
   rintro e w6 ⟨rfl,hx6⟩
   have HL6:=Lib.hid (HL5.out.moved hx6)
   clear hx6 HWD
   go_wp2_with fail
   refine (answer_ok _ _).mono ?_
   rintro e w7 ⟨rfl,hx7⟩
   have HL7:=Lib.hid (HL6.out.moved hx7)
   clear hx7
   obtain ⟨v4,c4,f4⟩:=HL7.out.c4
   go_wp2
   exact fin_ret HL7.out HA.out rfl
set_option maxRecDepth 100000 in
theorem pline_bad {W w0:World} {q gu kb t:Nat} {A S:List AK.Ed} (h:SesA W w0 q gu kb t A S) (he:RunEnv W) (s:ByteArray) (hs:s.size≤3000) (x0:List UInt8) (xr:List (List UInt8)) (hw:RN.spc 32 [] s.data.toList=x0::xr) (hnd:s.data.toList.take 3≠[100,111,32]) (hm:manyF x0≠((xr.length+1:Nat):Int)) (hc:RN.cmdF s.data.toList=.bad):Calls Tryz.prog 12 #[.pointer (some ⟨q,0,none⟩),.string s] w0 (LnP W w0 q gu kb t A S s):=by
 have hmf:∀ (fn:Fn) (first cap:Array Value) (w:World),(Instr.makeFunc fn first cap).run Tryz.prog w=.ok (.func fn first cap) w:=fun _ _ _ _=>rfl
 have hmm:=@run_makeMap Tryz.prog
 have HL0:=Lib.hid (LnS.start h)
 have HPC:=Lib.hid (pre_f hnd)
 have HC:=Lib.hid hc
 have HSP:Hid (∀ W',Calls Tryz.prog 28 #[.string s,.string ⟨#[32]⟩] W' fun e w'=>∃ (n rb:Nat) (t0:ByteArray),e=.returned (.slice (some ⟨rb,0,none⟩) n n)∧n=xr.length+1∧w'.cell? ⟨rb,0,none⟩=some (.string t0)∧t0.data.toList=x0∧t0.size≤3000∧n≤3001∧Ext W' w'):=fun W'=>by
  refine (sp_prog2 s hs W').mono ?_
  rintro e w1 ⟨ts,rb,rfl,h1,⟨rb',hrb,hb1,hb2⟩,h4⟩
  injection hrb with hrb
  injection hrb with hrb
  subst hrb
  have hl:=(sp_len h1).2
  have hz:=fun i t ht=>sp_sz h1 (i:=i) (t:=t) ht
  rw [hw] at h1
  match ts,h1 with
  | t0::tr,h1=>
   simp only [List.map_cons,List.cons.injEq] at h1
   exact ⟨_,rb,t0,rfl,by rw [←h1.2];simp,hb2 0 _ rfl,h1.1,Nat.le_trans (hz 0 t0 rfl) hs,by omega,h4⟩
 have HM:=Lib.hid hm
 clear h he hw hnd hc hm
 go_enter_defers Tryz.func12,Tryz.ntmps12
 go_wp2_with fail
 refine (HPC.out _).mono ?_
 rintro e w' ⟨rfl,rfl⟩
 go_wp2_with fail
 refine (HSP.out _).mono ?_
 rintro e w1 ⟨n,rb,t0,rfl,hn,c0,e0,hz0,hn3,h4⟩
 obtain ⟨m1,m2,m3,m4,m5,m6,m7,m8,r1,r2,r3,r4,r5,r6,r7,r8,hx8,hlk⟩:=many_map w1
 unfold InsR at r1 r2 r3 r4 r5 r6 r7 r8
 have hlk:=hlk t0 (by unfold maxLen;omega)
 rw [e0] at hlk
 have HL8:=Lib.hid ((HL0.out.moved h4).moved hx8)
 have c0:=(hx8.cell (p:=⟨rb,0,none⟩) (World.block_lt_of_cell? _ _ c0)).trans c0
 have hn0:0 < n:=by omega
 have hmn:manyF x0≠(n:Int):=by rw [hn];exact HM.out
 obtain ⟨v,hv⟩:∃ v,manyF x0=v:=⟨_,rfl⟩
 rw [hv] at hlk hmn
 have hb:(v == (n:Int))=false:=by rw [beq_eq_false_iff_ne];exact hmn
 obtain ⟨v4,c4,f4⟩:=HL8.out.c4
 clear hn e0 h4 hx8 hv hmn
 go_wp2
 exact fin_ret HL8.out (o:=RN.tBad) (by rw [HC.out];exact ⟨rfl,rfl,rfl,rfl⟩) rfl
theorem pline_any {W w0:World} {q gu kb t:Nat} {A S:List AK.Ed} (h:SesA W w0 q gu kb t A S) (he:RunEnv W) (s:ByteArray) (hs:s.size≤3000) (ht:t+1≤790):Calls Tryz.prog 12 #[.pointer (some ⟨q,0,none⟩),.string s] w0 (LnP W w0 q gu kb t A S s):=by
 by_cases hd:s.data.toList.take 3=[100,111,32]
 ·exact pline_do h he s hs hd
 have hcF:RN.cmdF s.data.toList=RN.cmdW (RN.spc 32 [] s.data.toList):=by unfold RN.cmdF;rw [if_neg hd]
 match hw:RN.spc 32 [] s.data.toList with
 | []=>exact absurd hw (RN.spc_ne _ _ _)
 | [x]=>
  have hx:=RN.spc_single hw
  by_cases k1:s.data.toList=[112,97,114,116,115]
  ·exact pline_parts h he s hs ht k1
  by_cases k2:s.data.toList=[98,114,105,100,103,101,115]
  ·exact pline_bridges h he s hs ht k2
  by_cases k3:s.data.toList=[106,111,105,110,116,115]
  ·exact pline_joints h he s hs ht k3
  by_cases k4:s.data.toList=[115,97,118,101]
  ·exact pline_save h he s hs ht k4
  by_cases k5:s.data.toList=[116,117,114,110]
  ·exact pline_turn h he s hs ht k5
  by_cases k6:s.data.toList=[99,114,97,115,104]
  ·exact pline_crash h he s hs ht k6
  rw [hx] at hw
  refine pline_bad h he s hs _ [] hw hd ?_ ?_
  ·unfold manyF
   rw [if_neg k5,if_neg k6,if_neg k4,if_neg k3,if_neg k2,if_neg k1]
   split
   ·simp
   ·split <;> simp
  ·rw [hcF,hw]
   exact RN.cmd_one_bad k1 k2 k3 k4 k5 k6
 | [x,a]=>
  by_cases hx:x=[115,105,122,101]
  ·subst hx
   rcases RN.num_cases a with q | ⟨A,q⟩
   ·exact pline_size_bad h he s hs ht a hw hd q
   ·by_cases hA:A < 20
    ·exact pline_size_ok h he s hs ht a hw hd A q hA
    ·exact pline_size_far h he s hs ht a hw hd A q (by omega)
  ·refine pline_bad h he s hs x [a] hw hd ?_ ?_
   ·unfold manyF
    rw [if_neg hx]
    repeat' split
    all_goals simp
   ·rw [hcF,hw]
    show (if x=RN.wSize∧0≤NT.numF a then RN.Cmd.size (NT.numF a).toNat else .bad)=_
    rw [if_neg (fun q=>hx q.1)]
 | [x,a,b]=>
  by_cases hx:x=[119,97,121]
  ·subst hx
   rcases RN.num_cases a with q | ⟨A,q⟩
   ·exact pline_way_bad1 h he s hs ht a b hw hd q
   ·rcases RN.num_cases b with r | ⟨B,r⟩
    ·exact pline_way_bad2 h he s hs ht a b hw hd A q r
    ·exact pline_way h he s hs ht a b hw hd A B q r
  ·refine pline_bad h he s hs x [a,b] hw hd ?_ ?_
   ·unfold manyF
    rw [if_neg hx]
    repeat' split
    all_goals simp
   ·rw [hcF,hw]
    show (if x=RN.wWay∧0≤NT.numF a∧0≤NT.numF b then RN.Cmd.way (NT.numF a).toNat (NT.numF b).toNat else .bad)=_
    rw [if_neg (fun q=>hx q.1)]
 | x::a::b::c::r=>
  refine pline_bad h he s hs x (a::b::c::r) hw hd ?_ ?_
  ·unfold manyF
   simp only [List.length_cons]
   repeat' split
   all_goals omega
  ·rw [hcF,hw]
   rfl
end Go.Proofs.YtkoajpeabicpdaaGreatDoor
