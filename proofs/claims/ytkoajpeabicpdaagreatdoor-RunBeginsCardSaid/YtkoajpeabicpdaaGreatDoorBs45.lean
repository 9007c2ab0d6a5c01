/-
The references' session in memory; walk of its do. Conditions: the session lies as 'RefA' says; the text has at most 3000 bytes.
-/
import Derived.Test.YtkoajpeabicpdaaGreatDoorBs44
import Derived.Test.YtkoajpeabicpdaaGreatDoorBs43
set_option linter.unusedVariables false
set_option maxHeartbeats 8000000
namespace Go.Proofs.YtkoajpeabicpdaaGreatDoor
open Go Go.RowKit SQ TR DF PD PT
theorem DkE.nxt {n:Nat} {A:List AK.Ed} (h:DkE n A) {V x y:Int} (hf:DS.flt n A V x y=0):(∀ z∈DS.nxt A V x y,0≤z.1∧z.1 < z.2∧z.2 < (n:Int))∧(DS.nxt A V x y).Pairwise ltE:=by
 unfold DS.flt at hf
 unfold DS.nxt
 split at hf
 ·omega
 rename_i h0
 split at hf
 ·rename_i h1
  rw [if_pos h1]
  unfold addFault at hf
  split at hf
  ·omega
  split at hf
  ·omega
  rename_i hne
  split at hf
  ·omega
  rename_i hnew
  refine ⟨fun z hz=>?_,putE_rises h.up hnew⟩
  rcases putE_mem.1 hz with rfl | hz
  ·unfold AK.ek
   simp only
   omega
  ·exact h.ok z hz
 ·rename_i h1
  rw [if_neg h1]
  split at hf
  ·rename_i h2
   rw [if_pos h2]
   exact ⟨fun z hz=>h.ok z (cutE_mem.1 hz).1,h.up.sublist (List.filter_sublist)⟩
  ·rename_i h2
   rw [if_neg h2]
   exact ⟨h.ok,h.up⟩
theorem DkE.run {n:Nat} {A:List AK.Ed} {l:List AK.Ev} (h:DkE n A):∀ i,i≤l.length→DS.Okay n l A i→DkE n (DS.run n l A i).1
 | 0,_,_=>h
 | i+1,hi,ho=>by
  have ih:=DkE.run h i (by omega) (fun j e hj he=>ho j e (by omega) he)
  have hle:=run_le h.le _ ho
  obtain ⟨e,he⟩:∃ e,l[i]?=some e:=⟨_,List.getElem?_eq_getElem (by omega)⟩
  rw [DS.run_next he] at hle ⊢
  have:=ih.nxt (ho i e (by omega) he)
  exact ⟨h.hn,this.1,this.2,hle⟩
theorem DkE.done {n:Nat} {A A':List AK.Ed} {l:List AK.Ev} {xs:List Bool} (h:DkE n A) (hd:DoneK n l A A' xs):DkE n A':=by
 have:=h.run l.length (Nat.le_refl _) hd.2.1
 rwa [hd.2.2] at this
structure RefA (wr:World) (m t:Nat) (E S:List AK.Ed):Prop where
 at_:∃ R1 c1 R2 c2,Blk wr m 49 #[.slice R1 E.length c1,.slice R2 S.length c2,.int .i64 (t:Int)]∧RowE wr R1 c1 E∧RowE wr R2 c2 S
 e:DkE 20 E
 s:DkE 20 S
section
variable {wr w':World} {m t:Nat} {E S:List AK.Ed} {R:Option Addr} {c:Nat} {A:List AK.Ed} {cs:Array Value}
theorem rowE_ext (h:RowE wr R c A) (hx:Ext wr w'):RowE w' R c A:=
 ⟨h.1.ext hx,h.2.1,fun hne x hA=>by obtain ⟨cs,hb⟩:=h.2.2 hne x hA;exact ⟨cs,blk_ext hb hx⟩⟩
theorem rowE_off (h:RowE wr R c A) (hc:Chg (fun k=>k=m) wr w') (hb:Blk wr m 49 cs):RowE w' R c A:=
 ⟨h.1.chg hc (fun hne x hA e=>by
  obtain ⟨cs',hb'⟩:=h.2.2 hne x hA
  rw [e] at hb'
  exact absurd (blk_ty hb hb') (by decide)),h.2.1,fun hne x hA=>by
  obtain ⟨cs',hb'⟩:=h.2.2 hne x hA
  exact ⟨cs',hb'.chg hc (fun e=>by
   rw [e] at hb'
   exact absurd (blk_ty hb hb') (by decide))⟩⟩
theorem RefA.moved (h:RefA wr m t E S) (hx:Ext wr w'):RefA w' m t E S:=by
 obtain ⟨R1,c1,R2,c2,h1,h2,h3⟩:=h.at_
 exact ⟨⟨R1,c1,R2,c2,blk_ext h1 hx,rowE_ext h2 hx,rowE_ext h3 hx⟩,h.e,h.s⟩
theorem chg_set (w:World) (m i:Nat) (v:Value):Chg (fun k=>k=m) w (w.setCell ⟨m,i,none⟩ v):=(Chg.refl (fun k=>k=m) w).setCell (p:=⟨m,i,none⟩) (fun _=>rfl) v
theorem ref_edges {R1 R2:Option Addr} {c1 c2:Nat} {E':List AK.Ed} (hb:Blk wr m 49 #[.slice R1 E.length c1,.slice R2 S.length c2,.int .i64 (t:Int)]) (h2:RowE wr R2 c2 S) (hs:DkE 20 S) (he:DkE 20 E') (hr:RowE wr R c E'):RefA (wr.setCell ⟨m,0,none⟩ (.slice R E'.length c)) m t E' S:=
 ⟨⟨R,c,R2,c2,by simpa using hb.set_ 0 (.slice R E'.length c),rowE_off hr (chg_set _ _ _ _) hb,rowE_off h2 (chg_set _ _ _ _) hb⟩,he,hs⟩
end
def RdP (w0:World) (m t:Nat) (E S:List AK.Ed) (s:ByteArray) (e:Ending) (w':World):Prop:=∃ o E',RN.AnsR (RN.cmdDo s.data.toList) E S t o E' S t∧e=.returned (.string ⟨o.toArray⟩)∧RefA w' m t E' S∧Chg (fun k=>k=m) w0 w'
def YnR (w:World) (xs:List Bool) (i:Nat) (t:ByteArray) (wr:World):Prop:=t.data.toList=RN.joinW ((xs.map RN.boolW).take i)∧wr=w
theorem YnR.first {w wr:World} {xs:List Bool} {t:ByteArray} {b:Bool} {y:ByteArray} (h:YnR w xs 0 t wr) (hb:xs[0]?=some b) (hy:y.data.toList=RN.boolW b):YnR w xs 1 (t++y) wr:=by
 obtain ⟨h1,rfl⟩:=h
 refine ⟨?_,rfl⟩
 simp only [List.take_zero,joinW_nil] at h1
 rw [ByteArray.data_append,Array.toList_append,h1,hy,List.nil_append]
 exact (joinW_first (by rw [List.getElem?_map,hb];rfl)).symm
theorem YnR.next {w wr:World} {xs:List Bool} {i:Nat} {t:ByteArray} {b:Bool} {y:ByteArray} (h:YnR w xs i t wr) (h0:0 < i) (hb:xs[i]?=some b) (hy:y.data.toList=RN.boolW b):YnR w xs (i+1) (t++⟨#[32]⟩++y) wr:=by
 obtain ⟨h1,rfl⟩:=h
 refine ⟨?_,rfl⟩
 rw [ByteArray.data_append,Array.toList_append,ByteArray.data_append,Array.toList_append,h1,hy]
 rw [joinW_take (x:=RN.boolW b) (by rw [List.getElem?_map,hb];rfl) h0]
 simp
set_option maxRecDepth 100000 in
theorem rsdo_any {w0:World} {m t:Nat} {E S:List AK.Ed} (h:RefA w0 m t E S) (s:ByteArray) (hs:s.size≤3000):Calls Tryz.prog 46 #[.pointer (some ⟨m,0,none⟩),.string s] w0 (RdP w0 m t E S s):=by
 have H:=Lib.hid h
 clear h
 go_enter Tryz.func46,Tryz.ntmps46
 go_wp2_with fail
 refine (sp_ref 44 s (by omega) _).mono ?_
 rintro e w1 ⟨ts,_,cp,rfl,h1,⟨b,rfl,hb1,hb2⟩,h3,h4⟩
 obtain ⟨n,hn⟩:∃ n,ts.length=n:=⟨_,rfl⟩
 have hmb:n≤3001:=by have:=(sp_len h1).2;omega
 have HS:Hid (ts.map (fun t=>t.data.toList)=RN.spc 44 [] s.data.toList∧StsAt w1 (some ⟨b,0,none⟩) ts∧Ext w0 w1∧ts.length=n):=⟨h1,⟨b,rfl,hb1,hb2⟩,h4,hn⟩
 rw [hn] at h3 ⊢
 clear h1 h4 hb1 hb2 hn
 go_wp2_with fail
 go_loopw [6,7] (fun v6 v7 wx=>∃ (i:Nat) (B:Option Addr) (cB:Nat),i≤n∧v6=.slice B i cB∧v7=.int .i64 (i:Int)∧Hid (EvLp w1 ts B cB i wx)) (fun _ v7 _=>n - (intOf v7).toNat)
 case atStart=>exact ⟨0,none,0,Nat.zero_le _,rfl,rfl,EvLp.start _ _⟩
 case round=>
  obtain ⟨i,B,cB,hi,rfl,rfl,HR⟩:=hrel
  have HXW:Hid (Ext w0 wr):=HS.out.2.2.1.trans HR.out.ext
  by_cases hin:i < n
  ·have z1:(i:Int) < (n:Int):=by omega
   have z2:(0:Int)≤(i:Int):=by omega
   obtain ⟨x,hx⟩:∃ x,ts[i]?=some x:=⟨_,List.getElem?_eq_getElem (by rw [HS.out.2.2.2];exact hin)⟩
   have hxs:x.size≤3000:=Nat.le_trans (sp_sz HS.out.1 hx) hs
   obtain ⟨b',hb',hb1,hb2⟩:=HS.out.2.1.ext HR.out.ext
   injection hb' with hb'
   injection hb' with hb'
   subst hb'
   have c1:=hb2 i x hx
   have HX:=Lib.hid hx
   have HPS:=Lib.hid (eventOf_any x (by omega) wr)
   clear hx hb2 hb1
   go_wp2_with fail
   refine HPS.out.mono ?_
   rintro e w2 ⟨hx2,⟨x1,x2,x3,ht,rfl⟩ | ⟨hn,rfl⟩⟩
   ·obtain ⟨xs,hrow⟩:=HR.out.row
    have HM:=Lib.hid (fun W' (hW:Ext w2 W')=>HR.out.moved (Ext.trans hx2 hW))
    have HRW:=Lib.hid (fun W' (hW:Ext w2 W')=>own_chg hrow (Chg.of_below (Ext.trans hx2 hW)) (fun j hj=>by have:=own_lt hrow hj;omega))
    have HT:=Lib.hid ht
    clear ht hrow hx2 HPS c1
    go_wp2_with (at_builtin;refine wpList_pushS _ rfl (.tmp 33) (.tmp 35) 126 rfl 128 _ 3 24 Tryz.underlying126 infoEv3 rfl (by decide) (.slice B i cB) i xs rfl (HRW.out _ (ext_al (Ext.alloc _ _) _)) ⟨by omega,by omega⟩ [.int .i64 (x1:Int),.int .i64 (x2:Int),.int .i64 (x3:Int)] (w2.heap.size+1) rfl rfl (news_cells (by simp) _ _) (by simp [Value.oneCell']) ?_;intro g5 c5 w5 ho5 hc5 hat5 _;have HN:=Lib.hid (EvLp.push (HM.out _ (ext_al (Ext.alloc _ _) _)) (HRW.out _ (ext_al (Ext.alloc _ _) _)) HX.out HT.out ho5 hc5 hat5);clear ho5 hc5 hat5)
    go_roundw
    case rel=>exact ⟨i+1,_,_,by omega,rfl,by go_num,HN.out⟩
    case measure=>simp [intOf];omega
   ·have HP:Hid (∀ W',Ext w2 W'→RdP w0 m t E S s (.returned (.string ⟨#[98,97,100]⟩)) W'):=fun W' hW=>by
     have hx:Ext w0 W':=HXW.out.trans (Ext.trans hx2 hW)
     refine ⟨RN.tBad,E,?_,rfl,H.out.moved hx,Chg.new hx _⟩
     unfold RN.cmdDo;rw [←HS.out.1,ev_bad HX.out hn]
     exact ⟨rfl,rfl,rfl,rfl⟩
    clear hn hx2 HPS c1
    go_wp2
    go_ret
    exact HP.out _ (Ext.alloc _ _)
  ·obtain rfl:n=i:=by omega
   obtain ⟨es,q1,q2,q3,q4⟩:=HR.out.done HS.out.2.2.2
   have HC:Hid (RN.cmdDo s.data.toList=.doo es):=by unfold Hid RN.cmdDo;rw [←HS.out.1,q1]
   obtain ⟨R1,c1,R2,c2,h1,h2,h3⟩:=(H.out.moved HXW.out).at_
   have HB:Hid (Blk wr m 49 #[.slice R1 E.length c1,.slice R2 S.length c2,.int .i64 (t:Int)]∧RowE wr R1 c1 E∧RowE wr R2 c2 S):=⟨h1,h2,h3⟩
   have c0:wr.cell? ⟨m,0,none⟩=some (.slice R1 E.length c1):=h1.cell 0
   have HDO:=Lib.hid (da_ref h2 H.out.e B n cB es q2 q4)
   clear q1 q2 q3 q4 h1 h2 h3
   go_wp2_with fail
   refine HDO.out.mono ?_
   rintro e w5 (⟨k,hk,rfl,hx5⟩ | ⟨E',xs,hdn,Ao,co,An,cn,rfl,ho,hr5,hx5⟩)
   ·have hk8:=hk.le
    have HBX:Hid (RefA (w5.setCell ⟨m,0,none⟩ (.slice R1 E.length c1)) m t E S):=ref_edges (blk_ext HB.out.1 hx5) (rowE_ext HB.out.2.2 hx5) H.out.s H.out.e (rowE_ext HB.out.2.1 hx5)
    have HP:Hid (RdP w0 m t E S s (.returned (.string ⟨(RN.nameOf k).toArray⟩)) (w5.setCell ⟨m,0,none⟩ (.slice R1 E.length c1))):=⟨_,E,by rw [HC.out];exact ⟨rfl,rfl,.inl ⟨k,hk,rfl,rfl⟩⟩,rfl,HBX.out,(Chg.new (HXW.out.trans hx5) _).trans (chg_set _ _ _ _) (fun _ _ h=>h)⟩
    have f0:w5.frozen? ⟨m,0,none⟩=false:=(blk_ext HB.out.1 hx5).frozen 0
    have c5:w5.cell? ⟨m,0,none⟩=some (.slice R1 E.length c1):=(blk_ext HB.out.1 hx5).cell 0
    have HT:=Lib.hid (told_err ⟨#[111,107]⟩ k hk8.2 hk8.1)
    clear hk hx5 HDO c0
    go_wp2_with fail
    go_loopw [13,14] (fun v13 v14 wx=>v13=.string ⟨#[]⟩∧v14=.int .i64 0∧Hid (wx=w5.setCell ⟨m,0,none⟩ (.slice R1 E.length c1))) (fun _ _ _=>0)
    case atStart=>exact ⟨rfl,rfl,rfl⟩
    case round=>
     obtain ⟨rfl,rfl,HRR⟩:=hrel
     obtain rfl:=HRR.out
     go_wp2_with fail
     refine (HT.out _).mono ?_
     rintro e w' ⟨rfl,rfl⟩
     go_wp2
     go_ret
     exact HP.out
   ·have hxl:xs.length≤120:=hdn.len
    have HBX:Hid (RefA (w5.setCell ⟨m,0,none⟩ (.slice An E'.length cn)) m t E' S):=ref_edges (blk_ext HB.out.1 hx5) (rowE_ext HB.out.2.2 hx5) H.out.s (H.out.e.done hdn) hr5
    have HP:Hid (RdP w0 m t E S s (.returned (.string ⟨(RN.wordsT RN.tOk (xs.map RN.boolW)).toArray⟩)) (w5.setCell ⟨m,0,none⟩ (.slice An E'.length cn))):=⟨_,E',by rw [HC.out];exact ⟨rfl,rfl,.inr ⟨xs,hdn,rfl⟩⟩,rfl,HBX.out,(Chg.new (HXW.out.trans hx5) _).trans (chg_set _ _ _ _) (fun _ _ h=>h)⟩
    have f0:w5.frozen? ⟨m,0,none⟩=false:=(blk_ext HB.out.1 hx5).frozen 0
    have c5:w5.cell? ⟨m,0,none⟩=some (.slice R1 E.length c1):=(blk_ext HB.out.1 hx5).cell 0
    have hob:w5.ownsRow 0 4 1 (.slice Ao xs.length co) xs.length (xs.map Value.bool):=ho
    have HBA:Hid (BoolsAt (w5.setCell ⟨m,0,none⟩ (.slice An E'.length cn)) Ao xs):=(BoolsAt.of_own (own_chg hob (chg_set w5 m 0 (.slice An E'.length cn)) (fun k hk e=>own_ne hob (blk_ext HB.out.1 hx5) (by decide) (by rw [hk,e])))).1
    obtain ⟨K,hK⟩:∃ K,xs.length=K:=⟨_,rfl⟩
    have HK:=Lib.hid hK
    obtain ⟨o,ho2⟩:∃ o,RN.wordsT RN.tOk (xs.map RN.boolW)=o:=⟨_,rfl⟩
    have HO2:=Lib.hid ho2
    rw [ho2] at HP
    rw [hK] at hxl ⊢
    obtain ⟨wb,hwb⟩:∃ wb,wb=w5.setCell ⟨m,0,none⟩ (.slice An E'.length cn):=⟨_,rfl⟩
    rw [←hwb] at HP HBX HBA
    have HWB:=Lib.hid hwb
    clear hdn ho hob hr5 hx5 HDO c0 ho2 hK hwb
    go_wp2_with fail
    go_loopw [13,14] (fun v13 v14 wx=>∃ (i:Nat) (y:ByteArray),i≤K∧y.size≤i * 4∧v13=.string y∧v14=.int .i64 (i:Int)∧Hid (YnR wb xs i y wx)) (fun _ v14 _=>K - (intOf v14).toNat)
    case atStart=>exact ⟨0,⟨#[]⟩,Nat.zero_le _,by decide,rfl,rfl,rfl,HWB.out.symm⟩
    case round=>
     obtain ⟨i,y,hi,hy,rfl,rfl,HR⟩:=hrel
     obtain rfl:=HR.out.2
     have hy2:y.size≤480:=by omega
     have hsz:(⟨#[32]⟩:ByteArray).size=1:=rfl
     have hsy:(⟨#[121,101,115]⟩:ByteArray).size=3:=rfl
     have hsn:(⟨#[110,111]⟩:ByteArray).size=2:=rfl
     by_cases hin:i < K
     ·obtain ⟨v,hv⟩:∃ v,xs[i]?=some v:=⟨_,List.getElem?_eq_getElem (by rw [HK.out];exact hin)⟩
      rcases HBA.out with h0 | ⟨g,off,rfl,_,hc⟩
      ·have:=HK.out
       subst h0;simp at this;omega
      have c1:=hc i v hv
      have HV:=Lib.hid hv
      have z0:(0:Int)≤(i:Int):=by omega
      have z1:(i:Int) < (K:Int):=by omega
      clear hc hv
      by_cases h0:i=0
      ·subst h0
       rw [Nat.add_zero] at c1
       have z2:¬ ((0:Nat):Int) > 0:=by omega
       cases v
       ·have HN:=Lib.hid (HR.out.first HV.out (y:=⟨#[110,111]⟩) rfl)
        go_wp2
        go_roundw
        case rel=>exact ⟨1,_,by omega,by rw [ByteArray.size_append];omega,rfl,by go_num,HN.out⟩
        case measure=>simp [intOf];omega
       ·have HN:=Lib.hid (HR.out.first HV.out (y:=⟨#[121,101,115]⟩) rfl)
        go_wp2
        go_roundw
        case rel=>exact ⟨1,_,by omega,by rw [ByteArray.size_append];omega,rfl,by go_num,HN.out⟩
        case measure=>simp [intOf];omega
      ·have z2:(0:Int) < (i:Int):=by omega
       have h0':0 < i:=by omega
       cases v
       ·have HN:=Lib.hid (HR.out.next h0' HV.out (y:=⟨#[110,111]⟩) rfl)
        go_wp2
        go_roundw
        case rel=>exact ⟨i+1,_,by omega,by rw [ByteArray.size_append,ByteArray.size_append];omega,rfl,by go_num,HN.out⟩
        case measure=>simp [intOf];omega
       ·have HN:=Lib.hid (HR.out.next h0' HV.out (y:=⟨#[121,101,115]⟩) rfl)
        go_wp2
        go_roundw
        case rel=>exact ⟨i+1,_,by omega,by rw [ByteArray.size_append,ByteArray.size_append];omega,rfl,by go_num,HN.out⟩
        case measure=>simp [intOf];omega
     ·obtain rfl:K=i:=by omega
      have hr:=HR.out.1
      rw [List.take_of_length_le (by rw [List.length_map,HK.out];exact Nat.le_refl _)] at hr
      by_cases hK0:K=0
      ·subst hK0
       have hx0:xs=[]:=List.eq_nil_of_length_eq_zero HK.out
       have HF:Hid ((⟨o.toArray⟩:ByteArray)=⟨#[111,107]⟩):=by unfold Hid;rw [←HO2.out,hx0];rfl
       rw [HF.out] at HP
       clear hr hx0
       go_wp2_with fail
       refine (told_ok _ _).mono ?_
       rintro e w' ⟨rfl,rfl⟩
       go_wp2
       go_ret
       exact HP.out
      ·have HF:Hid ((⟨o.toArray⟩:ByteArray)=y):=by
        unfold Hid
        rw [←HO2.out]
        unfold RN.wordsT
        rw [if_neg (fun e=>by have:=congrArg List.length e;rw [List.length_map,HK.out] at this;simp at this;omega),←hr]
       have z1:((K:Int) == 0)=false:=by rw [beq_eq_false_iff_ne];omega
       rw [HF.out] at HP
       clear hr hK0
       go_wp2_with fail
       refine (told_ok _ _).mono ?_
       rintro e w' ⟨rfl,rfl⟩
       go_wp2
       go_ret
       exact HP.out
end Go.Proofs.YtkoajpeabicpdaaGreatDoor
