/-
Walks of run.words at its three types, at whatever function of which is known what it gives. Conditions: at most 1000 things, each word at most 1000 bytes.
-/
import Derived.Test.YtkoajpeabicpdaaGreatDoorBs3
import Derived.Test.YtkoajpeabicpdaaGreatDoorBs9
import Derived.Test.YtkoajpeabicpdaaGreatDoorBs5
import Derived.Test.YtkoajpeabicpdaaGreatDoorBs10
import Derived.Deep.RegionHeld3
set_option linter.unusedVariables false
set_option maxHeartbeats 8000000
namespace Go.Proofs.YtkoajpeabicpdaaGreatDoor
open Go Go.RowKit
def WdR (w:World) (ls:List (List UInt8)) (B:Option Addr) (cB i:Nat) (wr:World):Prop:=∃ ts:List ByteArray,ts.length=i∧ts.map (fun t=>t.data.toList)=ls.take i∧wr.ownsRow 0 9 1 (.slice B i cB) i (ts.map Value.string)∧Ext w wr∧∀ j,(Value.slice B i cB).ownBlock=some j→w.heap.size≤j
theorem WdR.push {w wr w':World} {ls:List (List UInt8)} {B:Option Addr} {cB i g c:Nat} {ts:List ByteArray} {x:List UInt8} (h1:ts.length=i) (h2:ts.map (fun t=>t.data.toList)=ls.take i) (h4:Ext w wr) (h5:∀ j,(Value.slice B i cB).ownBlock=some j→w.heap.size≤j) (hx:ls[i]?=some x)
  (ho:w'.ownsRow 0 9 1 (.slice (some ⟨g,0,none⟩) (i+1) c) (i+1) (ts.map Value.string++[.string ⟨x.toArray⟩])) (hc:Chg (fun j=>(Value.slice B i cB).ownBlock=some j) wr w') (hat:(Value.slice B i cB).ownBlock=some g∨g=wr.heap.size):WdR w ls (some ⟨g,0,none⟩) c (i+1) w':=by
 refine ⟨ts++[⟨x.toArray⟩],by simp [h1],?_,by rw [List.map_append];exact ho,((Chg.of_below h4).trans hc (fun j _ hj=>h5 j hj)).below (Nat.le_refl _) (fun _ _ h=>h),fun j hj=>?_⟩
 ·rw [List.map_append,h2,List.take_add_one,hx];rfl
 ·simp [Value.ownBlock] at hj;subst hj
  rcases hat with hat | hat
  ·exact h5 _ hat
  ·have:=h4.size;omega
set_option maxRecDepth 100000 in
theorem words_bool (gf:Nat) (w:World) (A:Option Addr) (n c:Nat) (xs:List Bool) (hl:xs.length=n) (hn:n≤1000) (h:BoolsAt w A xs) (f:Bool→List UInt8) (none_:ByteArray)
  (eg:∀ args w,(callFunc gf args).run Tryz.prog w=.ok (.enter gf args) w) (HT:∀ x∈xs,∀ W,Ext w W→Calls Tryz.prog gf #[.bool x] W fun e w'=>e=.returned (.string ⟨(f x).toArray⟩)∧Ext W w') (hf:∀ x∈xs,(f x).length≤1000):
  Calls Tryz.prog 75 #[.slice A n c,.func (.func gf) #[] #[],.string none_] w fun e w'=>e=.returned (.string ⟨(RN.wordsT none_.data.toList (xs.map f)).toArray⟩)∧Ext w w':=by
 have H:=Lib.hid h
 have HL:=Lib.hid hl
 have HTT:=Lib.hid HT
 have HF:=Lib.hid hf
 clear h hl HT hf
 by_cases hn0:n=0
 ·subst hn0
  have h0:xs=[]:=List.eq_nil_of_length_eq_zero HL.out
  subst h0
  go_enter Tryz.func75,Tryz.ntmps75
  go_wp2
  go_ret
  exact ⟨congrArg (fun z=>Ending.returned (.string z)) (str_of rfl),Ext.refl _⟩
 have z0:((n:Int) == 0)=false:=by simp;omega
 go_enter Tryz.func75,Tryz.ntmps75
 go_wp2
 go_loopw [7,16] (fun v7 v16 wr=>∃ (i:Nat) (B:Option Addr) (cB:Nat),i≤n∧v7=.slice B i cB∧v16=.int .i64 (i:Int)∧Hid (WdR w (xs.map f) B cB i wr)) (fun _ v16 _=>n - (intOf v16).toNat)
 case atStart=>exact ⟨0,none,0,Nat.zero_le _,rfl,rfl,[],rfl,rfl,World.ownsRow_nil _ _ _ _,Ext.refl _,fun j hj=>by simp [Value.ownBlock] at hj⟩
 case round=>
  obtain ⟨i,B,cB,hi,rfl,rfl,HR⟩:=hrel
  by_cases hin:i < n
  ·have z1:(i:Int) < (n:Int):=by omega
   have z2:(0:Int)≤(i:Int):=by omega
   obtain ⟨x,hx⟩:∃ x,xs[i]?=some x:=⟨_,List.getElem?_eq_getElem (by rw [HL.out];exact hin)⟩
   have hmem:=List.mem_of_getElem? hx
   rcases H.out with h0 | ⟨b,off,rfl,hbl,hc⟩
   ·rw [h0] at hmem;simp at hmem
   have c0:=hc i x hx
   obtain ⟨t,ht⟩:∃ t,f x=t:=⟨_,rfl⟩
   have HCL:=Lib.hid (fun W (hW:Ext w W)=>HTT.out x hmem W hW)
   have hlen:t.length≤1000:=by rw [←ht];exact HF.out x hmem
   have HX:Hid ((xs.map f)[i]?=some t):=by unfold Hid;rw [List.getElem?_map,hx,←ht];rfl
   rw [ht] at HCL
   have HXW:Hid (Ext w wr):=by obtain ⟨_,_,_,_,h4,_⟩:=HR.out;exact h4
   have c1:=(HXW.out.cell (p:=⟨b,off+i,none⟩) hbl).trans c0
   clear hc hx ht hmem c0
   go_wp2_with fail
   refine (HCL.out _ HXW.out).mono ?_
   rintro e w2 ⟨rfl,hx2⟩
   obtain ⟨ts,q1,q2,q3,q4,q5⟩:=HR.out
   have HX2:Hid (Ext w w2):=Ext.trans HXW.out hx2
   have HO:Hid (w2.ownsRow 0 9 1 (.slice B i cB) i (ts.map Value.string)):=own_chg q3 (Chg.of_below (Ext.trans (Ext.refl _) hx2)) (fun j hj=>by have:=own_lt q3 hj;omega)
   have HQ:Hid (ts.length=i∧ts.map (fun t=>t.data.toList)=(xs.map f).take i∧∀ j,(Value.slice B i cB).ownBlock=some j→w.heap.size≤j):=⟨q1,q2,q5⟩
   clear q1 q2 q3 q4 q5 hx2 HCL c1
   go_wp2_with (at_builtin;refine wpList_pushB _ rfl (.tmp 20) (.tmp 24) 50 rfl 9 _ 1 16 Tryz.underlying50 infoString rfl (by decide) (.slice B i cB) i _ rfl (own_chg HO.out ((Chg.refl (fun _=>False) _).alloc _) (fun _ _ h=>h)) ⟨by omega,by omega⟩ [.string ⟨t.toArray⟩] w2.heap.size rfl rfl (news_cells rfl _ _) (by simp [Value.oneCell']) ?_;intro g5 c5 w5 ho5 hc5 hat5 _;have HN:=Lib.hid (WdR.push HQ.out.1 HQ.out.2.1 (ext_al HX2.out _) HQ.out.2.2 HX.out ho5 hc5 (hat5.imp id fun h=>h));clear ho5 hc5 hat5)
   go_roundw
   case rel=>exact ⟨i+1,_,_,by omega,rfl,by go_num,HN.out⟩
   case measure=>simp [intOf];omega
  ·obtain rfl:n=i:=by omega
   obtain ⟨ts,q1,q2,q3,q4,q5⟩:=HR.out
   obtain ⟨gB,cB',hv,hcB,_⟩:=own_form q3 (by omega)
   injection hv with hv1 hv2 hv3
   subst hv1
   subst hv3
   rw [List.take_of_length_le (by rw [List.length_map,HL.out];exact Nat.le_refl _)] at q2
   have hJ:=pjoin_any gB cB ts wr (fun j x hx=>by
    have:=q3.cellAt j (by have:=(List.getElem?_eq_some_iff.1 hx).1;omega)
    simpa [List.getElem?_map,hx] using this) (own_lt q3 rfl) (by omega) (by omega) (by
     rw [q2]
     have:=RN.joinW_len 1000 (xs.map f) (fun y hy=>by obtain ⟨z,hz,rfl⟩:=List.mem_map.1 hy;exact HF.out z hz)
     rw [List.length_map,HL.out] at this
     unfold RN.joinW at this
     have h2:n * (1000+1)≤1000 * 1001:=Nat.mul_le_mul hn (Nat.le_refl _)
     omega)
   rw [q1] at hJ
   have HJ:=Lib.hid hJ
   have HE:Hid (Ext w wr∧ts.map (fun t=>t.data.toList)=xs.map f):=⟨q4,q2⟩
   clear hJ q1 q2 q3 q4 q5 hv2 hcB
   go_wp2_with fail
   refine HJ.out.mono ?_
   rintro e w3 ⟨rfl,hx3⟩
   have HX3:=Lib.hid hx3
   clear hx3
   go_wp2
   go_ret
   refine ⟨congrArg (fun z=>Ending.returned (.string z)) ?_,Ext.trans HE.out.1 HX3.out⟩
   rw [HE.out.2]
   unfold RN.wordsT
   rw [if_neg (fun e=>by have:=congrArg List.length e;rw [List.length_map,HL.out] at this;simp at this;omega)]
   rfl
set_option maxRecDepth 100000 in
theorem words_int (gf:Nat) (w:World) (A:Option Addr) (n c:Nat) (xs:List Int) (hl:xs.length=n) (hn:n≤1000) (h:IntsAt w A xs) (f:Int→List UInt8) (none_:ByteArray)
  (eg:∀ args w,(callFunc gf args).run Tryz.prog w=.ok (.enter gf args) w) (HT:∀ x∈xs,∀ W,Ext w W→Calls Tryz.prog gf #[.int .i64 x] W fun e w'=>e=.returned (.string ⟨(f x).toArray⟩)∧Ext W w') (hf:∀ x∈xs,(f x).length≤1000):
  Calls Tryz.prog 38 #[.slice A n c,.func (.func gf) #[] #[],.string none_] w fun e w'=>e=.returned (.string ⟨(RN.wordsT none_.data.toList (xs.map f)).toArray⟩)∧Ext w w':=by
 have H:=Lib.hid h
 have HL:=Lib.hid hl
 have HTT:=Lib.hid HT
 have HF:=Lib.hid hf
 clear h hl HT hf
 by_cases hn0:n=0
 ·subst hn0
  have h0:xs=[]:=List.eq_nil_of_length_eq_zero HL.out
  subst h0
  go_enter Tryz.func38,Tryz.ntmps38
  go_wp2
  go_ret
  exact ⟨congrArg (fun z=>Ending.returned (.string z)) (str_of rfl),Ext.refl _⟩
 have z0:((n:Int) == 0)=false:=by simp;omega
 go_enter Tryz.func38,Tryz.ntmps38
 go_wp2
 go_loopw [7,16] (fun v7 v16 wr=>∃ (i:Nat) (B:Option Addr) (cB:Nat),i≤n∧v7=.slice B i cB∧v16=.int .i64 (i:Int)∧Hid (WdR w (xs.map f) B cB i wr)) (fun _ v16 _=>n - (intOf v16).toNat)
 case atStart=>exact ⟨0,none,0,Nat.zero_le _,rfl,rfl,[],rfl,rfl,World.ownsRow_nil _ _ _ _,Ext.refl _,fun j hj=>by simp [Value.ownBlock] at hj⟩
 case round=>
  obtain ⟨i,B,cB,hi,rfl,rfl,HR⟩:=hrel
  by_cases hin:i < n
  ·have z1:(i:Int) < (n:Int):=by omega
   have z2:(0:Int)≤(i:Int):=by omega
   obtain ⟨x,hx⟩:∃ x,xs[i]?=some x:=⟨_,List.getElem?_eq_getElem (by rw [HL.out];exact hin)⟩
   have hmem:=List.mem_of_getElem? hx
   rcases H.out with h0 | ⟨b,off,rfl,hbl,hc⟩
   ·rw [h0] at hmem;simp at hmem
   have c0:=hc i x hx
   obtain ⟨t,ht⟩:∃ t,f x=t:=⟨_,rfl⟩
   have HCL:=Lib.hid (fun W (hW:Ext w W)=>HTT.out x hmem W hW)
   have hlen:t.length≤1000:=by rw [←ht];exact HF.out x hmem
   have HX:Hid ((xs.map f)[i]?=some t):=by unfold Hid;rw [List.getElem?_map,hx,←ht];rfl
   rw [ht] at HCL
   have HXW:Hid (Ext w wr):=by obtain ⟨_,_,_,_,h4,_⟩:=HR.out;exact h4
   have c1:=(HXW.out.cell (p:=⟨b,off+i,none⟩) hbl).trans c0
   clear hc hx ht hmem c0
   go_wp2_with fail
   refine (HCL.out _ HXW.out).mono ?_
   rintro e w2 ⟨rfl,hx2⟩
   obtain ⟨ts,q1,q2,q3,q4,q5⟩:=HR.out
   have HX2:Hid (Ext w w2):=Ext.trans HXW.out hx2
   have HO:Hid (w2.ownsRow 0 9 1 (.slice B i cB) i (ts.map Value.string)):=own_chg q3 (Chg.of_below (Ext.trans (Ext.refl _) hx2)) (fun j hj=>by have:=own_lt q3 hj;omega)
   have HQ:Hid (ts.length=i∧ts.map (fun t=>t.data.toList)=(xs.map f).take i∧∀ j,(Value.slice B i cB).ownBlock=some j→w.heap.size≤j):=⟨q1,q2,q5⟩
   clear q1 q2 q3 q4 q5 hx2 HCL c1
   go_wp2_with (at_builtin;refine wpList_pushB _ rfl (.tmp 20) (.tmp 24) 50 rfl 9 _ 1 16 Tryz.underlying50 infoString rfl (by decide) (.slice B i cB) i _ rfl (own_chg HO.out ((Chg.refl (fun _=>False) _).alloc _) (fun _ _ h=>h)) ⟨by omega,by omega⟩ [.string ⟨t.toArray⟩] w2.heap.size rfl rfl (news_cells rfl _ _) (by simp [Value.oneCell']) ?_;intro g5 c5 w5 ho5 hc5 hat5 _;have HN:=Lib.hid (WdR.push HQ.out.1 HQ.out.2.1 (ext_al HX2.out _) HQ.out.2.2 HX.out ho5 hc5 (hat5.imp id fun h=>h));clear ho5 hc5 hat5)
   go_roundw
   case rel=>exact ⟨i+1,_,_,by omega,rfl,by go_num,HN.out⟩
   case measure=>simp [intOf];omega
  ·obtain rfl:n=i:=by omega
   obtain ⟨ts,q1,q2,q3,q4,q5⟩:=HR.out
   obtain ⟨gB,cB',hv,hcB,_⟩:=own_form q3 (by omega)
   injection hv with hv1 hv2 hv3
   subst hv1
   subst hv3
   rw [List.take_of_length_le (by rw [List.length_map,HL.out];exact Nat.le_refl _)] at q2
   have hJ:=pjoin_any gB cB ts wr (fun j x hx=>by
    have:=q3.cellAt j (by have:=(List.getElem?_eq_some_iff.1 hx).1;omega)
    simpa [List.getElem?_map,hx] using this) (own_lt q3 rfl) (by omega) (by omega) (by
     rw [q2]
     have:=RN.joinW_len 1000 (xs.map f) (fun y hy=>by obtain ⟨z,hz,rfl⟩:=List.mem_map.1 hy;exact HF.out z hz)
     rw [List.length_map,HL.out] at this
     unfold RN.joinW at this
     have h2:n * (1000+1)≤1000 * 1001:=Nat.mul_le_mul hn (Nat.le_refl _)
     omega)
   rw [q1] at hJ
   have HJ:=Lib.hid hJ
   have HE:Hid (Ext w wr∧ts.map (fun t=>t.data.toList)=xs.map f):=⟨q4,q2⟩
   clear hJ q1 q2 q3 q4 q5 hv2 hcB
   go_wp2_with fail
   refine HJ.out.mono ?_
   rintro e w3 ⟨rfl,hx3⟩
   have HX3:=Lib.hid hx3
   clear hx3
   go_wp2
   go_ret
   refine ⟨congrArg (fun z=>Ending.returned (.string z)) ?_,Ext.trans HE.out.1 HX3.out⟩
   rw [HE.out.2]
   unfold RN.wordsT
   rw [if_neg (fun e=>by have:=congrArg List.length e;rw [List.length_map,HL.out] at this;simp at this;omega)]
   rfl
set_option maxRecDepth 100000 in
theorem words_edge (gf:Nat) (w:World) (A:Option Addr) (n c:Nat) (xs:List AK.Ed) (hl:xs.length=n) (hn:n≤1000) (h:EdsAt w A xs) (f:AK.Ed→List UInt8) (none_:ByteArray)
  (eg:∀ args w,(callFunc gf args).run Tryz.prog w=.ok (.enter gf args) w) (HT:∀ x∈xs,∀ W,Ext w W→Calls Tryz.prog gf #[.agg #[.int .i64 x.1,.int .i64 x.2]] W fun e w'=>e=.returned (.string ⟨(f x).toArray⟩)∧Ext W w') (hf:∀ x∈xs,(f x).length≤1000):
  Calls Tryz.prog 41 #[.slice A n c,.func (.func gf) #[] #[],.string none_] w fun e w'=>e=.returned (.string ⟨(RN.wordsT none_.data.toList (xs.map f)).toArray⟩)∧Ext w w':=by
 have H:=Lib.hid h
 have HL:=Lib.hid hl
 have HTT:=Lib.hid HT
 have HF:=Lib.hid hf
 clear h hl HT hf
 by_cases hn0:n=0
 ·subst hn0
  have h0:xs=[]:=List.eq_nil_of_length_eq_zero HL.out
  subst h0
  go_enter Tryz.func41,Tryz.ntmps41
  go_wp2
  go_ret
  exact ⟨congrArg (fun z=>Ending.returned (.string z)) (str_of rfl),Ext.refl _⟩
 have z0:((n:Int) == 0)=false:=by simp;omega
 go_enter Tryz.func41,Tryz.ntmps41
 go_wp2
 go_loopw [7,16] (fun v7 v16 wr=>∃ (i:Nat) (B:Option Addr) (cB:Nat),i≤n∧v7=.slice B i cB∧v16=.int .i64 (i:Int)∧Hid (WdR w (xs.map f) B cB i wr)) (fun _ v16 _=>n - (intOf v16).toNat)
 case atStart=>exact ⟨0,none,0,Nat.zero_le _,rfl,rfl,[],rfl,rfl,World.ownsRow_nil _ _ _ _,Ext.refl _,fun j hj=>by simp [Value.ownBlock] at hj⟩
 case round=>
  obtain ⟨i,B,cB,hi,rfl,rfl,HR⟩:=hrel
  by_cases hin:i < n
  ·have z1:(i:Int) < (n:Int):=by omega
   have z2:(0:Int)≤(i:Int):=by omega
   obtain ⟨x,hx⟩:∃ x,xs[i]?=some x:=⟨_,List.getElem?_eq_getElem (by rw [HL.out];exact hin)⟩
   have hmem:=List.mem_of_getElem? hx
   rcases H.out with h0 | ⟨b,off,rfl,hbl,hc⟩
   ·rw [h0] at hmem;simp at hmem
   have c0:=hc i x hx
   obtain ⟨t,ht⟩:∃ t,f x=t:=⟨_,rfl⟩
   have HCL:=Lib.hid (fun W (hW:Ext w W)=>HTT.out x hmem W hW)
   have hlen:t.length≤1000:=by rw [←ht];exact HF.out x hmem
   have HX:Hid ((xs.map f)[i]?=some t):=by unfold Hid;rw [List.getElem?_map,hx,←ht];rfl
   rw [ht] at HCL
   have HXW:Hid (Ext w wr):=by obtain ⟨_,_,_,_,h4,_⟩:=HR.out;exact h4
   have c1:=(HXW.out.cell (p:=⟨b,off+i * 2,none⟩) hbl).trans c0.1
   have c2:=(HXW.out.cell (p:=⟨b,off+i * 2+1,none⟩) hbl).trans c0.2
   clear hc hx ht hmem c0
   go_wp2_with fail
   refine (HCL.out _ (ext_al HXW.out _)).mono ?_
   rintro e w2 ⟨rfl,hx2⟩
   obtain ⟨ts,q1,q2,q3,q4,q5⟩:=HR.out
   have HX2:Hid (Ext w w2):=Ext.trans (ext_al HXW.out _) hx2
   have HO:Hid (w2.ownsRow 0 9 1 (.slice B i cB) i (ts.map Value.string)):=own_chg q3 (Chg.of_below (Ext.trans (Ext.alloc _ _) hx2)) (fun j hj=>by have:=own_lt q3 hj;omega)
   have HQ:Hid (ts.length=i∧ts.map (fun t=>t.data.toList)=(xs.map f).take i∧∀ j,(Value.slice B i cB).ownBlock=some j→w.heap.size≤j):=⟨q1,q2,q5⟩
   clear q1 q2 q3 q4 q5 hx2 HCL c1 c2
   go_wp2_with (at_builtin;refine wpList_pushB _ rfl (.tmp 20) (.tmp 24) 50 rfl 9 _ 1 16 Tryz.underlying50 infoString rfl (by decide) (.slice B i cB) i _ rfl (own_chg HO.out ((Chg.refl (fun _=>False) _).alloc _) (fun _ _ h=>h)) ⟨by omega,by omega⟩ [.string ⟨t.toArray⟩] w2.heap.size rfl rfl (news_cells rfl _ _) (by simp [Value.oneCell']) ?_;intro g5 c5 w5 ho5 hc5 hat5 _;have HN:=Lib.hid (WdR.push HQ.out.1 HQ.out.2.1 (ext_al HX2.out _) HQ.out.2.2 HX.out ho5 hc5 (hat5.imp id fun h=>h));clear ho5 hc5 hat5)
   go_roundw
   case rel=>exact ⟨i+1,_,_,by omega,rfl,by go_num,HN.out⟩
   case measure=>simp [intOf];omega
  ·obtain rfl:n=i:=by omega
   obtain ⟨ts,q1,q2,q3,q4,q5⟩:=HR.out
   obtain ⟨gB,cB',hv,hcB,_⟩:=own_form q3 (by omega)
   injection hv with hv1 hv2 hv3
   subst hv1
   subst hv3
   rw [List.take_of_length_le (by rw [List.length_map,HL.out];exact Nat.le_refl _)] at q2
   have hJ:=pjoin_any gB cB ts wr (fun j x hx=>by
    have:=q3.cellAt j (by have:=(List.getElem?_eq_some_iff.1 hx).1;omega)
    simpa [List.getElem?_map,hx] using this) (own_lt q3 rfl) (by omega) (by omega) (by
     rw [q2]
     have:=RN.joinW_len 1000 (xs.map f) (fun y hy=>by obtain ⟨z,hz,rfl⟩:=List.mem_map.1 hy;exact HF.out z hz)
     rw [List.length_map,HL.out] at this
     unfold RN.joinW at this
     have h2:n * (1000+1)≤1000 * 1001:=Nat.mul_le_mul hn (Nat.le_refl _)
     omega)
   rw [q1] at hJ
   have HJ:=Lib.hid hJ
   have HE:Hid (Ext w wr∧ts.map (fun t=>t.data.toList)=xs.map f):=⟨q4,q2⟩
   clear hJ q1 q2 q3 q4 q5 hv2 hcB
   go_wp2_with fail
   refine HJ.out.mono ?_
   rintro e w3 ⟨rfl,hx3⟩
   have HX3:=Lib.hid hx3
   clear hx3
   go_wp2
   go_ret
   refine ⟨congrArg (fun z=>Ending.returned (.string z)) ?_,Ext.trans HE.out.1 HX3.out⟩
   rw [HE.out.2]
   unfold RN.wordsT
   rw [if_neg (fun e=>by have:=congrArg List.length e;rw [List.length_map,HL.out] at this;simp at this;omega)]
   rfl
end Go.Proofs.YtkoajpeabicpdaaGreatDoor
