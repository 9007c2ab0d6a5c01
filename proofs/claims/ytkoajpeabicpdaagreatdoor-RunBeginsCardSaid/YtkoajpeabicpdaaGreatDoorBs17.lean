/-
Walk of tour's Link. Condition: the forest lies in memory as 'FoAt' says.
-/
import Derived.Test.YtkoajpeabicpdaaGreatDoorBs15
import Derived.Test.YtkoajpeabicpdaaGreatDoorBs16
import Derived.Deep.RegionHeld3
import Derived.Deep.RegionHeldLaw
import Derived.Lib.QuietBelow
import Derived.Test.YtkoajpeabicpdaaGreatDoorProg
import Derived.Test.YtkoajpeabicpdaaGreatDoorBs7
import Derived.Shelf.Slices.In.SortNone
import Derived.Sort.OwnSortedInts
import Derived.Sort.EveryDepth
import Derived.Shelf.SlSortCmp.NoneTotal
import Derived.Test.YtkoajpeabicpdaaGreatDoorBs4
set_option linter.unusedVariables false
set_option maxHeartbeats 8000000
namespace Go.Proofs.YtkoajpeabicpdaaGreatDoor
open Go Go.RowKit SQ TR DF PD
theorem step_vput {P:Program} (w:World) {ops:Array Oper} {o:Oper} {a:Act} {K:Act→World→Prop} {Q:Exit→Act→World→Prop} {Z:Prop} (hgd:o.guard=none) (m x v:Operand) (t:TypeId)
  (ho:o.op=Op.mapUpdate t m x v) (vm vx vv:Value) (hm:a.eval m=vm) (hx:a.eval x=vx) (hv:a.eval v=vv) (w':World) (hr:(Instr.mapUpdate t vm vx vv).run P w=.ok () w') (h:K (a.put o.dst undef) w'):
  if Region.wanted o (yielded ops a.tmps)=true then Oper.wp P o a w K Q else Z:=by
 have hw:Region.wanted o (yielded ops a.tmps)=true:=by simp [Region.wanted,hgd]
 rw [if_pos hw]
 unfold Oper.wp
 simp [execOp,ho,hm,hx,hv,hr,Result.andThen]
 exact h
theorem step_vdel {P:Program} (w:World) {ops:Array Oper} {o:Oper} {a:Act} {K:Act→World→Prop} {Q:Exit→Act→World→Prop} {Z:Prop} (hgd:o.guard=none) (m x:Operand) (t k:TypeId)
  (ho:o.op=Op.call { callee:=Callee.builtin Builtin.delete,args:=#[m,x],argTypes:=#[t,k] }) (vm vx:Value) (hm:a.eval m=vm) (hx:a.eval x=vx) (w':World) (hr:∀ ty,(Builtin.delete_ #[t,k] ty #[vm,vx]).run P w=.ok (.tuple #[]) w') (h:K (a.put o.dst (.tuple #[])) w'):
  if Region.wanted o (yielded ops a.tmps)=true then Oper.wp P o a w K Q else Z:=by
 have hw:Region.wanted o (yielded ops a.tmps)=true:=by simp [Region.wanted,hgd]
 rw [if_pos hw]
 unfold Oper.wp
 simp [execOp,ho,resolve,invoke,builtin,hm,hx,hr,Result.andThen]
 exact h
section
variable {w:World} {F:FoP} {n N:Nat} {E:List AK.Ed}
theorem root_cell {p:List Int} (h:RootAt w F n p) (hl:p.length=n) {a:Nat} (ha:a < n):w.cell? ⟨F.rb,a,none⟩=some (.int .i64 (PD.g p a)):=by
 rw [h.cellAt a (by omega),intsV,List.getElem?_map,List.getElem?_eq_getElem (by omega)]
 simp [PD.g,List.getD_eq_getElem?_getD,List.getElem?_eq_getElem (show a < p.length by omega)]
def LinkPost (w:World) (F:FoP) (n N:Nat) (E:List AK.Ed) (e:Ending) (w':World):Prop:=e=.returned .nilIface∧FoAt w' F n (N+1) E∧Chg F.S w w'
theorem ints_one (w:World) (z:Int) (t:TypeId):IntsAt (w.alloc (.cells #[.int .i64 z] t)) (some ⟨w.heap.size,0,none⟩) [z]:=
 .inr ⟨w.heap.size,0,rfl,by simp,fun i v hv=>by
  have hi:i=0:=by have:=(List.getElem?_eq_some_iff.1 hv).1;simp at this;omega
  subst hi
  have:z=v:=by simpa using hv
  subst this
  exact (Blk.new w t #[.int .i64 z]).cell 0⟩
theorem FoAt.linked {w5 w6:World} {a b r:Nat} {q:Option Addr} {x y p p':List Int} {m m':Int→Option Value} {s':Nat} (h:FoAt w F n N E) (hx5:Ext w w5) (hP:Pts n E p) (hW:WaysAt w n E p m) (ha:a < n) (hb:b < n) (hc:¬ Cn (adj E) a b)
  (hx:TR.Way (adj E) a x) (hy:TR.Way (adj E) b y) (kx:TR.Go (adj E) a x a) (ky:TR.Go (adj E) b y b) (hq:RowAt w5 q (x++(st a b::y)++[st b a]))
  (hr:(r:Int)∈mks (x++(st a b::y)++[st b a])) (hmin:∀ z∈mks (x++(st a b::y)++[st b a]),(r:Int)≤z) (hs:SetR n (mks (x++(st a b::y)++[st b a])) r q p m p' m')
  (hR:RootAt w6 F n p') (hV:VM kI w6 F.mb (N+1) s' m') (hc6:Chg (fun k=>k=F.mb∨k=F.rb) w5 w6) (hN:N < 1000000):
  ∀ W,Ext w6 W→∃ W2,(Instr.mapUpdate 214 (.map (some F.eb)) (edV (AK.ek a b)) (.int .i64 1)).run Tryz.prog W=.ok () W2∧FoAt W2 F n (N+1) (putE (AK.ek a b) E)∧Chg F.S w W2∧W2.cell? ⟨F.fb,2,none⟩=some (.map (some F.eb)):=by
 intro W hW6
 have hab:a≠b:=fun e=>hc (e ▸ .refl _)
 have h60:=h.hn
 have noseq:=h.noseq
 have hsq:∀ k,(k=F.mb∨k=F.rb)→∀ cs,¬ Blk w5 k 296 cs:=fun k hk=>(h.ext hx5).noseq k (by rcases hk with e | e;exact .inl e;exact .inr (.inl e))
 have hq6:RowAt w6 q (x++(st a b::y)++[st b a]):=hq.chg hc6 hsq
 have hWays6:WaysAt w6 n E p m:=fun r hr hg=>by
  obtain ⟨q,l,a1,a2,a3⟩:=hW r hr hg
  exact ⟨q,l,a1,(a2.ext hx5).chg hc6 hsq,a3⟩
 obtain ⟨P',W'⟩:=link_state h60.2 h.fo hP hWays6 ha hb hc hx hy kx ky hq6 hr hmin hs
 obtain ⟨me,k1,k2⟩:=h.edges
 have hfb:=h.fb_ne
 have k6:VM kE W F.eb N E.length me:=(((k1.ext hx5).chg hc6 (by
  obtain ⟨p0,s0,m0,_,b2,b3,_⟩:=h.ways
  rintro (e | e)
  ·exact h.ne e.symm
  ·exact k1.own_ne b2 (by simp [FoP.rv,Value.ownBlock,e]))).ext hW6)
 have hok:okE (AK.ek a b):=okE_of (by unfold AK.ek;simp only;omega) (by unfold AK.ek;simp only;omega)
 have hnE:AK.ek a b ∉ E:=fun w=>hc (.edge ((adj_ek (a:=a) (b:=b) h.fo.lt hab).1 w))
 obtain ⟨W2,hrun,hv2,hc2,hsz⟩:=k6.put Tryz.underlying214 (by omega) (AK.ek a b) hok (.int .i64 1)
 have hblk:Blk W2 F.fb 216 #[.map (some F.mb),F.rv n,.map (some F.eb)]:=(((h.blk.chg (Chg.of_below hx5) (by have:=h.blk.lt;omega)).chg hc6 (fun e=>hfb (by rcases e with e | e;exact .inl e;exact .inr (.inl e)))).chg (Chg.of_below hW6) (by
  have:=h.blk.lt;have:=hx5.size;have:=hc6.size;omega)).chg hc2 (fun e=>hfb (.inr (.inr e)))
 have hRW:RootAt W F n p':=own_chg hR (Chg.of_below hW6) (fun k hk=>by have:=own_lt hR hk;omega)
 have hVW:VM kI W F.mb (N+1) s' m':=hV.ext hW6
 have hsqW:∀ k,k=F.eb→∀ cs,¬ Blk W k 296 cs:=fun k hk cs hbk=>by subst hk;exact k6.blk_ne hbk rfl
 refine ⟨W2,hrun,⟨hblk,h60,h.fo.put ha hb hc,h.ne,⟨p',s',m',P',own_chg hRW hc2 (fun k hk e=>by
   have:F.rb=k:=by simpa [FoP.rv,Value.ownBlock] using hk
   exact k6.own_ne hRW (by simp [FoP.rv,Value.ownBlock,this,e])),hVW.chg hc2 h.ne,fun r hr hg=>?_⟩,⟨updV me (AK.ek a b) (some (.int .i64 1)),?_,fun z hz=>?_⟩⟩,?_,hblk.cell 2⟩
 ·obtain ⟨q,l,a1,a2,a3⟩:=W' r hr hg
  exact ⟨q,l,a1,(a2.ext hW6).chg hc2 hsqW,a3⟩
 ·have hm:me (AK.ek a b)=none:=by rw [k2 _ hok,if_neg hnE]
  rw [putE_length]
  rw [hm] at hv2
  exact hv2
 ·by_cases e:z=AK.ek a b
  ·subst e
   rw [updV,if_pos rfl,if_pos (putE_mem.2 (.inl rfl))]
  ·rw [updV,if_neg e,k2 z hz]
   by_cases q:z∈E
   ·rw [if_pos q,if_pos (putE_mem.2 (.inr q))]
   ·rw [if_neg q,if_neg (fun w=>(putE_mem.1 w).elim e q)]
 ·exact ((((Chg.new hx5 F.S).trans hc6 (fun i _ hi=>by rcases hi with e | e;exact .inl e;exact .inr (.inl e))).trans (Chg.new hW6 F.S) (fun i _ hi=>hi)).trans hc2 (fun i _ hi=>.inr (.inr hi)))
end
section
variable {w:World} {F:FoP} {n N:Nat} {E:List AK.Ed}
set_option maxRecDepth 100000 in
theorem tlink_ok (h:FoAt w F n N E) (hN:N < 1000000) (a b:Nat) (ha:a < n) (hb:b < n) (hc:¬ Cn (adj E) a b):
  Calls Tryz.prog 107 #[.pointer (some ⟨F.fb,0,none⟩),.int .i64 a,.int .i64 b] w (LinkPost w F n N (putE (AK.ek a b) E)):=by
 have c1:w.cell? ⟨F.fb,1,none⟩=some (.slice (some ⟨F.rb,0,none⟩) n F.c):=h.blk.cell 1
 obtain ⟨p,s,m,h1,h2,h3,h4⟩:=h.ways
 have h60:=h.hn
 have e1:=root_cell h2 h1.len ha
 have e2:=root_cell h2 h1.len hb
 have hg:(PD.g p a == PD.g p b)=false:=by
  rw [beq_eq_false_iff_ne]
  exact fun e=>hc ((h1.joined ha hb).1 e)
 generalize PD.g p a=ra at e1 hg
 generalize PD.g p b=rb at e2 hg
 have N1:=Lib.hid (tnode_any h a true (by simp [ha]))
 have N2:=Lib.hid (tnode_any h b true (by simp [hb]))
 have z1:(a:Int) < (n:Int):=by omega
 have z2:(b:Int) < (n:Int):=by omega
 have H:=Lib.hid h
 have HP:=Lib.hid h1
 have HW:=Lib.hid h4
 have HV:=Lib.hid h3
 have HR:=Lib.hid h2
 have HC:=Lib.hid hc
 have ST1:=Lib.hid (fun W=>tstep_any W a b (by omega) (by omega))
 have ST2:=Lib.hid (fun W=>tstep_any W b a (by omega) (by omega))
 clear h h1 h2 h3 h4 hc
 go_enter Tryz.func107,Tryz.ntmps107
 go_wp2_with fail
 refine N1.out.mono ?_
 rintro e w' ⟨rfl,rfl⟩
 go_wp2_with fail
 refine N2.out.mono ?_
 rintro e w' ⟨rfl,rfl⟩
 go_wp2
 go_quiet (fail)
 have X0:Hid (Ext w (w.drewN nq)):=Ext.drewN _ _
 generalize w.drewN nq=w0 at X0 ⊢
 clear N1 N2 e1 e2 c1 hg
 have H0:Hid (FoAt w0 F n N E):=H.out.ext X0.out
 go_wp2_with fail
 refine (tfrom_any H0.out a ha).mono ?_
 rintro e w1 ⟨q1,x,rfl,s1,y1,g1,x1⟩
 have S1:=Lib.hid s1
 have Y1:=Lib.hid y1
 have G1:=Lib.hid g1
 have X1:Hid (Ext w w1):=X0.out.trans x1
 have H1:Hid (FoAt w1 F n N E):=H.out.ext X1.out
 clear s1 y1 g1 x1 H0
 go_wp2_with fail
 refine (tfrom_any H1.out b hb).mono ?_
 rintro e w2 ⟨q2,y,rfl,s2,y2,g2,x2⟩
 have S2:=Lib.hid s2
 have Y2:=Lib.hid y2
 have G2:=Lib.hid g2
 have S1':Hid (RowAt w2 q1 x):=S1.out.ext x2
 have X2:Hid (Ext w w2):=X1.out.trans x2
 have LX:Hid (x.length≤180∧y.length≤180):=⟨Y1.out.len H.out.fo h60.2,Y2.out.len H.out.fo h60.2⟩
 clear s2 y2 g2 x2 H1 S1 X1
 go_wp2_with fail
 refine (ST1.out _).mono ?_
 rintro e w' ⟨rfl,rfl⟩
 go_wp2_with fail
 refine (row_of (n:=1) (c:=1) (ints_one _ _ _) rfl (by omega)).mono ?_
 rintro e w3 ⟨q3,rfl,s3,x3⟩
 have x3':Ext w2 w3:=(Ext.alloc w2 _).trans x3
 have S3:=Lib.hid s3
 have S1'':Hid (RowAt w3 q1 x):=S1'.out.ext x3'
 have S2':Hid (RowAt w3 q2 y):=S2.out.ext x3'
 have X3:Hid (Ext w w3):=X2.out.trans x3'
 clear s3 x3 x3' X2 S1' S2
 go_wp2_with fail
 refine (ST2.out _).mono ?_
 rintro e w' ⟨rfl,rfl⟩
 go_wp2_with fail
 refine (row_of (n:=1) (c:=1) (ints_one _ _ _) rfl (by omega)).mono ?_
 rintro e w4 ⟨q4,rfl,s4,x4⟩
 have x4':Ext w3 w4:=(Ext.alloc w3 _).trans x4
 have R1:Hid (RowAt w4 q1 x):=S1''.out.ext x4'
 have R2:Hid (RowAt w4 q2 y):=S2'.out.ext x4'
 have R3:Hid (RowAt w4 q3 [st a b]):=S3.out.ext x4'
 have R4:Hid (RowAt w4 q4 [st b a]):=s4
 have X4:Hid (Ext w w4):=X3.out.trans x4'
 clear s4 x4 x4' X3 S1'' S2' S3 ST1 ST2
 have hrs:Hid (∀ (i:Nat) p,[(q1,x),(q3,[st a b]),(q2,y),(q4,[st b a])][i]?=some p→(w4.alloc (.cells #[.pointer q1,.pointer q3,.pointer q2,.pointer q4] 217)).cell? ⟨w4.heap.size,i,none⟩=some (.pointer p.1)∧RowAt (w4.alloc (.cells #[.pointer q1,.pointer q3,.pointer q2,.pointer q4] 217)) p.1 p.2):=by
  intro i p hp
  have hB:=Blk.new w4 217 #[.pointer q1,.pointer q3,.pointer q2,.pointer q4]
  match i,hp with
  | 0,hp=>simp at hp;subst hp;exact ⟨hB.cell 0,R1.out.ext (Ext.alloc _ _)⟩
  | 1,hp=>simp at hp;subst hp;exact ⟨hB.cell 1,R3.out.ext (Ext.alloc _ _)⟩
  | 2,hp=>simp at hp;subst hp;exact ⟨hB.cell 2,R2.out.ext (Ext.alloc _ _)⟩
  | 3,hp=>simp at hp;subst hp;exact ⟨hB.cell 3,R4.out.ext (Ext.alloc _ _)⟩
  | i+4,hp=>simp at hp
 have hfl:[(q1,x),(q3,[st a b]),(q2,y),(q4,[st b a])].flatMap (fun z:Option Addr × List Int=>z.2)=x++(st a b::y)++[st b a]:=by simp
 have hll:(x++(st a b::y)++[st b a]).length≤400:=by have:=LX.out;simp;omega
 go_wp2_with fail
 refine (tjoin_any (m:=4) (c:=4) [(q1,x),(q3,[st a b]),(q2,y),(q4,[st b a])] hrs.out (by simp) rfl (by omega) (by rw [hfl];exact hll)).mono ?_
 rintro e w5 ⟨q5,rfl,s5,x5⟩
 rw [hfl] at s5
 have S5:=Lib.hid s5
 have X5:Hid (Ext w w5):=X4.out.trans ((Ext.alloc w4 _).trans x5)
 clear s5 x5 hrs R1 R2 R3 R4 X4 hfl
 have HB5:Hid (Blk w5 F.fb 216 #[.map (some F.mb),F.rv n,.map (some F.eb)]):=(H.out.ext X5.out).blk
 have HR5:Hid (RootAt w5 F n p):=own_chg HR.out (Chg.of_below X5.out) (fun k hk=>by have:=own_lt HR.out hk;omega)
 have hway:TR.Way (adj (putE (AK.ek a b) E)) a (x++(st a b::y)++[st b a]):=by
  have he:adj (putE (AK.ek a b) E)=Ad (adj E) a b:=funext fun u=>funext fun v=>propext (adj_put u v)
  rw [he]
  exact TR.Way.link (fun u v e=>adj_symm e) (fun u v e=>by have:=adj_in H.out.fo.ok e;omega) (by omega) (by omega) HC.out Y1.out Y2.out G1.out G2.out
 have hmks:=hway.mks ha (H.out.fo.put ha hb HC.out) h60.2
 have h0:0 < (mks (x++(st a b::y)++[st b a])).length:=List.length_pos_of_mem (hmks.2.2 a ha (.refl _))
 have HM:Hid (∀ z∈mks (x++(st a b::y)++[st b a]),∃ v:Nat,z=v∧v < n):=fun z hz=>by
  obtain ⟨v,a1,a2,_⟩:=hmks.2.1 z hz;exact ⟨v,a1,a2⟩
 clear hway hmks
 go_wp2_with fail
 refine (tset_any HB5.out h60.2 HR5.out HP.out.len (HV.out.ext X5.out) hN S5.out hll h0 HM.out).mono ?_
 rintro e w6 ⟨rfl,r,p',m',s',a1,a2,a3,a4,a5,a6⟩
 have HPUT:=Lib.hid (H.out.linked X5.out HP.out HW.out ha hb HC.out Y1.out Y2.out G1.out G2.out S5.out a1 a2 a3 a4 a5 a6 hN)
 have hb6:Blk w6 F.fb 216 #[.map (some F.mb),F.rv n,.map (some F.eb)]:=HB5.out.chg a6 (by
  have:=H.out.fb_ne
  exact fun e=>this (by rcases e with e | e;exact .inl e;exact .inr (.inl e)))
 have d2:w6.cell? ⟨F.fb,2,none⟩=some (.map (some F.eb)):=hb6.cell 2
 have hl6:=hb6.lt
 have HK:Hid (∀ W,Ext w6 W→W.cell? ⟨F.fb,2,none⟩=some (.map (some F.eb))):=fun W hW=>(hW.cell (p:=⟨F.fb,2,none⟩) hl6).trans d2
 clear a1 a2 a3 a4 a5 a6 hb6 HM HB5 HR5 S5 H HP HW HV HR HC Y1 Y2 G1 G2 LX X5 X0 h0 hll
 go_wp2
 go_region_held3 (fun w'=>w'.cell? ⟨F.fb,2,none⟩=some (.map (some F.eb))) (go_keep)
  (first
   | (go_at_call 104;refine (of_any _ (a:Int) (b:Int)).mono ?_;rintro e w7 ⟨rfl,hb7⟩;have X7:Hid (Ext w6 w7):=Ext.trans (Ext.drew _) hb7;have q7:w7.cell? ⟨F.fb,2,none⟩=some (.map (some F.eb)):=HK.out _ X7.out;obtain ⟨W2,hr2,hf2,hc2,hq2⟩:=HPUT.out _ X7.out;have HF2:=Lib.hid hf2;have HC2:=Lib.hid hc2;clear hf2 hc2 hb7)
   | (refine step_vput _ (by rfl) (.tmp 98) (.tmp 101) (.const (.int .i64 1)) 214 (by rfl) _ _ _ (by rfl) (by rfl) (by rfl) W2 hr2 ?_)
   | fail)
 go_wp2
 go_ret
 exact ⟨rfl,HF2.out,HC2.out⟩
end
theorem GMek (u v:Nat):AK.ek (u:Int) v=AK.ek v u:=by unfold AK.ek;rw [Int.min_comm,Int.max_comm]
theorem cutE_length {x:AK.Ed}:∀ {E:List AK.Ed},E.Nodup→x∈E→(cutE x E).length+1=E.length
 | [],_,h=>absurd h List.not_mem_nil
 | y::E,h,hx=>by
  rw [List.nodup_cons] at h
  by_cases e:y=x
  ·subst e
   have h0:cutE y E=E:=List.filter_eq_self.2 fun z hz=>by simp;exact fun e=>h.1 (e ▸ hz)
   have:cutE y (y::E)=cutE y E:=by simp [cutE]
   rw [this,h0];rfl
  ·have hx':x∈E:=(List.mem_cons.1 hx).resolve_left (Ne.symm e)
   have:=cutE_length h.2 hx'
   have h2:cutE x (y::E)=y::cutE x E:=by simp [cutE,e]
   rw [h2,List.length_cons,List.length_cons];omega
def CutPost (w:World) (F:FoP) (n N:Nat) (E:List AK.Ed) (e:Ending) (w':World):Prop:=e=.returned .nilIface∧FoAt w' F n (N+2) E∧Chg F.S w w'
section
variable {w:World} {F:FoP} {n N:Nat} {E:List AK.Ed}
theorem cut_facts {u v:Nat} {low mid high:List Int} (h:FoAt w F n N E) (huv:adj E u v) (hway:TR.Way (adj E) u (low++st u v::mid++st v u::high)):
  0 < (mks mid).length∧(∀ z∈mks mid,∃ v:Nat,z=v∧v < n)∧0 < (mks (low++high)).length∧(∀ z∈mks (low++high),∃ v:Nat,z=v∧v < n):=by
 have h60:=h.hn
 have hf':=h.fo.cut (AK.ek u v)
 obtain ⟨hu,hv,hne⟩:=adj_in h.fo.ok huv
 have he:adj (cutE (AK.ek u v) E)=Mn (adj E) u v:=funext fun x=>funext fun y=>propext (adj_cut h.fo.lt x y)
 obtain ⟨w1,w2⟩:=TR.Way.cut (fun x y e=>adj_symm e) (fun x y e=>by have:=adj_in h.fo.ok e;omega) (by omega) (by omega) huv (h.fo.fs u v huv) hway
 rw [←he] at w1 w2
 obtain ⟨a1,a2,a3⟩:=w1.mks hv hf' h60.2
 obtain ⟨b1,b2,b3⟩:=w2.mks hu hf' h60.2
 refine ⟨List.length_pos_of_mem (a3 v hv (.refl _)),fun z hz=>?_,List.length_pos_of_mem (b3 u hu (.refl _)),fun z hz=>?_⟩
 ·obtain ⟨x,x1,x2,_⟩:=a2 z hz;exact ⟨x,x1,x2⟩
 ·obtain ⟨x,x1,x2,_⟩:=b2 z hz;exact ⟨x,x1,x2⟩
theorem FoAt.cutted {w7 w8 w9:World} {u v r1 r2:Nat} {q1 q2:Option Addr} {low mid high p p1 p2:List Int} {m m1 m2:Int→Option Value} {s2:Nat} (h:FoAt w F n N E) (hx7:Ext w w7) (hP:Pts n E p) (hW:WaysAt w n E p m) (huv:adj E u v)
  (hway:TR.Way (adj E) u (low++st u v::mid++st v u::high)) (hq1:RowAt w7 q1 mid) (hq2:RowAt w8 q2 (low++high))
  (hr1:(r1:Int)∈mks mid) (hmin1:∀ z∈mks mid,(r1:Int)≤z) (hs1:SetR n (mks mid) r1 q1 p m p1 m1) (hc8:Chg (fun k=>k=F.mb∨k=F.rb) w7 w8)
  (hr2:(r2:Int)∈mks (low++high)) (hmin2:∀ z∈mks (low++high),(r2:Int)≤z) (hs2:SetR n (mks (low++high)) r2 q2 p1 m1 p2 m2)
  {s1:Nat} (hR8:RootAt w8 F n p1) (hV8:VM kI w8 F.mb (N+1) s1 m1) (hR:RootAt w9 F n p2) (hV:VM kI w9 F.mb (N+1+1) s2 m2) (hc9:Chg (fun k=>k=F.mb∨k=F.rb) w8 w9) (a b:Int) (hek:AK.ek a b=AK.ek u v):
  ∀ W,Ext w9 W→∃ W2,(∀ ty,(Builtin.delete_ #[214,93] ty #[.map (some F.eb),edV (AK.ek a b)]).run Tryz.prog W=.ok (.tuple #[]) W2)∧FoAt W2 F n (N+2) (cutE (AK.ek u v) E)∧Chg F.S w W2∧W2.cell? ⟨F.fb,2,none⟩=some (.map (some F.eb)):=by
 intro W hW9
 have h60:=h.hn
 obtain ⟨hu,hv,hne⟩:=adj_in h.fo.ok huv
 have hsq7:∀ k,(k=F.mb∨k=F.rb)→∀ cs,¬ Blk w7 k 296 cs:=fun k hk=>(h.ext hx7).noseq k (by rcases hk with e | e;exact .inl e;exact .inr (.inl e))
 have hsz7:∀ k,(k=F.mb∨k=F.rb)→k < w7.heap.size:=fun k hk=>(h.ext hx7).lt.2 k (by rcases hk with e | e;exact .inl e;exact .inr (.inl e))
 have hsq8:∀ k,(k=F.mb∨k=F.rb)→∀ cs,¬ Blk w8 k 296 cs:=fun k hk cs hb=>by
  rcases hk with rfl | rfl
  ·exact hV8.blk_ne hb rfl
  ·exact own_ne hR8 hb (by decide) rfl
 have row79:∀ {q:Option Addr} {l:List Int},RowAt w7 q l→RowAt w9 q l:=fun hq=>(hq.chg hc8 hsq7).chg hc9 hsq8
 have hWays9:WaysAt w9 n E p m:=fun r hr hg=>by
  obtain ⟨q,l,a1,a2,a3⟩:=hW r hr hg
  exact ⟨q,l,a1,row79 (a2.ext hx7),a3⟩
 obtain ⟨P',W'⟩:=cut_state h60.2 h.fo hP hWays9 huv hway (row79 hq1) (hq2.chg hc9 hsq8) hr1 hmin1 hs1 hr2 hmin2 hs2
 obtain ⟨me,k1,k2⟩:=h.edges
 have hfb:=h.fb_ne
 have hebm:F.eb≠F.mb:=fun e=>h.ne e.symm
 obtain ⟨p0,s0,m0,b1,b2,b3,_⟩:=h.ways
 have hebr:F.eb≠F.rb:=fun e=>k1.own_ne b2 (by simp [FoP.rv,Value.ownBlock,e])
 have neb:¬ (F.eb=F.mb∨F.eb=F.rb):=fun e=>e.elim hebm hebr
 have kW:VM kE W F.eb N E.length me:=((((k1.ext hx7).chg hc8 neb).chg hc9 neb)).ext hW9
 have hok:okE (AK.ek u v):=okE_of (by unfold AK.ek;simp only;omega) (by unfold AK.ek;simp only;omega)
 have hE:AK.ek u v∈E:=(adj_ek (a:=u) (b:=v) h.fo.lt hne).2 huv
 obtain ⟨W2,hrun,⟨s',hs',hv2⟩,hc2,hsz⟩:=kW.del Tryz.underlying214 (AK.ek u v) hok
 have nfb:¬ (F.fb=F.mb∨F.fb=F.rb):=fun e=>hfb (by rcases e with e | e;exact .inl e;exact .inr (.inl e))
 have hb9:Blk w9 F.fb 216 #[.map (some F.mb),F.rv n,.map (some F.eb)]:=((h.ext hx7).blk.chg hc8 nfb).chg hc9 nfb
 have hblk:Blk W2 F.fb 216 #[.map (some F.mb),F.rv n,.map (some F.eb)]:=(hb9.chg (Chg.of_below hW9) (by have:=hb9.lt;omega)).chg hc2 (fun e=>hfb (.inr (.inr e)))
 have hRW:RootAt W F n p2:=own_chg hR (Chg.of_below hW9) (fun k hk=>by have:=own_lt hR hk;omega)
 have hVW:VM kI W F.mb (N+2) s2 m2:=hV.ext hW9
 have hsqW:∀ k,k=F.eb→∀ cs,¬ Blk W k 296 cs:=fun k hk cs hbk=>by subst hk;exact kW.blk_ne hbk rfl
 refine ⟨W2,by rw [hek];exact hrun,⟨hblk,h60,h.fo.cut _,h.ne,⟨p2,s2,m2,P',own_chg hRW hc2 (fun k hk e=>by
   have:F.rb=k:=by simpa [FoP.rv,Value.ownBlock] using hk
   exact hebr (by rw [this,e])),hVW.chg hc2 h.ne,fun r hr hg=>?_⟩,⟨updV me (AK.ek u v) none,?_,fun z hz=>?_⟩⟩,?_,hblk.cell 2⟩
 ·obtain ⟨q,l,a1,a2,a3⟩:=W' r hr hg
  exact ⟨q,l,a1,(a2.ext hW9).chg hc2 hsqW,a3⟩
 ·have hm:me (AK.ek u v)=some (.int .i64 1):=by rw [k2 _ hok,if_pos hE]
  rw [hm] at hs'
  have hl:=cutE_length (rises_nodup h.fo.up) hE
  have:(cutE (AK.ek u v) E).length=s':=by simp at hs';omega
  rw [this]
  exact hv2.mono (by omega)
 ·by_cases e:z=AK.ek u v
  ·subst e
   rw [updV,if_pos rfl,if_neg (fun w=>(cutE_mem.1 w).2 rfl)]
  ·rw [updV,if_neg e,k2 z hz]
   by_cases q:z∈E
   ·rw [if_pos q,if_pos (cutE_mem.2 ⟨q,e⟩)]
   ·rw [if_neg q,if_neg (fun w=>q (cutE_mem.1 w).1)]
 ·exact ((((Chg.new hx7 F.S).trans hc8 (fun i _ hi=>by rcases hi with e | e;exact .inl e;exact .inr (.inl e))).trans hc9 (fun i _ hi=>by rcases hi with e | e;exact .inl e;exact .inr (.inl e))).trans (Chg.new hW9 F.S) (fun i _ hi=>hi)).trans hc2 (fun i _ hi=>.inr (.inr hi))
end
section
variable {w:World} {F:FoP} {n N:Nat} {E:List AK.Ed}
set_option maxRecDepth 100000 in
theorem tcut_A (h:FoAt w F n N E) (hN:N+1 < 1000000) (u v:Nat) (huv:adj E u v) {p l low mid high:List Int} {s r:Nat} {m:Int→Option Value} {q:Option Addr} (h1:Pts n E p) (h2:RootAt w F n p) (h3:VM kI w F.mb N s m) (h4:WaysAt w n E p m)
  (hp:PD.g p u=r) (hm:m r=some (.pointer q)) (hq:RowAt w q l) (hway:TR.Way (adj E) u l) (hl:l=low++st u v::mid++st v u::high):
  Calls Tryz.prog 195 #[.pointer (some ⟨F.fb,0,none⟩),.int .i64 u,.int .i64 v] w (CutPost w F n N (cutE (AK.ek u v) E)):=by
 have h60:=h.hn
 obtain ⟨hu,hv,hne⟩:=adj_in h.fo.ok huv
 have hlen:l.length≤180:=hway.len h.fo h60.2
 have c0:w.cell? ⟨F.fb,0,none⟩=some (.map (some F.mb)):=h.blk.cell 0
 have c1:w.cell? ⟨F.fb,1,none⟩=some (.slice (some ⟨F.rb,0,none⟩) n F.c):=h.blk.cell 1
 have c2:w.cell? ⟨F.fb,2,none⟩=some (.map (some F.eb)):=h.blk.cell 2
 have e1:=root_cell h2 h1.len (a:=u) (by omega)
 rw [hp] at e1
 obtain ⟨me,k1,k2⟩:=h.edges
 have hek:AK.ek (u:Int) v=AK.ek u v:=rfl
 have hlk:∀ d os,(Instr.lookup 214 (.map (some F.eb)) (edV (AK.ek (u:Int) v)) false).run Tryz.prog (Sort.grow (redrawn w d) os)=.ok (.int .i64 1) (Sort.grow (redrawn w d) os):=fun d os=>by
  have hok:okE (AK.ek u v):=okE_of (by unfold AK.ek;simp only;omega) (by unfold AK.ek;simp only;omega)
  have:=(k1.ext (below_regrown w d os)).look Tryz.underlying214 (zeroInt _) (AK.ek u v) hok
  rw [k2 _ hok,if_pos ((adj_ek (a:=u) (b:=v) h.fo.lt hne).2 huv)] at this
  rw [hek]
  exact this
 have hlw:∀ W,Ext w W→(Instr.lookup 213 (.map (some F.mb)) (.int .i64 r) false).run Tryz.prog W=.ok (.pointer q) W:=fun W hW=>by
  have:=(h3.ext hW).look Tryz.underlying213 (zeroSeq _) (r:Int) (WalkArith.wf_i64 (by
   have:=h1.pa u (by omega)
   obtain ⟨r',q1,q2,_⟩:=this
   omega))
  rw [hm] at this
  exact this
 have hrn:r < n:=by
  obtain ⟨r',q1,q2,_⟩:=h1.pa u (by omega)
  omega
 obtain ⟨lo,hlo⟩:∃ lo,lo=low.length:=⟨_,rfl⟩
 obtain ⟨hi,hhi⟩:∃ hi,hi=low.length+1+mid.length:=⟨_,rfl⟩
 have LOHI:Hid (lo < hi∧hi < l.length):=⟨by omega,by rw [hl];simp;omega⟩
 have I1:Hid (l[lo]?=some (st u v)∧l.Nodup):=⟨by rw [hl,hlo];simp,hway.nd⟩
 have I2:Hid (l[hi]?=some (st v u)∧l.Nodup):=⟨by
  have e:hi=(low++st u v::mid).length:=by rw [hhi];simp;omega
  rw [hl,e,List.getElem?_append_right (Nat.le_refl _),Nat.sub_self];rfl,hway.nd⟩
 obtain ⟨R,hR⟩:∃ R,R=st u v::mid++st v u::high:=⟨_,rfl⟩
 have T1:Hid (l.take lo=low∧l.drop lo=R∧R.length≤400):=⟨by rw [hl,hlo];simp,by rw [hl,hlo,hR];simp,by rw [hR];rw [hl] at hlen;simp at hlen ⊢;omega⟩
 obtain ⟨d,hd⟩:∃ d,d=hi - lo:=⟨_,rfl⟩
 have T2:Hid (R.take d=st u v::mid∧R.drop d=st v u::high∧d≤R.length):=by
  have e:d=(st u v::mid).length:=by rw [hd,hlo,hhi];simp;omega
  rw [e,hR]
  exact ⟨List.take_left' rfl,List.drop_left' rfl,by simp⟩
 have L3:Hid ((st u v::mid).length≤400∧(st v u::high).length≤400∧(low++high).length≤400∧mid.length≤400):=by
  rw [hl] at hlen;simp at hlen
  exact ⟨by simp;omega,by simp;omega,by simp;omega,by omega⟩
 have N1:=Lib.hid (tnode_any h (u:Int) true (by simp;omega))
 have N2:=Lib.hid (tnode_any h (v:Int) true (by simp;omega))
 have z1:(u:Int) < (n:Int):=by omega
 have z2:(lo:Int) < (hi:Int):=by have:=LOHI.out;omega
 have zmin:min (lo:Int) (hi:Int)=(lo:Int):=by omega
 have zmax:max (lo:Int) (hi:Int)=(hi:Int):=by omega
 have e9:(hi:Int) - (lo:Int)=(d:Int):=by have:=LOHI.out;omega
 have zd:d≤400:=by have:=LOHI.out;omega
 have e10:IntKind.i64.wrap (d:Int)=(d:Int):=IntWalk.i64_in _ (by omega)
 have H:=Lib.hid h
 have HP:=Lib.hid h1
 have HW:=Lib.hid h4
 have HV:=Lib.hid h3
 have HR:=Lib.hid h2
 have HQ:=Lib.hid hq
 have HL:=Lib.hid hl
 have HWAY:=Lib.hid hway
 have HUV:=Lib.hid huv
 have HLEN:=Lib.hid hlen
 have ST1:=Lib.hid (fun W=>tstep_any W u v (by omega) (by omega))
 have ST2:=Lib.hid (fun W=>tstep_any W v u (by omega) (by omega))
 have HB0:=Lib.hid h.blk
 have hlt:=h.blk.lt
 have HRL:Hid (F.rb < w.heap.size):=own_lt h2 (by simp [FoP.rv,Value.ownBlock])
 clear h h1 h2 h3 h4 hq hway hl huv hlen k1 k2 hhi hlo hR hek hp hm hd
 go_enter Tryz.func195,Tryz.ntmps195
 go_wp2_with fail
 refine N1.out.mono ?_
 rintro e w' ⟨rfl,rfl⟩
 go_wp2_with fail
 refine N2.out.mono ?_
 rintro e w' ⟨rfl,rfl⟩
 go_wp2
 have g2:∀ d os,(Sort.grow (redrawn w d) os).cell? ⟨F.fb,2,none⟩=some (.map (some F.eb)):=fun d os=>cell_regrown c2 d os
 refine wp_region_quiet_below (by kernel_rfl) (by kernel_rfl) ?_
 repeat (go_big_quiet_step ((go_at_call 104;exact Calls.regrown_of (of_any _ (u:Int) (v:Int)))))
 refine wpQuiet_nil ?_
 intro _ hw'
 obtain ⟨⟨dq,osq⟩,hw''⟩:=hw'
 subst hw''
 have X0:Hid (Ext w (Sort.grow (redrawn w dq) osq)):=below_regrown w dq osq
 generalize Sort.grow (redrawn w dq) osq=w0 at X0 ⊢
 clear N1 N2 hlk g2 c2
 have d0:w0.cell? ⟨F.fb,0,none⟩=some (.map (some F.mb)):=(X0.out.cell (p:=⟨F.fb,0,none⟩) hlt).trans c0
 have d1:w0.cell? ⟨F.fb,1,none⟩=some (.slice (some ⟨F.rb,0,none⟩) n F.c):=(X0.out.cell (p:=⟨F.fb,1,none⟩) hlt).trans c1
 have d2:w0.cell? ⟨F.rb,u,none⟩=some (.int .i64 r):=(X0.out.cell (p:=⟨F.rb,u,none⟩) HRL.out).trans e1
 have hlw0:∀ k,(Instr.lookup 213 (.map (some F.mb)) (.int .i64 r) false).run Tryz.prog (w0.drewN k)=.ok (.pointer q) (w0.drewN k):=fun k=>hlw _ (X0.out.trans (Ext.drewN w0 k))
 clear c0 c1 e1 hlw
 go_wp2
 go_quiet (fail)
 have X1:Hid (Ext w (w0.drewN nq)):=X0.out.trans (Ext.drewN w0 nq)
 generalize w0.drewN nq=w1 at X1 ⊢
 clear d0 d1 d2 hlw0 X0
 go_wp2_with fail
 refine (row_list (HQ.out.ext X1.out) (by have:=HLEN.out;omega)).mono ?_
 rintro e w2 ⟨A,c,rfl,ho,hx,hnw⟩
 have HO:=Lib.hid ho
 have X2:Hid (Ext w w2):=X1.out.trans hx
 clear ho hx hnw X1
 go_wp2_with fail
 refine (ST1.out _).mono ?_
 rintro e w' ⟨rfl,rfl⟩
 go_wp2_with fail
 refine (index_any w2 A c l lo _ HO.out I1.out.1 I1.out.2 (by have:=HLEN.out;omega)).mono ?_
 rintro e w2' ⟨rfl,hw2⟩
 obtain rfl:w2=w2':=hw2.symm
 go_wp2_with fail
 refine (ST2.out _).mono ?_
 rintro e w' ⟨rfl,rfl⟩
 go_wp2_with fail
 refine (index_any w2 A c l hi _ HO.out I2.out.1 I2.out.2 (by have:=HLEN.out;omega)).mono ?_
 rintro e w2' ⟨rfl,hw2⟩
 obtain rfl:w2=w2':=hw2.symm
 go_wp2_with fail
 refine (row_split (HQ.out.ext X2.out) (by have:=HLEN.out;omega) lo (by have:=LOHI.out;omega)).mono ?_
 rintro e w3 ⟨q1,q2,rfl,s1,s2,x3⟩
 have S1:Hid (RowAt w3 q1 low):=by rw [T1.out.1] at s1;exact s1
 have S2:Hid (RowAt w3 q2 R):=by rw [T1.out.2.1] at s2;exact s2
 have X3:Hid (Ext w w3):=X2.out.trans x3
 clear s1 s2 x3 X2 HO I1 I2 ST1 ST2
 go_wp2_with fail
 refine (row_split S2.out T1.out.2.2 d T2.out.2.2).mono ?_
 rintro e w4 ⟨q3,q4,rfl,s3,s4,x4⟩
 have S3:Hid (RowAt w4 q3 (st u v::mid)):=by rw [T2.out.1] at s3;exact s3
 have S4:Hid (RowAt w4 q4 (st v u::high)):=by rw [T2.out.2.1] at s4;exact s4
 have S1':Hid (RowAt w4 q1 low):=S1.out.ext x4
 have X4:Hid (Ext w w4):=X3.out.trans x4
 clear s3 s4 x4 X3 S1 S2
 go_wp2_with fail
 refine (row_split S3.out L3.out.1 1 (by simp)).mono ?_
 rintro e w5 ⟨q5,q6,rfl,s5,s6,x5⟩
 have S6:Hid (RowAt w5 q6 mid):=s6
 have S4':Hid (RowAt w5 q4 (st v u::high)):=S4.out.ext x5
 have S1'':Hid (RowAt w5 q1 low):=S1'.out.ext x5
 have X5:Hid (Ext w w5):=X4.out.trans x5
 clear s5 s6 x5 X4 S1' S3 S4
 go_wp2_with fail
 refine (row_split S4'.out L3.out.2.1 1 (by simp)).mono ?_
 rintro e w6 ⟨q7,q8,rfl,s7,s8,x6⟩
 have S8:Hid (RowAt w6 q8 high):=s8
 have R6:Hid (RowAt w6 q6 mid):=S6.out.ext x6
 have R1:Hid (RowAt w6 q1 low):=S1''.out.ext x6
 have X6:Hid (Ext w w6):=X5.out.trans x6
 clear s7 s8 x6 X5 S1'' S4' S6
 have hrs:Hid (∀ (i:Nat) p,[(q1,low),(q8,high)][i]?=some p→(w6.alloc (.cells #[.pointer q1,.pointer q8] 217)).cell? ⟨w6.heap.size,i,none⟩=some (.pointer p.1)∧RowAt (w6.alloc (.cells #[.pointer q1,.pointer q8] 217)) p.1 p.2):=by
  intro i p hp
  have hB:=Blk.new w6 217 #[.pointer q1,.pointer q8]
  match i,hp with
  | 0,hp=>simp at hp;subst hp;exact ⟨hB.cell 0,R1.out.ext (Ext.alloc _ _)⟩
  | 1,hp=>simp at hp;subst hp;exact ⟨hB.cell 1,S8.out.ext (Ext.alloc _ _)⟩
  | i+2,hp=>simp at hp
 have hfl:[(q1,low),(q8,high)].flatMap (fun z:Option Addr × List Int=>z.2)=low++high:=by simp
 go_wp2_with fail
 refine (tjoin_any (m:=2) (c:=2) [(q1,low),(q8,high)] hrs.out (by simp) rfl (by omega) (by rw [hfl];exact L3.out.2.2.1)).mono ?_
 rintro e w7 ⟨q9,rfl,s9,x7⟩
 rw [hfl] at s9
 have S9:=Lib.hid s9
 have x7':Ext w6 w7:=(Ext.alloc w6 _).trans x7
 have M7:Hid (RowAt w7 q6 mid):=R6.out.ext x7'
 have X7:Hid (Ext w w7):=X6.out.trans x7'
 clear s9 x7 x7' hrs R1 R6 S8 X6 hfl
 have HB7:Hid (Blk w7 F.fb 216 #[.map (some F.mb),F.rv n,.map (some F.eb)]):=HB0.out.chg (Chg.of_below X7.out) (by omega)
 have HR7:Hid (RootAt w7 F n p):=own_chg HR.out (Chg.of_below X7.out) (fun k hk=>by have:=own_lt HR.out hk;omega)
 have CF:=Lib.hid (cut_facts H.out HUV.out (HL.out ▸ HWAY.out))
 go_wp2_with fail
 refine (tset_any HB7.out h60.2 HR7.out HP.out.len (HV.out.ext X7.out) (by omega) M7.out L3.out.2.2.2 CF.out.1 CF.out.2.1).mono ?_
 rintro e w8 ⟨rfl,r1,p1,m1,s1,a1,a2,a3,a4,a5,a6⟩
 have hfb:=H.out.fb_ne
 have HB8:Hid (Blk w8 F.fb 216 #[.map (some F.mb),F.rv n,.map (some F.eb)]):=HB7.out.chg a6 (fun e=>hfb (by rcases e with e | e;exact .inl e;exact .inr (.inl e)))
 have hsq7:∀ k,(k=F.mb∨k=F.rb)→∀ cs,¬ Blk w7 k 296 cs:=fun k hk=>(H.out.ext X7.out).noseq k (by rcases hk with e | e;exact .inl e;exact .inr (.inl e))
 have S98:Hid (RowAt w8 q9 (low++high)):=S9.out.chg a6 hsq7
 have A1:Hid ((r1:Int)∈mks mid∧(∀ z∈mks mid,(r1:Int)≤z)∧SetR n (mks mid) r1 q6 p m p1 m1∧Chg (fun k=>k=F.mb∨k=F.rb) w7 w8):=⟨a1,a2,a3,a6⟩
 have P1:Hid (p1.length=n):=by rw [Hid,a3.len];exact HP.out.len
 have A4:=Lib.hid a4
 have A5:=Lib.hid a5
 clear a1 a2 a3 a4 a5 a6 hsq7 hfb HB7 HR7
 go_wp2_with fail
 refine (tset_any HB8.out h60.2 A4.out P1.out A5.out (by omega) S98.out L3.out.2.2.1 CF.out.2.2.1 CF.out.2.2.2).mono ?_
 rintro e w9 ⟨rfl,r2,p2,m2,s2,b1,b2,b3,b4,b5,b6⟩
 have HDEL:=Lib.hid (H.out.cutted X7.out HP.out HW.out HUV.out (HL.out ▸ HWAY.out) M7.out S98.out A1.out.1 A1.out.2.1 A1.out.2.2.1 A1.out.2.2.2 b1 b2 b3 A4.out A5.out b4 b5 b6 (u:Int) (v:Int) rfl)
 have hb9:Blk w9 F.fb 216 #[.map (some F.mb),F.rv n,.map (some F.eb)]:=HB8.out.chg b6 (by
  have:=H.out.fb_ne
  exact fun e=>this (by rcases e with e | e;exact .inl e;exact .inr (.inl e)))
 have f2:w9.cell? ⟨F.fb,2,none⟩=some (.map (some F.eb)):=hb9.cell 2
 have hl9:=hb9.lt
 have HK:Hid (∀ W,Ext w9 W→W.cell? ⟨F.fb,2,none⟩=some (.map (some F.eb))):=fun W hW=>(hW.cell (p:=⟨F.fb,2,none⟩) hl9).trans f2
 clear b1 b2 b3 b4 b5 b6 hb9 HB8 A1 A4 A5 P1 S98 S9 M7 CF X7 H HP HW HV HR HQ HL HWAY HUV HLEN HB0 HRL T1 T2 L3 LOHI z2 e9
 go_wp2
 go_region_held3 (fun w'=>w'.cell? ⟨F.fb,2,none⟩=some (.map (some F.eb))) (go_keep)
  (first
   | (go_at_call 104;refine (of_any _ (u:Int) (v:Int)).mono ?_;rintro e w10 ⟨rfl,hb10⟩;have X10:Hid (Ext w9 w10):=Ext.trans (Ext.drew _) hb10;have q10:w10.cell? ⟨F.fb,2,none⟩=some (.map (some F.eb)):=HK.out _ X10.out;obtain ⟨W2,hr2,hf2,hc2,hq2⟩:=HDEL.out _ X10.out;have HF2:=Lib.hid hf2;have HC2:=Lib.hid hc2;clear hf2 hc2 hb10)
   | (refine step_vdel _ (by rfl) (.tmp 131) (.tmp 134) 214 93 (by rfl) _ _ (by rfl) (by rfl) W2 hr2 ?_)
   | fail)
 go_wp2
 go_ret
 exact ⟨rfl,HF2.out,HC2.out⟩
set_option maxRecDepth 100000 in
theorem tcut_B (h:FoAt w F n N E) (hN:N+1 < 1000000) (u v:Nat) (huv:adj E u v) {p l low mid high:List Int} {s r:Nat} {m:Int→Option Value} {q:Option Addr} (h1:Pts n E p) (h2:RootAt w F n p) (h3:VM kI w F.mb N s m) (h4:WaysAt w n E p m)
  (hp:PD.g p v=r) (hm:m r=some (.pointer q)) (hq:RowAt w q l) (hway:TR.Way (adj E) u l) (hl:l=low++st u v::mid++st v u::high):
  Calls Tryz.prog 195 #[.pointer (some ⟨F.fb,0,none⟩),.int .i64 v,.int .i64 u] w (CutPost w F n N (cutE (AK.ek u v) E)):=by
 have h60:=h.hn
 obtain ⟨hu,hv,hne⟩:=adj_in h.fo.ok huv
 have hlen:l.length≤180:=hway.len h.fo h60.2
 have c0:w.cell? ⟨F.fb,0,none⟩=some (.map (some F.mb)):=h.blk.cell 0
 have c1:w.cell? ⟨F.fb,1,none⟩=some (.slice (some ⟨F.rb,0,none⟩) n F.c):=h.blk.cell 1
 have c2:w.cell? ⟨F.fb,2,none⟩=some (.map (some F.eb)):=h.blk.cell 2
 have e1:=root_cell h2 h1.len (a:=v) (by omega)
 rw [hp] at e1
 obtain ⟨me,k1,k2⟩:=h.edges
 have hek:AK.ek (v:Int) u=AK.ek u v:=(GMek v u)
 have hlk:∀ d os,(Instr.lookup 214 (.map (some F.eb)) (edV (AK.ek (v:Int) u)) false).run Tryz.prog (Sort.grow (redrawn w d) os)=.ok (.int .i64 1) (Sort.grow (redrawn w d) os):=fun d os=>by
  have hok:okE (AK.ek u v):=okE_of (by unfold AK.ek;simp only;omega) (by unfold AK.ek;simp only;omega)
  have:=(k1.ext (below_regrown w d os)).look Tryz.underlying214 (zeroInt _) (AK.ek u v) hok
  rw [k2 _ hok,if_pos ((adj_ek (a:=u) (b:=v) h.fo.lt hne).2 huv)] at this
  rw [hek]
  exact this
 have hlw:∀ W,Ext w W→(Instr.lookup 213 (.map (some F.mb)) (.int .i64 r) false).run Tryz.prog W=.ok (.pointer q) W:=fun W hW=>by
  have:=(h3.ext hW).look Tryz.underlying213 (zeroSeq _) (r:Int) (WalkArith.wf_i64 (by
   have:=h1.pa v (by omega)
   obtain ⟨r',q1,q2,_⟩:=this
   omega))
  rw [hm] at this
  exact this
 have hrn:r < n:=by
  obtain ⟨r',q1,q2,_⟩:=h1.pa v (by omega)
  omega
 obtain ⟨lo,hlo⟩:∃ lo,lo=low.length:=⟨_,rfl⟩
 obtain ⟨hi,hhi⟩:∃ hi,hi=low.length+1+mid.length:=⟨_,rfl⟩
 have LOHI:Hid (lo < hi∧hi < l.length):=⟨by omega,by rw [hl];simp;omega⟩
 have I1:Hid (l[lo]?=some (st u v)∧l.Nodup):=⟨by rw [hl,hlo];simp,hway.nd⟩
 have I2:Hid (l[hi]?=some (st v u)∧l.Nodup):=⟨by
  have e:hi=(low++st u v::mid).length:=by rw [hhi];simp;omega
  rw [hl,e,List.getElem?_append_right (Nat.le_refl _),Nat.sub_self];rfl,hway.nd⟩
 obtain ⟨R,hR⟩:∃ R,R=st u v::mid++st v u::high:=⟨_,rfl⟩
 have T1:Hid (l.take lo=low∧l.drop lo=R∧R.length≤400):=⟨by rw [hl,hlo];simp,by rw [hl,hlo,hR];simp,by rw [hR];rw [hl] at hlen;simp at hlen ⊢;omega⟩
 obtain ⟨d,hd⟩:∃ d,d=hi - lo:=⟨_,rfl⟩
 have T2:Hid (R.take d=st u v::mid∧R.drop d=st v u::high∧d≤R.length):=by
  have e:d=(st u v::mid).length:=by rw [hd,hlo,hhi];simp;omega
  rw [e,hR]
  exact ⟨List.take_left' rfl,List.drop_left' rfl,by simp⟩
 have L3:Hid ((st u v::mid).length≤400∧(st v u::high).length≤400∧(low++high).length≤400∧mid.length≤400):=by
  rw [hl] at hlen;simp at hlen
  exact ⟨by simp;omega,by simp;omega,by simp;omega,by omega⟩
 have N1:=Lib.hid (tnode_any h (v:Int) true (by simp;omega))
 have N2:=Lib.hid (tnode_any h (u:Int) true (by simp;omega))
 have z1:(v:Int) < (n:Int):=by omega
 have z2:(lo:Int) < (hi:Int):=by have:=LOHI.out;omega
 have zmin:min (hi:Int) (lo:Int)=(lo:Int):=by omega
 have zmax:max (hi:Int) (lo:Int)=(hi:Int):=by omega
 have e9:(hi:Int) - (lo:Int)=(d:Int):=by have:=LOHI.out;omega
 have zd:d≤400:=by have:=LOHI.out;omega
 have e10:IntKind.i64.wrap (d:Int)=(d:Int):=IntWalk.i64_in _ (by omega)
 have H:=Lib.hid h
 have HP:=Lib.hid h1
 have HW:=Lib.hid h4
 have HV:=Lib.hid h3
 have HR:=Lib.hid h2
 have HQ:=Lib.hid hq
 have HL:=Lib.hid hl
 have HWAY:=Lib.hid hway
 have HUV:=Lib.hid huv
 have HLEN:=Lib.hid hlen
 have ST1:=Lib.hid (fun W=>tstep_any W u v (by omega) (by omega))
 have ST2:=Lib.hid (fun W=>tstep_any W v u (by omega) (by omega))
 have HB0:=Lib.hid h.blk
 have hlt:=h.blk.lt
 have HRL:Hid (F.rb < w.heap.size):=own_lt h2 (by simp [FoP.rv,Value.ownBlock])
 clear h h1 h2 h3 h4 hq hway hl huv hlen k1 k2 hhi hlo hR hek hp hm hd
 go_enter Tryz.func195,Tryz.ntmps195
 go_wp2_with fail
 refine N1.out.mono ?_
 rintro e w' ⟨rfl,rfl⟩
 go_wp2_with fail
 refine N2.out.mono ?_
 rintro e w' ⟨rfl,rfl⟩
 go_wp2
 have g2:∀ d os,(Sort.grow (redrawn w d) os).cell? ⟨F.fb,2,none⟩=some (.map (some F.eb)):=fun d os=>cell_regrown c2 d os
 refine wp_region_quiet_below (by kernel_rfl) (by kernel_rfl) ?_
 repeat (go_big_quiet_step ((go_at_call 104;exact Calls.regrown_of (of_any _ (v:Int) (u:Int)))))
 refine wpQuiet_nil ?_
 intro _ hw'
 obtain ⟨⟨dq,osq⟩,hw''⟩:=hw'
 subst hw''
 have X0:Hid (Ext w (Sort.grow (redrawn w dq) osq)):=below_regrown w dq osq
 generalize Sort.grow (redrawn w dq) osq=w0 at X0 ⊢
 clear N1 N2 hlk g2 c2
 have d0:w0.cell? ⟨F.fb,0,none⟩=some (.map (some F.mb)):=(X0.out.cell (p:=⟨F.fb,0,none⟩) hlt).trans c0
 have d1:w0.cell? ⟨F.fb,1,none⟩=some (.slice (some ⟨F.rb,0,none⟩) n F.c):=(X0.out.cell (p:=⟨F.fb,1,none⟩) hlt).trans c1
 have d2:w0.cell? ⟨F.rb,v,none⟩=some (.int .i64 r):=(X0.out.cell (p:=⟨F.rb,v,none⟩) HRL.out).trans e1
 have hlw0:∀ k,(Instr.lookup 213 (.map (some F.mb)) (.int .i64 r) false).run Tryz.prog (w0.drewN k)=.ok (.pointer q) (w0.drewN k):=fun k=>hlw _ (X0.out.trans (Ext.drewN w0 k))
 clear c0 c1 e1 hlw
 go_wp2
 go_quiet (fail)
 have X1:Hid (Ext w (w0.drewN nq)):=X0.out.trans (Ext.drewN w0 nq)
 generalize w0.drewN nq=w1 at X1 ⊢
 clear d0 d1 d2 hlw0 X0
 go_wp2_with fail
 refine (row_list (HQ.out.ext X1.out) (by have:=HLEN.out;omega)).mono ?_
 rintro e w2 ⟨A,c,rfl,ho,hx,hnw⟩
 have HO:=Lib.hid ho
 have X2:Hid (Ext w w2):=X1.out.trans hx
 clear ho hx hnw X1
 go_wp2_with fail
 refine (ST2.out _).mono ?_
 rintro e w' ⟨rfl,rfl⟩
 go_wp2_with fail
 refine (index_any w2 A c l hi _ HO.out I2.out.1 I2.out.2 (by have:=HLEN.out;omega)).mono ?_
 rintro e w2' ⟨rfl,hw2⟩
 obtain rfl:w2=w2':=hw2.symm
 go_wp2_with fail
 refine (ST1.out _).mono ?_
 rintro e w' ⟨rfl,rfl⟩
 go_wp2_with fail
 refine (index_any w2 A c l lo _ HO.out I1.out.1 I1.out.2 (by have:=HLEN.out;omega)).mono ?_
 rintro e w2' ⟨rfl,hw2⟩
 obtain rfl:w2=w2':=hw2.symm
 go_wp2_with fail
 refine (row_split (HQ.out.ext X2.out) (by have:=HLEN.out;omega) lo (by have:=LOHI.out;omega)).mono ?_
 rintro e w3 ⟨q1,q2,rfl,s1,s2,x3⟩
 have S1:Hid (RowAt w3 q1 low):=by rw [T1.out.1] at s1;exact s1
 have S2:Hid (RowAt w3 q2 R):=by rw [T1.out.2.1] at s2;exact s2
 have X3:Hid (Ext w w3):=X2.out.trans x3
 clear s1 s2 x3 X2 HO I1 I2 ST1 ST2
 go_wp2_with fail
 refine (row_split S2.out T1.out.2.2 d T2.out.2.2).mono ?_
 rintro e w4 ⟨q3,q4,rfl,s3,s4,x4⟩
 have S3:Hid (RowAt w4 q3 (st u v::mid)):=by rw [T2.out.1] at s3;exact s3
 have S4:Hid (RowAt w4 q4 (st v u::high)):=by rw [T2.out.2.1] at s4;exact s4
 have S1':Hid (RowAt w4 q1 low):=S1.out.ext x4
 have X4:Hid (Ext w w4):=X3.out.trans x4
 clear s3 s4 x4 X3 S1 S2
 go_wp2_with fail
 refine (row_split S3.out L3.out.1 1 (by simp)).mono ?_
 rintro e w5 ⟨q5,q6,rfl,s5,s6,x5⟩
 have S6:Hid (RowAt w5 q6 mid):=s6
 have S4':Hid (RowAt w5 q4 (st v u::high)):=S4.out.ext x5
 have S1'':Hid (RowAt w5 q1 low):=S1'.out.ext x5
 have X5:Hid (Ext w w5):=X4.out.trans x5
 clear s5 s6 x5 X4 S1' S3 S4
 go_wp2_with fail
 refine (row_split S4'.out L3.out.2.1 1 (by simp)).mono ?_
 rintro e w6 ⟨q7,q8,rfl,s7,s8,x6⟩
 have S8:Hid (RowAt w6 q8 high):=s8
 have R6:Hid (RowAt w6 q6 mid):=S6.out.ext x6
 have R1:Hid (RowAt w6 q1 low):=S1''.out.ext x6
 have X6:Hid (Ext w w6):=X5.out.trans x6
 clear s7 s8 x6 X5 S1'' S4' S6
 have hrs:Hid (∀ (i:Nat) p,[(q1,low),(q8,high)][i]?=some p→(w6.alloc (.cells #[.pointer q1,.pointer q8] 217)).cell? ⟨w6.heap.size,i,none⟩=some (.pointer p.1)∧RowAt (w6.alloc (.cells #[.pointer q1,.pointer q8] 217)) p.1 p.2):=by
  intro i p hp
  have hB:=Blk.new w6 217 #[.pointer q1,.pointer q8]
  match i,hp with
  | 0,hp=>simp at hp;subst hp;exact ⟨hB.cell 0,R1.out.ext (Ext.alloc _ _)⟩
  | 1,hp=>simp at hp;subst hp;exact ⟨hB.cell 1,S8.out.ext (Ext.alloc _ _)⟩
  | i+2,hp=>simp at hp
 have hfl:[(q1,low),(q8,high)].flatMap (fun z:Option Addr × List Int=>z.2)=low++high:=by simp
 go_wp2_with fail
 refine (tjoin_any (m:=2) (c:=2) [(q1,low),(q8,high)] hrs.out (by simp) rfl (by omega) (by rw [hfl];exact L3.out.2.2.1)).mono ?_
 rintro e w7 ⟨q9,rfl,s9,x7⟩
 rw [hfl] at s9
 have S9:=Lib.hid s9
 have x7':Ext w6 w7:=(Ext.alloc w6 _).trans x7
 have M7:Hid (RowAt w7 q6 mid):=R6.out.ext x7'
 have X7:Hid (Ext w w7):=X6.out.trans x7'
 clear s9 x7 x7' hrs R1 R6 S8 X6 hfl
 have HB7:Hid (Blk w7 F.fb 216 #[.map (some F.mb),F.rv n,.map (some F.eb)]):=HB0.out.chg (Chg.of_below X7.out) (by omega)
 have HR7:Hid (RootAt w7 F n p):=own_chg HR.out (Chg.of_below X7.out) (fun k hk=>by have:=own_lt HR.out hk;omega)
 have CF:=Lib.hid (cut_facts H.out HUV.out (HL.out ▸ HWAY.out))
 go_wp2_with fail
 refine (tset_any HB7.out h60.2 HR7.out HP.out.len (HV.out.ext X7.out) (by omega) M7.out L3.out.2.2.2 CF.out.1 CF.out.2.1).mono ?_
 rintro e w8 ⟨rfl,r1,p1,m1,s1,a1,a2,a3,a4,a5,a6⟩
 have hfb:=H.out.fb_ne
 have HB8:Hid (Blk w8 F.fb 216 #[.map (some F.mb),F.rv n,.map (some F.eb)]):=HB7.out.chg a6 (fun e=>hfb (by rcases e with e | e;exact .inl e;exact .inr (.inl e)))
 have hsq7:∀ k,(k=F.mb∨k=F.rb)→∀ cs,¬ Blk w7 k 296 cs:=fun k hk=>(H.out.ext X7.out).noseq k (by rcases hk with e | e;exact .inl e;exact .inr (.inl e))
 have S98:Hid (RowAt w8 q9 (low++high)):=S9.out.chg a6 hsq7
 have A1:Hid ((r1:Int)∈mks mid∧(∀ z∈mks mid,(r1:Int)≤z)∧SetR n (mks mid) r1 q6 p m p1 m1∧Chg (fun k=>k=F.mb∨k=F.rb) w7 w8):=⟨a1,a2,a3,a6⟩
 have P1:Hid (p1.length=n):=by rw [Hid,a3.len];exact HP.out.len
 have A4:=Lib.hid a4
 have A5:=Lib.hid a5
 clear a1 a2 a3 a4 a5 a6 hsq7 hfb HB7 HR7
 go_wp2_with fail
 refine (tset_any HB8.out h60.2 A4.out P1.out A5.out (by omega) S98.out L3.out.2.2.1 CF.out.2.2.1 CF.out.2.2.2).mono ?_
 rintro e w9 ⟨rfl,r2,p2,m2,s2,b1,b2,b3,b4,b5,b6⟩
 have HDEL:=Lib.hid (H.out.cutted X7.out HP.out HW.out HUV.out (HL.out ▸ HWAY.out) M7.out S98.out A1.out.1 A1.out.2.1 A1.out.2.2.1 A1.out.2.2.2 b1 b2 b3 A4.out A5.out b4 b5 b6 (v:Int) (u:Int) (GMek v u))
 have hb9:Blk w9 F.fb 216 #[.map (some F.mb),F.rv n,.map (some F.eb)]:=HB8.out.chg b6 (by
  have:=H.out.fb_ne
  exact fun e=>this (by rcases e with e | e;exact .inl e;exact .inr (.inl e)))
 have f2:w9.cell? ⟨F.fb,2,none⟩=some (.map (some F.eb)):=hb9.cell 2
 have hl9:=hb9.lt
 have HK:Hid (∀ W,Ext w9 W→W.cell? ⟨F.fb,2,none⟩=some (.map (some F.eb))):=fun W hW=>(hW.cell (p:=⟨F.fb,2,none⟩) hl9).trans f2
 clear b1 b2 b3 b4 b5 b6 hb9 HB8 A1 A4 A5 P1 S98 S9 M7 CF X7 H HP HW HV HR HQ HL HWAY HUV HLEN HB0 HRL T1 T2 L3 LOHI z2 e9
 go_wp2
 go_region_held3 (fun w'=>w'.cell? ⟨F.fb,2,none⟩=some (.map (some F.eb))) (go_keep)
  (first
   | (go_at_call 104;refine (of_any _ (v:Int) (u:Int)).mono ?_;rintro e w10 ⟨rfl,hb10⟩;have X10:Hid (Ext w9 w10):=Ext.trans (Ext.drew _) hb10;have q10:w10.cell? ⟨F.fb,2,none⟩=some (.map (some F.eb)):=HK.out _ X10.out;obtain ⟨W2,hr2,hf2,hc2,hq2⟩:=HDEL.out _ X10.out;have HF2:=Lib.hid hf2;have HC2:=Lib.hid hc2;clear hf2 hc2 hb10)
   | (refine step_vdel _ (by rfl) (.tmp 131) (.tmp 134) 214 93 (by rfl) _ _ (by rfl) (by rfl) W2 hr2 ?_)
   | fail)
 go_wp2
 go_ret
 exact ⟨rfl,HF2.out,HC2.out⟩
end
end Go.Proofs.YtkoajpeabicpdaaGreatDoor
namespace Go.Proofs.YtkoajpeabicpdaaGreatDoor
open Go Go.RowKit Go.Shelf Go.Sort
def laysSort_ren:Go.Shelf.Ren:=⟨fun | 189=>92 | 125=>132 | 257=>133 | 128=>179 | 129=>180 | 294=>181 | 295=>182 | 296=>183 | 297=>184 | 298=>185 | 299=>186 | 216=>187 | 300=>188 | 301=>189 | 328=>213 | 329=>209 | 330=>210 | 331=>214 | 332=>215 | 215=>216 | 343=>231 | n=>n,fun | 28=>79 | 3=>3 | 46=>172 | 0=>0 | 51=>224 | 53=>236 | 4=>4 | 183=>257 | 182=>256 | 131=>261 | 5=>5 | 9=>9 | 218=>286 | 222=>290 | 228=>310 | 229=>311 | n=>n,fun | n=>n⟩
theorem laysSort:Go.Proofs.Lays.n189 Tryz.prog laysSort_ren:={
 mixed:=by kernel_rfl,
 f125:=Tryz.func132.trans (congrArg some (by kernel_rfl)),
 f128:=Tryz.func179.trans (congrArg some (by kernel_rfl)),
 f129:=Tryz.func180.trans (congrArg some (by kernel_rfl)),
 f189:=Tryz.func92.trans (congrArg some (by kernel_rfl)),
 f215:=Tryz.func216.trans (congrArg some (by kernel_rfl)),
 f216:=Tryz.func187.trans (congrArg some (by kernel_rfl)),
 f257:=Tryz.func133.trans (congrArg some (by kernel_rfl)),
 f294:=Tryz.func181.trans (congrArg some (by kernel_rfl)),
 f295:=Tryz.func182.trans (congrArg some (by kernel_rfl)),
 f296:=Tryz.func183.trans (congrArg some (by kernel_rfl)),
 f297:=Tryz.func184.trans (congrArg some (by kernel_rfl)),
 f298:=Tryz.func185.trans (congrArg some (by kernel_rfl)),
 f299:=Tryz.func186.trans (congrArg some (by kernel_rfl)),
 f300:=Tryz.func188.trans (congrArg some (by kernel_rfl)),
 f301:=Tryz.func189.trans (congrArg some (by kernel_rfl)),
 f328:=Tryz.func213.trans (congrArg some (by kernel_rfl)),
 f329:=Tryz.func209.trans (congrArg some (by kernel_rfl)),
 f330:=Tryz.func210.trans (congrArg some (by kernel_rfl)),
 f331:=Tryz.func214.trans (congrArg some (by kernel_rfl)),
 f332:=Tryz.func215.trans (congrArg some (by kernel_rfl)),
 f343:=Tryz.func231.trans (congrArg some (by kernel_rfl)),
 t0:=Tryz.underlying0,
 a0:=Tryz.isAgg0,
 z0:=Tryz.sizeOf0,
 v0:=Tryz.zeroValue0,
 t3:=Tryz.underlying3,
 a3:=Tryz.isAgg3,
 z3:=Tryz.sizeOf3,
 v3:=Tryz.zeroValue3,
 t4:=Tryz.underlying4,
 a4:=Tryz.isAgg4,
 z4:=Tryz.sizeOf4,
 v4:=Tryz.zeroValue4,
 t5:=Tryz.underlying5,
 a5:=Tryz.isAgg5,
 z5:=Tryz.sizeOf5,
 v5:=Tryz.zeroValue5,
 t9:=Tryz.underlying9,
 a9:=Tryz.isAgg9,
 z9:=Tryz.sizeOf9,
 v9:=Tryz.zeroValue9,
 t28:=Tryz.underlying79,
 a28:=Tryz.isAgg79,
 z28:=Tryz.sizeOf79,
 v28:=Tryz.zeroValue79,
 t46:=Tryz.underlying172,
 a46:=Tryz.isAgg172,
 z46:=Tryz.sizeOf172,
 v46:=Tryz.zeroValue172,
 t51:=Tryz.underlying224,
 a51:=Tryz.isAgg224,
 z51:=Tryz.sizeOf224,
 v51:=Tryz.zeroValue224,
 t53:=Tryz.underlying236,
 a53:=Tryz.isAgg236,
 z53:=Tryz.sizeOf236,
 v53:=Tryz.zeroValue236,
 t131:=Tryz.underlying261,
 a131:=Tryz.isAgg261,
 z131:=Tryz.sizeOf261,
 v131:=Tryz.zeroValue261,
 t182:=Tryz.underlying256,
 a182:=Tryz.isAgg256,
 z182:=Tryz.sizeOf256,
 v182:=Tryz.zeroValue256,
 t183:=Tryz.underlying257,
 a183:=Tryz.isAgg257,
 z183:=Tryz.sizeOf257,
 v183:=Tryz.zeroValue257,
 t218:=Tryz.underlying286,
 a218:=Tryz.isAgg286,
 z218:=Tryz.sizeOf286,
 v218:=Tryz.zeroValue286,
 t222:=Tryz.underlying290,
 a222:=Tryz.isAgg290,
 z222:=Tryz.sizeOf290,
 v222:=Tryz.zeroValue290,
 t228:=Tryz.underlying310,
 a228:=Tryz.isAgg310,
 z228:=Tryz.sizeOf310,
 v228:=Tryz.zeroValue310,
 t229:=Tryz.underlying311,
 a229:=Tryz.isAgg311,
 z229:=Tryz.sizeOf311,
 v229:=Tryz.zeroValue311 }
def sorted (zs:List Int):List Int:=zs.mergeSort fun x y=>decide (x≤y)
theorem sort_any (w:World) (v:Value) (n:Nat) (zs:List Int) (h:w.ownsRow 0 3 1 v n (intsV zs)) (hn:n≤1000):
  Calls Tryz.prog 92 #[v] w fun e w'=>e=.returned (.tuple #[])∧w'.ownsRow 0 3 1 v n (intsV (sorted zs))∧Chg (fun k=>v.ownBlock=some k) w w':=by
 have hl:zs.length=n:=by have:=h.1;simpa [intsV] using this
 rcases h.2 with ⟨rfl,h0⟩ | ⟨g,c,cur,rfl,_,hb,h1,h2,h3,h4⟩
 ·have hz:zs=[]:=List.eq_nil_of_length_eq_zero (by omega)
  subst hz;subst h0
  refine (calls_of_every_depth fun D=>AnyS.slices_Sort_int_none_alone laysSort D none 0 w).mono ?_
  rintro e w' ⟨rfl,rfl⟩
  exact ⟨rfl,by simpa [sorted] using h,Chg.refl _ _⟩
 ·subst hl
  have hlt:g < w.heap.size:=(Array.getElem?_eq_some_iff.1 hb).1
  have hH:Holds (Value.int .i64) w g 0 zs.toArray:=holds_of_blockI hb (by simpa [intsV] using h4)
  refine (calls_of_every_depth fun D=>AnyS.slices_Sort_int_alone laysSort D g 0 c zs w hH hlt (by omega)).mono ?_
  rintro e w' ⟨rfl,q,os,rfl⟩
  refine ⟨rfl,?_,(Chg.of_grown (grownBy_sortedI _)).mono (fun k _ hk=>by simp [Value.ownBlock];injection hk with hk;exact hk.symm)⟩
  exact ownsRow_sortedI (ss:=zs) (List.length_mergeSort zs) (Nat.zero_le _) hb h1 h2 (by simpa using h3)
theorem sorted_mem {zs:List Int} {x:Int}:x∈sorted zs↔x∈zs:=(List.mergeSort_perm zs _).mem_iff
theorem sorted_length (zs:List Int):(sorted zs).length=zs.length:=List.length_mergeSort zs
theorem sorted_rises (zs:List Int):(sorted zs).Pairwise (fun x y=>x≤y):=by
 have:=List.pairwise_mergeSort (le:=fun (x y:Int)=>decide (x≤y)) (fun a b c h1 h2=>by simp at *;omega) (fun a b=>by simp;omega) zs
 exact this.imp (fun h=>by simpa using h)
end Go.Proofs.YtkoajpeabicpdaaGreatDoor
namespace Go.Proofs.YtkoajpeabicpdaaGreatDoor
open Go Go.RowKit SQ TR DF PD
noncomputable def comp (n:Nat) (E:List AK.Ed) (a:Nat):List Int:=((List.range n).filter fun u=>by classical exact decide (Cn (adj E) a u)).map fun (x:Nat)=>(x:Int)
theorem comp_mem {n a:Nat} {E:List AK.Ed} {x:Int}:x∈comp n E a↔∃ u:Nat,u < n∧Cn (adj E) a u∧x=(u:Int):=by
 unfold comp
 rw [List.mem_map]
 constructor
 ·rintro ⟨u,hu,rfl⟩
  rw [List.mem_filter,List.mem_range] at hu
  exact ⟨u,hu.1,by simpa using hu.2,rfl⟩
 ·rintro ⟨u,h1,h2,rfl⟩
  exact ⟨u,List.mem_filter.2 ⟨List.mem_range.2 h1,by simpa using h2⟩,rfl⟩
theorem comp_up (n:Nat) (E:List AK.Ed) (a:Nat):(comp n E a).Pairwise (fun x y=>x < y):=by
 unfold comp
 rw [List.pairwise_map]
 exact (List.pairwise_lt_range.filter _).imp (fun h=>by omega)
theorem up_ext {l m:List Int} (hl:l.Pairwise (fun x y=>x < y)) (hm:m.Pairwise (fun x y=>x < y)) (h:∀ x,x∈l↔x∈m):l=m:=by
 induction l generalizing m with
 | nil=>
  cases m with
  | nil=>rfl
  | cons y m=>exact absurd ((h y).2 (List.mem_cons_self ..)) (List.not_mem_nil)
 | cons x l ih=>
  cases m with
  | nil=>exact absurd ((h x).1 (List.mem_cons_self ..)) (List.not_mem_nil)
  | cons y m=>
   rw [List.pairwise_cons] at hl hm
   have e:x=y:=by
    rcases List.mem_cons.1 ((h x).1 (List.mem_cons_self ..)) with w | w
    ·exact w
    ·rcases List.mem_cons.1 ((h y).2 (List.mem_cons_self ..)) with z | z
     ·exact z.symm
     ·have:=hl.1 y z;have:=hm.1 x w;omega
   subst e
   congr 1
   refine ih hl.2 hm.2 fun z=>⟨fun w=>?_,fun w=>?_⟩
   ·rcases List.mem_cons.1 ((h z).1 (List.mem_cons_of_mem _ w)) with q | q
    ·subst q;have:=hl.1 z w;omega
    ·exact q
   ·rcases List.mem_cons.1 ((h z).2 (List.mem_cons_of_mem _ w)) with q | q
    ·subst q;have:=hm.1 z w;omega
    ·exact q
theorem sorted_up {xs:List Int} (h:xs.Nodup):(sorted xs).Pairwise (fun x y=>x < y):=by
 have h1:=sorted_rises xs
 have h2:(sorted xs).Nodup:=(List.mergeSort_perm xs _).nodup_iff.2 h
 exact (h1.and h2).imp (fun ⟨a,b⟩=>by omega)
theorem comp_sorted {n r a:Nat} {E:List AK.Ed} {l:List Int} (h:TR.Way (adj E) r l) (hr:r < n) (hE:Fo n E) (hn:n≤60) (c:Cn (adj E) a r):sorted (mks l)=comp n E a:=by
 obtain ⟨h1,h2,h3⟩:=h.mks hr hE hn
 refine up_ext (sorted_up h1) (comp_up n E a) fun x=>?_
 rw [sorted_mem,comp_mem]
 constructor
 ·intro hx
  obtain ⟨v,v1,v2,v3⟩:=h2 x hx
  exact ⟨v,v2,c.trans v3,v1⟩
 ·rintro ⟨u,u1,u2,rfl⟩
  exact h3 u u1 (c.symm.trans u2)
section
variable {w:World} {F:FoP} {n N:Nat} {E:List AK.Ed}
theorem tcut_ok (h:FoAt w F n N E) (hN:N+1 < 1000000) (a b:Nat) (hab:adj E a b):
  Calls Tryz.prog 195 #[.pointer (some ⟨F.fb,0,none⟩),.int .i64 a,.int .i64 b] w (CutPost w F n N (cutE (AK.ek a b) E)):=by
 obtain ⟨p,s,m,h1,h2,h3,h4⟩:=h.ways
 obtain ⟨ha,hb,hne⟩:=adj_in h.fo.ok hab
 obtain ⟨r,r1,r2,r3⟩:=h1.pa a ha
 have h60:=h.hn
 have rr:g p r=r:=by rw [h1.same r3,r1]
 obtain ⟨q,l,k1,k2,k3⟩:=h4 r (by omega) rr
 have m1:st a b∈l:=k3.st a b hab r3
 have m2:st b a∈l:=k3.st b a (adj_symm hab) (r3.trans (.edge hab))
 obtain ⟨x,y,hl⟩:=List.append_of_mem m1
 have hne2:st b a≠st a b:=fun e=>hne (st_inj (by omega) (by omega) e).1.symm
 rw [hl,List.mem_append,List.mem_cons] at m2
 rcases m2 with m2 | m2 | m2
 ·obtain ⟨x1,x2,hx⟩:=List.append_of_mem m2
  have:=tcut_B h hN b a (adj_symm hab) h1 h2 h3 h4 (low:=x1) (mid:=x2) (high:=y) (r:=r) r1 k1 k2 (k3.re (r3.trans (.edge hab))) (by rw [hl,hx])
  rw [GMek b a] at this
  exact this
 ·exact absurd m2 hne2
 ·obtain ⟨y1,y2,hy⟩:=List.append_of_mem m2
  exact tcut_A h hN a b hab h1 h2 h3 h4 (low:=x) (mid:=y1) (high:=y2) (r:=r) r1 k1 k2 (k3.re r3) (by rw [hl,hy];simp)
theorem tsame_range (h:FoAt w F n N E) (a b:Int) (hr:¬ (0≤a∧a < n)∨¬ (0≤b∧b < n)):
  Calls Tryz.prog 106 #[.pointer (some ⟨F.fb,0,none⟩),.int .i64 a,.int .i64 b] w fun e w'=>e=.returned (.tuple #[.bool false,errV 1])∧w=w':=by
 by_cases ha:0≤a∧a < n
 ·have hb:¬ (0≤b∧b < n):=by omega
  have h1:=Lib.hid (tnode_any h a true (by simp [ha]))
  have h2:=Lib.hid (tnode_any h b false (by simp only [hb,decide_false]))
  clear hr ha hb h
  go_enter Tryz.func106,Tryz.ntmps106
  go_wp2_with fail
  refine h1.out.mono ?_
  rintro e w' ⟨rfl,rfl⟩
  go_wp2_with fail
  refine h2.out.mono ?_
  rintro e w' ⟨rfl,rfl⟩
  go_wp2
  go_ret2
  exact ⟨rfl,rfl⟩
 ·have h1:=Lib.hid (tnode_any h a false (by simp only [ha,decide_false]))
  clear hr ha h
  go_enter Tryz.func106,Tryz.ntmps106
  go_wp2_with fail
  refine h1.out.mono ?_
  rintro e w' ⟨rfl,rfl⟩
  go_wp2
  go_ret2
  exact ⟨rfl,rfl⟩
theorem tsame_ok (h:FoAt w F n N E) (a b:Nat) (ha:a < n) (hb:b < n) (t:Bool) (ht:t=true↔Cn (adj E) a b):
  Calls Tryz.prog 106 #[.pointer (some ⟨F.fb,0,none⟩),.int .i64 a,.int .i64 b] w fun e w'=>e=.returned (.tuple #[.bool t,.nilIface])∧Ext w w':=by
 have c1:w.cell? ⟨F.fb,1,none⟩=some (.slice (some ⟨F.rb,0,none⟩) n F.c):=h.blk.cell 1
 obtain ⟨p,s,m,h1,h2,h3,h4⟩:=h.ways
 have e1:=root_cell h2 h1.len ha
 have e2:=root_cell h2 h1.len hb
 have hg:(PD.g p a == PD.g p b)=t:=by
  rw [Bool.eq_iff_iff,beq_iff_eq,ht];exact h1.joined ha hb
 generalize PD.g p a=ra at e1 hg
 generalize PD.g p b=rb at e2 hg
 have N1:=Lib.hid (tnode_any h a true (by simp [ha]))
 have N2:=Lib.hid (tnode_any h b true (by simp [hb]))
 have z1:(a:Int) < (n:Int):=by omega
 have z2:(b:Int) < (n:Int):=by omega
 have HT:=Lib.hid hg
 clear h h1 h2 h3 h4 ht hg
 go_enter Tryz.func106,Tryz.ntmps106
 go_wp2_with fail
 refine N1.out.mono ?_
 rintro e w' ⟨rfl,rfl⟩
 go_wp2_with fail
 refine N2.out.mono ?_
 rintro e w' ⟨rfl,rfl⟩
 go_wp2
 go_quiet (fail)
 go_wp2
 go_ret2
 refine ⟨?_,Ext.drewN _ _⟩
 have ht:=HT.out
 subst ht
 first | rfl | simp
def MemPost (w:World) (xs:List Int) (e:Ending) (w':World):Prop:=∃ A c,e=.returned (.tuple #[.slice A xs.length c,.nilIface])∧w'.ownsRow 0 3 1 (.slice A xs.length c) xs.length (intsV xs)∧Ext w w'∧∀ k,(Value.slice A xs.length c).ownBlock=some k→w.heap.size≤k
theorem tmembers_range (h:FoAt w F n N E) (a:Int) (hr:¬ (0≤a∧a < n)):
  Calls Tryz.prog 123 #[.pointer (some ⟨F.fb,0,none⟩),.int .i64 a] w fun e w'=>e=.returned (.tuple #[.slice none 0 0,errV 1])∧w=w':=by
 have h1:=Lib.hid (tnode_any h a false (by simp only [hr,decide_false]))
 clear hr h
 go_enter Tryz.func123,Tryz.ntmps123
 go_wp2_with fail
 refine h1.out.mono ?_
 rintro e w' ⟨rfl,rfl⟩
 go_wp2
 go_ret2
 exact ⟨rfl,rfl⟩
set_option maxRecDepth 100000 in
theorem tmembers_ok (h:FoAt w F n N E) (a:Nat) (ha:a < n):
  Calls Tryz.prog 123 #[.pointer (some ⟨F.fb,0,none⟩),.int .i64 a] w (MemPost w (comp n E a)):=by
 have c0:w.cell? ⟨F.fb,0,none⟩=some (.map (some F.mb)):=h.blk.cell 0
 have c1:w.cell? ⟨F.fb,1,none⟩=some (.slice (some ⟨F.rb,0,none⟩) n F.c):=h.blk.cell 1
 obtain ⟨p,s,m,h1,h2,h3,h4⟩:=h.ways
 have h60:=h.hn
 obtain ⟨r,r1,r2,r3⟩:=h1.pa a ha
 have e1:=root_cell h2 h1.len ha
 rw [r1] at e1
 have rr:g p r=r:=by rw [h1.same r3,r1]
 obtain ⟨q,l,k1,k2,k3⟩:=h4 r (by omega) rr
 have hlk:∀ k,(Instr.lookup 213 (.map (some F.mb)) (.int .i64 r) false).run Tryz.prog (w.drewN k)=.ok (.pointer q) (w.drewN k):=fun k=>by
  have:=(h3.ext (Ext.drewN w k)).look Tryz.underlying213 (zeroSeq _) (r:Int) (WalkArith.wf_i64 (by omega))
  rw [k1] at this
  exact this
 have hlk1:(Instr.lookup 213 (.map (some F.mb)) (.int .i64 r) false).run Tryz.prog w.drew=.ok (.pointer q) w.drew:=by
  have:=(h3.ext (Ext.drew w)).look Tryz.underlying213 (zeroSeq _) (r:Int) (WalkArith.wf_i64 (by omega))
  rw [k1] at this
  exact this
 have hll:l.length≤400:=by have:=k3.len h.fo h60.2;omega
 have hs:sorted (mks l)=comp n E a:=comp_sorted k3 (by omega) h.fo h60.2 r3.symm
 have hlen:(mks l).length=(comp n E a).length:=by rw [←hs,sorted_length]
 have h0:0 < l.length:=by
  have:=List.length_pos_of_mem ((k3.mrk a (by omega)).2 r3);exact this
 have N1:=Lib.hid (tnode_any h a true (by simp [ha]))
 have HQ:=Lib.hid k2
 have HS:=Lib.hid hs
 have HLN:=Lib.hid hlen
 have z1:(a:Int) < (n:Int):=by omega
 have hml:(mks l).length≤l.length:=List.length_filter_le _ _
 clear h h1 h2 h3 h4 k1 k2 k3 rr r1 r2 r3 hs hlen
 go_enter Tryz.func123,Tryz.ntmps123
 go_wp2_with fail
 refine N1.out.mono ?_
 rintro e w' ⟨rfl,rfl⟩
 go_wp2
 go_still_tail 11,(by kernel_rfl)
 go_wp2_with fail
 refine (nodes_any (HQ.out.ext (Ext.drew w)) h0 hll).mono ?_
 rintro e w1 ⟨A,c,rfl,ho,hx,hnw⟩
 have HO:=Lib.hid ho
 have HX:Hid (Ext w w1):=(Ext.drew w).trans hx
 have HNW:=Lib.hid hnw
 clear ho hx hnw
 go_wp2_with fail
 refine (sort_any w1 (.slice A (mks l).length c) (mks l).length (mks l) HO.out (by omega)).mono ?_
 rintro e w2 ⟨rfl,ho,hc⟩
 have HO2:=Lib.hid ho
 have HC:=Lib.hid hc
 clear ho hc
 go_wp2
 go_ret2
 have q1:=HO2.out
 have q2:=HLN.out
 rw [HS.out,q2] at q1
 refine ⟨A,c,congrArg (fun z=>Ending.returned (.tuple #[.slice A z c,.nilIface])) q2,q1,((Chg.of_below HX.out).trans HC.out (fun i hi hs=>HNW.out i hs)).below (Nat.le_refl _) (fun _ _ h=>h),fun k hk=>HNW.out k (by rw [q2];exact hk)⟩
theorem tsize_range (h:FoAt w F n N E) (a:Int) (hr:¬ (0≤a∧a < n)):
  Calls Tryz.prog 80 #[.pointer (some ⟨F.fb,0,none⟩),.int .i64 a] w fun e w'=>e=.returned (.tuple #[.int .i64 0,errV 1])∧w=w':=by
 have h1:=Lib.hid (tmembers_range h a hr)
 clear hr h
 go_enter Tryz.func80,Tryz.ntmps80
 go_wp2_with fail
 refine h1.out.mono ?_
 rintro e w' ⟨rfl,rfl⟩
 go_wp2
 go_ret2
 exact ⟨rfl,rfl⟩
theorem tsize_ok (h:FoAt w F n N E) (a:Nat) (ha:a < n):
  Calls Tryz.prog 80 #[.pointer (some ⟨F.fb,0,none⟩),.int .i64 a] w fun e w'=>e=.returned (.tuple #[.int .i64 ((comp n E a).length:Nat),.nilIface])∧Ext w w':=by
 have h1:=Lib.hid (tmembers_ok h a ha)
 clear h
 generalize comp n E a=xs at h1 ⊢
 go_enter Tryz.func80,Tryz.ntmps80
 go_wp2_with fail
 refine h1.out.mono ?_
 rintro e w' ⟨A,c,rfl,_,hx,_⟩
 have HX:=Lib.hid hx
 clear hx
 go_wp2
 go_ret2
 exact ⟨rfl,HX.out⟩
end
end Go.Proofs.YtkoajpeabicpdaaGreatDoor
namespace Go.Proofs.YtkoajpeabicpdaaGreatDoor
open Go Go.RowKit Go.Shelf Go.Sort Go.Lib
def laysSf_ren:Go.Shelf.Ren:=⟨fun | 6=>90 | 14=>131 | 15=>132 | 20=>171 | 21=>172 | 22=>173 | 23=>174 | 24=>175 | 25=>176 | 26=>177 | 27=>178 | 28=>179 | 29=>180 | 46=>208 | 47=>209 | 48=>210 | 49=>211 | 50=>212 | 57=>230 | n=>n,fun | 0=>0 | 3=>3 | 4=>4 | 5=>5 | 9=>9 | 22=>47 | 24=>93 | 25=>158 | 39=>172 | 45=>256 | 46=>257 | 50=>261 | 53=>224 | 55=>236 | 66=>286 | 70=>290 | 76=>310 | 77=>311 | n=>n,fun | n=>n⟩
theorem laysSf:Go.Proofs.SlLaysF0.n6 Tryz.prog laysSf_ren:={
 mixed:=by kernel_rfl,
 f6:=⟨ "slices.SortFunc[[]footbridge/api.Edge,footbridge/api.Edge]",by decide,Tryz.func90.trans (congrArg some (by kernel_rfl))⟩,
 f14:=⟨ "slices.pdqsortCmpFunc[footbridge/api.Edge]",by decide,Tryz.func131.trans (congrArg some (by kernel_rfl))⟩,
 f15:=Tryz.func132.trans (congrArg some (by kernel_rfl)),
 f20:=⟨ "slices.insertionSortCmpFunc[footbridge/api.Edge]",by decide,Tryz.func171.trans (congrArg some (by kernel_rfl))⟩,
 f21:=⟨ "slices.heapSortCmpFunc[footbridge/api.Edge]",by decide,Tryz.func172.trans (congrArg some (by kernel_rfl))⟩,
 f22:=⟨ "slices.breakPatternsCmpFunc[footbridge/api.Edge]",by decide,Tryz.func173.trans (congrArg some (by kernel_rfl))⟩,
 f23:=⟨ "slices.choosePivotCmpFunc[footbridge/api.Edge]",by decide,Tryz.func174.trans (congrArg some (by kernel_rfl))⟩,
 f24:=⟨ "slices.reverseRangeCmpFunc[footbridge/api.Edge]",by decide,Tryz.func175.trans (congrArg some (by kernel_rfl))⟩,
 f25:=⟨ "slices.partialInsertionSortCmpFunc[footbridge/api.Edge]",by decide,Tryz.func176.trans (congrArg some (by kernel_rfl))⟩,
 f26:=⟨ "slices.partitionEqualCmpFunc[footbridge/api.Edge]",by decide,Tryz.func177.trans (congrArg some (by kernel_rfl))⟩,
 f27:=⟨ "slices.partitionCmpFunc[footbridge/api.Edge]",by decide,Tryz.func178.trans (congrArg some (by kernel_rfl))⟩,
 f28:=Tryz.func179.trans (congrArg some (by kernel_rfl)),
 f29:=Tryz.func180.trans (congrArg some (by kernel_rfl)),
 f46:=⟨ "slices.siftDownCmpFunc[footbridge/api.Edge]",by decide,Tryz.func208.trans (congrArg some (by kernel_rfl))⟩,
 f47:=Tryz.func209.trans (congrArg some (by kernel_rfl)),
 f48:=Tryz.func210.trans (congrArg some (by kernel_rfl)),
 f49:=⟨ "slices.medianAdjacentCmpFunc[footbridge/api.Edge]",by decide,Tryz.func211.trans (congrArg some (by kernel_rfl))⟩,
 f50:=⟨ "slices.medianCmpFunc[footbridge/api.Edge]",by decide,Tryz.func212.trans (congrArg some (by kernel_rfl))⟩,
 f57:=⟨ "slices.order2CmpFunc[footbridge/api.Edge]",by decide,Tryz.func230.trans (congrArg some (by kernel_rfl))⟩,
 t0:=Tryz.underlying0,
 a0:=Tryz.isAgg0,
 z0:=Tryz.sizeOf0,
 v0:=Tryz.zeroValue0,
 t3:=Tryz.underlying3,
 a3:=Tryz.isAgg3,
 z3:=Tryz.sizeOf3,
 v3:=Tryz.zeroValue3,
 t4:=Tryz.underlying4,
 a4:=Tryz.isAgg4,
 z4:=Tryz.sizeOf4,
 v4:=Tryz.zeroValue4,
 t5:=Tryz.underlying5,
 a5:=Tryz.isAgg5,
 z5:=Tryz.sizeOf5,
 v5:=Tryz.zeroValue5,
 t9:=Tryz.underlying9,
 a9:=Tryz.isAgg9,
 z9:=Tryz.sizeOf9,
 v9:=Tryz.zeroValue9,
 t22:=Tryz.underlying47,
 a22:=Tryz.isAgg47,
 z22:=Tryz.sizeOf47,
 v22:=Tryz.zeroValue47,
 t25:=Tryz.underlying158,
 a25:=Tryz.isAgg158,
 z25:=Tryz.sizeOf158,
 v25:=Tryz.zeroValue158,
 t39:=Tryz.underlying172,
 a39:=Tryz.isAgg172,
 z39:=Tryz.sizeOf172,
 v39:=Tryz.zeroValue172,
 t45:=Tryz.underlying256,
 a45:=Tryz.isAgg256,
 z45:=Tryz.sizeOf256,
 v45:=Tryz.zeroValue256,
 t46:=Tryz.underlying257,
 a46:=Tryz.isAgg257,
 z46:=Tryz.sizeOf257,
 v46:=Tryz.zeroValue257,
 t50:=Tryz.underlying261,
 a50:=Tryz.isAgg261,
 z50:=Tryz.sizeOf261,
 v50:=Tryz.zeroValue261,
 t53:=Tryz.underlying224,
 a53:=Tryz.isAgg224,
 z53:=Tryz.sizeOf224,
 v53:=Tryz.zeroValue224,
 t55:=Tryz.underlying236,
 a55:=Tryz.isAgg236,
 z55:=Tryz.sizeOf236,
 v55:=Tryz.zeroValue236,
 t66:=Tryz.underlying286,
 a66:=Tryz.isAgg286,
 z66:=Tryz.sizeOf286,
 v66:=Tryz.zeroValue286,
 t70:=Tryz.underlying290,
 a70:=Tryz.isAgg290,
 z70:=Tryz.sizeOf290,
 v70:=Tryz.zeroValue290,
 t76:=Tryz.underlying310,
 a76:=Tryz.isAgg310,
 z76:=Tryz.sizeOf310,
 v76:=Tryz.zeroValue310,
 t77:=Tryz.underlying311,
 a77:=Tryz.isAgg311,
 z77:=Tryz.sizeOf311,
 v77:=Tryz.zeroValue311 }
abbrev Pr:=Fin 60 × Fin 60
def unp (x:Pr):AK.Ed:=((x.1.val:Int),(x.2.val:Int))
def encP (x:Pr):List Value:=edC (unp x)
def cfP (x y:Pr):Int:=if (x.1.val:Int)=(y.1.val:Int) then (x.2.val:Int) - (y.2.val:Int) else (x.1.val:Int) - (y.1.val:Int)
def kyP (x:Pr):Int:=(x.1.val:Int) * 60+(x.2.val:Int)
theorem ltP (x y:Pr):ltOf cfP x y=decide (kyP x < kyP y):=by
 unfold ltOf cfP kyP
 congr 1
 apply propext
 have:=x.1.isLt;have:=x.2.isLt;have:=y.1.isLt;have:=y.2.isLt
 split <;> omega
theorem swoP:SWO (ltOf cfP) where
 irrefl x:=by rw [ltP];simp
 trans x y z h1 h2:=by rw [ltP] at *;simp at *;omega
 ntrans x y z h1 h2:=by rw [ltP] at *;simp at *;omega
theorem totP (x y:Pr) (h1:ltOf cfP x y=false) (h2:ltOf cfP y x=false):x=y:=by
 rw [ltP] at h1 h2
 obtain ⟨a,b⟩:=x
 obtain ⟨c,d⟩:=y
 have:=a.isLt;have:=b.isLt;have:=c.isLt;have:=d.isLt
 have h1:¬ ((a.val:Int) * 60+(b.val:Int) < (c.val:Int) * 60+(d.val:Int)):=of_decide_eq_false h1
 have h2:¬ ((c.val:Int) * 60+(d.val:Int) < (a.val:Int) * 60+(b.val:Int)):=of_decide_eq_false h2
 have e1:a=c:=Fin.ext (by omega)
 have e2:b=d:=Fin.ext (by omega)
 rw [e1,e2]
def leE (x y:AK.Ed):Bool:=decide (¬ (y.1 * 60+y.2 < x.1 * 60+x.2))
def sortedE (l:List AK.Ed):List AK.Ed:=l.mergeSort leE
theorem sortedE_mem {l:List AK.Ed} {x:AK.Ed}:x∈sortedE l↔x∈l:=(List.mergeSort_perm l _).mem_iff
theorem sortedE_length (l:List AK.Ed):(sortedE l).length=l.length:=List.length_mergeSort l
theorem sortedE_nodup {l:List AK.Ed} (h:l.Nodup):(sortedE l).Nodup:=(List.mergeSort_perm l _).nodup_iff.2 h
theorem sortedE_rises (l:List AK.Ed):(sortedE l).Pairwise (fun x y=>x.1 * 60+x.2≤y.1 * 60+y.2):=by
 have:=List.pairwise_mergeSort (le:=leE) (fun a b c h1 h2=>by simp [leE] at *;omega) (fun a b=>by simp [leE];omega) l
 exact this.imp (fun h=>by simpa [leE] using h)
theorem unp_sort (d:List Pr):(d.mergeSort fun x y=>!(ltOf cfP) y x).map unp=sortedE (d.map unp):=by
 unfold sortedE
 refine List.map_mergeSort fun a _ b _=>?_
 rw [ltP]
 show (!decide (kyP b < kyP a))=decide (¬ (kyP b < kyP a))
 rw [decide_not]
theorem pairs_of {l:List AK.Ed} (h:∀ x∈l,0≤x.1∧x.1 < 60∧0≤x.2∧x.2 < 60):∃ d:List Pr,l=d.map unp:=by
 induction l with
 | nil=>exact ⟨[],rfl⟩
 | cons x l ih=>
  obtain ⟨d,hd⟩:=ih fun y hy=>h y (List.mem_cons_of_mem _ hy)
  obtain ⟨h1,h2,h3,h4⟩:=h x (List.mem_cons_self ..)
  refine ⟨(⟨x.1.toNat,by omega⟩,⟨x.2.toNat,by omega⟩)::d,?_⟩
  rw [List.map_cons,←hd]
  congr 1
  obtain ⟨a,b⟩:=x
  simp only [unp] at *
  rw [Int.toNat_of_nonneg h1,Int.toNat_of_nonneg h3]
theorem flat_rows (d:List Pr):flatK encP 2 d.toArray=(rowsOf edC (d.map unp)).toArray:=by
 have hl:(rowsOf edC (d.map unp)).length=d.length * 2:=by rw [rowsOf_len (f:=edC) (S:=2) (fun a _=>edC_len a),List.length_map]
 refine ext_get! (by simp [hl]) fun t ht=>?_
 have ht':t < d.toArray.size * 2:=by simpa using ht
 have ht2:t < d.length * 2:=by simpa using ht'
 rw [get_flatK _ _ _ t ht']
 obtain ⟨x,hx⟩:∃ x,d[t / 2]?=some x:=⟨_,List.getElem?_eq_getElem (by omega)⟩
 have e1:d.toArray[t / 2]! = x:=by
  rw [getElem!_pos d.toArray (t / 2) (by simp;omega)]
  rw [List.getElem?_eq_getElem (by omega)] at hx
  simpa using hx
 have hx2:(d.map unp)[t / 2]?=some (unp x):=by rw [List.getElem?_map,hx];rfl
 have key:∀ v,(edC (unp x))[t % 2]?=some v→(rowsOf edC (d.map unp)).toArray[t]! = v:=fun v hv=>by
  have h1:=rowsOf_get (f:=edC) (S:=2) (fun a _=>edC_len a) hx2 hv
  rw [show t / 2 * 2+t % 2=t by omega] at h1
  rw [getElem!_pos _ t (by simpa [hl] using ht2)]
  rw [List.getElem?_eq_getElem (by omega)] at h1
  simpa using h1
 rw [e1]
 have hm:t % 2=0∨t % 2=1:=by omega
 rcases hm with hm | hm
 ·rw [key (.int .i64 (unp x).1) (by rw [hm];rfl),hm];rfl
 ·rw [key (.int .i64 (unp x).2) (by rw [hm];rfl),hm];rfl
theorem heap_laid {w:World} {g n:Nat} {os:Array Obj} {cur:Array Value} {e:TypeId} {fr:Nat × Nat} (d:Array Value) (hb:w.heap[g]?=some (.cells cur e fr)):
  (grow (putRow id (Sort.ahead w n) g 0 d) os).heap[g]?=some (.cells (putCells id 0 d cur) e fr):=by
 have hg:g < w.heap.size:=(Array.getElem?_eq_some_iff.1 hb).1
 rw [heap_grow_old _ _ (by simpa using hg)]
 simp [putRow,mapBlock,Sort.ahead,Array.getElem?_modify,hb,onCells]
theorem grown_laid {w:World} {g n:Nat} {os:Array Obj} (d:Array Value):w.grownBy (grow (putRow id (Sort.ahead w n) g 0 d) os) (some g):=by
 refine ⟨rfl,rfl,rfl,by simp,fun k hk hne=>?_⟩
 rw [heap_grow_old _ _ (by simpa using hk)]
 have:g≠k:=fun e=>hne (by rw [e])
 simp [putRow,mapBlock,Sort.ahead,Array.getElem?_modify,this]
theorem take_laid (cur:Array Value) (ts:List Value) (h:ts.length≤cur.size):(putCells id 0 ts.toArray cur).toList.take ts.length=ts:=by
 apply List.ext_getElem?
 intro j
 by_cases hj:j < ts.length
 ·rw [List.getElem?_take_of_lt hj,Array.getElem?_toList]
  simp [putCells,hj,show j < cur.size by omega]
 ·rw [List.getElem?_take_eq_none (by omega),List.getElem?_eq_none (by omega)]
theorem holds_own {w:World} {g:Nat} {cur:Array Value} {e:TypeId} {xs:List Value} (hb:w.heap[g]?=some (.cells cur e (0,0))) (ht:cur.toList.take xs.length=xs):Holds id w g 0 xs.toArray:=by
 intro j hj
 have hj':j < xs.length:=by simpa using hj
 refine ⟨?_,by simp [World.frozen?,hb]⟩
 have h1:(cur.toList.take xs.length)[j]?=xs[j]?:=by rw [ht]
 rw [List.getElem?_take_of_lt hj'] at h1
 simp only [World.cell?,hb,Nat.zero_add]
 simp only [Option.isSome_none,Bool.false_eq_true,if_false]
 rw [←Array.getElem?_toList,h1]
 simp [hj']
theorem cmp_any (x1 x2 y1 y2:Int) (h1:0≤x1∧x1 < 60) (h2:0≤x2∧x2 < 60) (h3:0≤y1∧y1 < 60) (h4:0≤y2∧y2 < 60) (W:World):
  Calls Tryz.prog 169 #[.agg #[.int .i64 x1,.int .i64 x2],.agg #[.int .i64 y1,.int .i64 y2]] W fun e w'=>e=.returned (.int .i64 (if x1=y1 then x2 - y2 else x1 - y1))∧∃ q os',w'=grow (W.drewN q) os':=by
 have e1:IntKind.i64.wrap (x1 - y1)=x1 - y1:=IntWalk.i64_in _ (by omega)
 have e4:IntKind.i64.wrap (x2 - y2)=x2 - y2:=IntWalk.i64_in _ (by omega)
 by_cases hxy:x1=y1
 ·have q:(x1 == y1)=true:=by simp [hxy]
  rw [if_pos hxy]
  clear hxy
  go_enter Tryz.func169,Tryz.ntmps169
  go_wp2
  go_ret
  exact ⟨rfl,0,_,by rw [alloc_eq_grow,alloc_eq_grow,grow_grow];rfl⟩
 ·have q:(x1 == y1)=false:=by simp [hxy]
  rw [if_neg hxy]
  clear hxy
  go_enter Tryz.func169,Tryz.ntmps169
  go_wp2
  go_ret
  exact ⟨rfl,0,_,by rw [alloc_eq_grow,alloc_eq_grow,grow_grow];rfl⟩
theorem cmpLaysP (blk off size:Nat) (w:World):CmpLays Tryz.prog 169 #[] encP 2 cfP blk off size w:=
 fun _ _ _ _ x y=>cmp_any (x.1.val:Int) (x.2.val:Int) (y.1.val:Int) (y.2.val:Int) (by have:=x.1.isLt;omega) (by have:=x.2.isLt;omega) (by have:=y.1.isLt;omega) (by have:=y.2.isLt;omega) _
theorem sortE_any (w:World) (v:Value) (l:List AK.Ed) (hf:∀ x∈l,0≤x.1∧x.1 < 60∧0≤x.2∧x.2 < 60) (hn:l.length≤100000) (h:DRow w v l):
  Calls Tryz.prog 90 #[v,.func (.func 169) #[] #[]] w fun e w'=>e=.returned (.tuple #[])∧DRow w' v (sortedE l)∧Chg (fun k=>v.ownBlock=some k) w w':=by
 obtain ⟨d,rfl⟩:=pairs_of hf
 unfold DRow at h ⊢
 rcases h.2 with ⟨rfl,h0⟩ | ⟨g,c,cur,rfl,hbase,hb,h1,h2,h3,h4⟩
 ·have hz:d=[]:=List.eq_nil_of_length_eq_zero (by simpa using h0)
  subst hz
  refine (AnyF.slices_SortFunc_none laysSf none 0 _ w).mono ?_
  rintro e w' ⟨rfl,rfl⟩
  exact ⟨rfl,by simpa [sortedE] using h,Chg.refl _ _⟩
 ·have hlt:g < w.heap.size:=(Array.getElem?_eq_some_iff.1 hb).1
  have hsz:(rowsOf edC (d.map unp)).length=(d.map unp).length * 2:=h.1
  have hH:HoldsK encP 2 w g 0 d.toArray:=by
   unfold HoldsK
   rw [flat_rows]
   exact holds_own hb (by rw [hsz];exact h4)
  have eg:∀ args w,(callFunc 169 args).run Tryz.prog w=.ok (.enter 169 args) w:=enters_of Tryz.func169 (by kernel_rfl) rfl
  have hds:d.toArray.size=(d.map unp).length:=by simp
  have hsm:d.toArray.size < 4611686018427387904:=by rw [hds];omega
  have hcon:=AnyQ.slices_SortFunc_total laysSf 2 Tryz.isAgg93 Tryz.sizeOf93 encP (fun _=>rfl) (fun x v hv=>by simp [encP,edC] at hv;rcases hv with rfl | rfl <;> rfl) cfP swoP 169 #[] g 0 c d.toArray w eg (cmpLaysP g 0 _ w) hH hlt hsm totP
  rw [hds] at hcon
  refine Calls.mono hcon ?_
  rintro e w' ⟨rfl,n,os,rfl⟩
  unfold sortWorldK putRowK
  rw [List.toList_toArray,flat_rows,unp_sort]
  have hrl:(rowsOf edC (sortedE (d.map unp))).length=(rowsOf edC (d.map unp)).length:=by
   rw [rowsOf_len (f:=edC) (S:=2) (fun a _=>edC_len a),rowsOf_len (f:=edC) (S:=2) (fun a _=>edC_len a),sortedE_length]
  refine ⟨rfl,⟨by rw [hrl,hsz,sortedE_length],.inr ⟨g,c,_,by rw [sortedE_length],hbase,heap_laid _ hb,by rw [sortedE_length];exact h1,h2,by simp [putCells,h3],?_⟩⟩,(Chg.of_grown (grown_laid _)).mono (fun k _ hk=>by simp [Value.ownBlock];injection hk with hk;exact hk.symm)⟩
  rw [sortedE_length,←hsz,←hrl]
  refine take_laid cur _ ?_
  rw [hrl,hsz,h3]
  exact Nat.mul_le_mul_right _ h1
end Go.Proofs.YtkoajpeabicpdaaGreatDoor
namespace Go.Proofs.YtkoajpeabicpdaaGreatDoor
open Go Go.RowKit SQ TR DF PD
theorem rising_any (w:World) (v:Value) (A:Option Addr) (c:Nat) (l:List AK.Ed) (hv:v=.slice A l.length c) (hf:∀ x∈l,0≤x.1∧x.1 < 60∧0≤x.2∧x.2 < 60) (hn:l.length≤100000) (h:DRow w v l):
  Calls Tryz.prog 128 #[v] w fun e w'=>e=.returned v∧DRow w' v (sortedE l)∧Chg (fun k=>v.ownBlock=some k) w w':=by
 have HS:=Lib.hid (sortE_any w v l hf hn h)
 subst hv
 clear h hf
 go_enter Tryz.func128,Tryz.ntmps128
 go_wp2_with fail
 refine HS.out.mono ?_
 rintro e w1 ⟨rfl,h1,h2⟩
 have H1:=Lib.hid h1
 have H2:=Lib.hid h2
 clear h1 h2
 go_wp2
 go_ret
 exact ⟨rfl,H1.out,H2.out⟩
theorem sorted_is {n:Nat} {d E:List AK.Ed} (hn:n≤60) (hok:∀ x∈E,0≤x.1∧x.1 < x.2∧x.2 < (n:Int)) (hup:E.Pairwise ltE) (hd:d.Nodup) (hm:∀ x,x∈d↔x∈E):sortedE d=E:=by
 have h2:(sortedE d).Nodup:=sortedE_nodup hd
 refine rises_ext (((sortedE_rises d).and h2).imp_of_mem fun {x y} hx hy h=>?_) hup fun x=>by rw [sortedE_mem,hm]
 have a1:=hok x ((hm x).1 (sortedE_mem.1 hx))
 have a2:=hok y ((hm y).1 (sortedE_mem.1 hy))
 obtain ⟨h1,hne⟩:=h
 obtain ⟨x1,x2⟩:=x
 obtain ⟨y1,y2⟩:=y
 simp only at *
 unfold ltE
 simp only
 have:¬ (x1=y1∧x2=y2):=fun w=>hne (by rw [w.1,w.2])
 omega
theorem VR.own_ne {α:Type} {k:KK α} {w:World} {b r N s:Nat} {m:α→Option Value} {d:List α} (hm:VR k w b r N s m d) {base:Nat} {e:TypeId} {size:Nat} {v:Value} {n:Nat} {xs:List Value} (h:w.ownsRow base e size v n xs):v.ownBlock≠some r:=by
 rcases h.2 with ⟨rfl,_⟩ | ⟨g,cap,cur,rfl,_,hh,_⟩
 ·simp [Value.ownBlock]
 ·intro he
  have:g=r:=by simpa [Value.ownBlock] using he
  subst this
  obtain ⟨D,left,cnt,h1,_⟩:=hm.rg
  obtain ⟨es,clock,since,seen,c0,q1,q2,q3,q4,q5,q6⟩:=h1
  rw [hh] at q5
  cases q5
def EdgesPost (w:World) (E:List AK.Ed) (e:Ending) (w':World):Prop:=∃ A c,e=.returned (.slice A E.length c)∧DRow w' (.slice A E.length c) E∧Ext w w'∧∀ j,(Value.slice A E.length c).ownBlock=some j→w.heap.size≤j
section
variable {w:World} {F:FoP} {n N:Nat} {E:List AK.Ed}
end
theorem tnew_no (w:World) (n:Int) (h:n < 1∨60 < n):Calls Tryz.prog 103 #[.int .i64 n] w fun e w'=>e=.returned (.tuple #[.pointer none,errV 1])∧w=w':=by
 by_cases h1:n < 1
 ·clear h
  go_enter Tryz.func103,Tryz.ntmps103
  go_wp2
  go_ret2
  exact ⟨rfl,rfl⟩
 ·have h2:60 < n:=by omega
  clear h
  go_enter Tryz.func103,Tryz.ntmps103
  go_wp2
  go_ret2
  exact ⟨rfl,rfl⟩
structure NwAt (w wr:World) (fb mb eb n k:Nat) (v:Value):Prop where
 blk:Blk wr fb 216 #[.map (some mb),v,.map (some eb)]
 row:wr.ownsRow 0 3 1 v k (intsV ((List.range k).map fun (x:Nat)=>(x:Int)))
 ways:∃ s m,VM kI wr mb k s m∧∀ r:Nat,r < k→∃ q,m r=some (.pointer q)∧RowAt wr q [(r:Int)]
 edges:VM kE wr eb 0 0 (fun _=>none)
 bel:Below w.heap.size w wr
 new:∀ j,v.ownBlock=some j→w.heap.size≤j
 nn:w.heap.size≤fb∧w.heap.size≤mb∧w.heap.size≤eb∧mb≠eb
theorem range_snoc (k:Nat):(List.range (k+1)).map (fun (x:Nat)=>(x:Int))=(List.range k).map (fun (x:Nat)=>(x:Int))++[(k:Int)]:=by rw [List.range_succ,List.map_append];rfl
structure NwMid (w wr:World) (fb mb eb n k:Nat) (v:Value):Prop where
 blk:Blk wr fb 216 #[.map (some mb),v,.map (some eb)]
 row:wr.ownsRow 0 3 1 v (k+1) (intsV ((List.range (k+1)).map fun (x:Nat)=>(x:Int)))
 ways:∃ s m,VM kI wr mb k s m∧∀ r:Nat,r < k→∃ q,m r=some (.pointer q)∧RowAt wr q [(r:Int)]
 edges:VM kE wr eb 0 0 (fun _=>none)
 bel:Below w.heap.size w wr
 new:∀ j,v.ownBlock=some j→w.heap.size≤j
 nn:w.heap.size≤fb∧w.heap.size≤mb∧w.heap.size≤eb∧mb≠eb
theorem NwAt.push {w wr w5:World} {fb mb eb n k g c:Nat} {v:Value} {o:Obj} (h:NwAt w wr fb mb eb n k v) (ho:w5.ownsRow 0 3 1 (.slice (some ⟨g,0,none⟩) (k+1) c) (k+1) (intsV ((List.range k).map fun (x:Nat)=>(x:Int))++[.int .i64 k]))
  (hc:Chg (fun j=>v.ownBlock=some j) (wr.alloc o) w5) (hat:v.ownBlock=some g∨g=(wr.alloc o).heap.size):
  Blk w5 fb 216 #[.map (some mb),v,.map (some eb)]∧NwMid w (w5.setCell ⟨fb,1,none⟩ (.slice (some ⟨g,0,none⟩) (k+1) c)) fb mb eb n k (.slice (some ⟨g,0,none⟩) (k+1) c):=by
 obtain ⟨s,m,h1,h2⟩:=h.ways
 have nfb:=own_ne h.row h.blk (by decide)
 have nmb:=h1.own_ne h.row
 have neb:=h.edges.own_ne h.row
 have hfm:fb≠mb:=h1.blk_ne h.blk
 have hfe:fb≠eb:=h.edges.blk_ne h.blk
 have hb5:Blk w5 fb 216 #[.map (some mb),v,.map (some eb)]:=(h.blk.alloc o).chg hc nfb
 have hgf:g≠fb:=by
  rintro rfl
  rcases hat with hat | hat
  ·exact nfb hat
  ·have:=h.blk.lt;simp at hat;omega
 have hal:Chg (fun _=>False) wr (wr.alloc o):=(Chg.refl _ _).alloc o
 refine ⟨hb5,⟨hb5.set_ 1 _,?_,⟨s,m,(((h1.chg hal (fun x=>x)).chg hc nmb).chg (chg_at _ _ _ _) (fun e=>hfm e.symm)),fun r hr=>?_⟩,((h.edges.chg hal (fun x=>x)).chg hc neb).chg (chg_at _ _ _ _) (fun e=>hfe e.symm),?_,?_,h.nn⟩⟩
 ·rw [range_snoc]
  have:intsV ((List.range k).map (fun (x:Nat)=>(x:Int))++[(k:Int)])=intsV ((List.range k).map fun (x:Nat)=>(x:Int))++[.int .i64 k]:=by simp [intsV]
  rw [this]
  exact own_chg ho (chg_at w5 fb 1 _) (fun j hj e=>by
   have:g=j:=by simpa [Value.ownBlock] using hj
   exact hgf (this.trans e))
 ·obtain ⟨q,q1,q2⟩:=h2 r hr
  refine ⟨q,q1,((q2.chg hal (fun _ h=>absurd h (fun x=>x))).chg hc (fun j hj cs hb=>?_)).chg (chg_at w5 fb 1 _) (fun j hj cs hb=>?_)⟩
  ·rcases h.row.2 with ⟨rfl,_⟩ | ⟨g',cap,cur,rfl,_,hh,_⟩
   ·simp [Value.ownBlock] at hj
   ·have e:g'=j:=by simpa [Value.ownBlock] using hj
    subst e
    exact Blk.ne_ (t:=3) (Blk.alloc hh o) hb (by decide) rfl
  ·subst hj;exact Blk.ne_ hb5 hb (by decide) rfl
 ·exact (((Chg.of_below (h.bel.alloc h.bel.size o)).trans hc (fun i hi hs=>h.new i hs)).setCell (p:=⟨fb,1,none⟩) (fun _=>h.nn.1) _).below (Nat.le_refl _) (fun _ _ h=>h)
 ·intro j hj
  have:g=j:=by simpa [Value.ownBlock] using hj
  subst this
  rcases hat with hat | hat
  ·exact h.new _ hat
  ·have:=h.bel.size;simp at hat;omega
theorem NwMid.next {w wr w8:World} {fb mb eb n k:Nat} {v:Value} {q:Option Addr} (h:NwMid w wr fb mb eb n k v) (hx:Ext wr w8) (hq:RowAt w8 q [(k:Int)]) (hk:k < 60):
  Blk w8 fb 216 #[.map (some mb),v,.map (some eb)]∧∃ w9,(Instr.mapUpdate 213 (.map (some mb)) (.int .i64 k) (.pointer q)).run Tryz.prog w8=.ok () w9∧NwAt w w9 fb mb eb n (k+1) v:=by
 obtain ⟨s,m,h1,h2⟩:=h.ways
 have hb8:Blk w8 fb 216 #[.map (some mb),v,.map (some eb)]:=h.blk.chg (Chg.of_below hx) (by have:=h.blk.lt;omega)
 have hv8:=h1.ext hx
 have hfm:fb≠mb:=h1.blk_ne h.blk
 obtain ⟨w9,hr,hv9,hc9,hs9⟩:=hv8.put Tryz.underlying213 (by omega) (k:Int) (WalkArith.wf_i64 (by omega)) (.pointer q)
 have row8:=own_chg h.row (Chg.of_below hx) (fun j hj=>by have:=own_lt h.row hj;omega)
 have nmb:=hv8.own_ne row8
 have noseq:∀ j,j=mb→∀ cs,¬ Blk w8 j 296 cs:=fun j hj cs hb=>by subst hj;exact hv8.blk_ne hb rfl
 refine ⟨hb8,w9,hr,⟨hb8.chg hc9 hfm,own_chg row8 hc9 (fun j hj e=>nmb (by rw [hj,e])),⟨_,_,hv9,fun r hr=>?_⟩,(h.edges.ext hx).chg hc9 (fun e=>h.nn.2.2.2 e.symm),?_,h.new,h.nn⟩⟩
 ·by_cases e:r=k
  ·subst e
   exact ⟨q,by simp [updV],hq.chg hc9 noseq⟩
  ·obtain ⟨q',q1,q2⟩:=h2 r (by omega)
   exact ⟨q',by rw [updV,if_neg (by omega)];exact q1,(q2.ext hx).chg hc9 noseq⟩
 ·have b8:Below w.heap.size w w8:=h.bel.trans (Below.mono hx h.bel.size)
  exact ((Chg.of_below b8).trans hc9 (fun i hi e=>by have:=h.nn;omega)).below (Nat.le_refl _) (fun _ _ h=>h)
def NewPost (w:World) (n:Nat) (e:Ending) (w':World):Prop:=∃ F:FoP,e=.returned (.tuple #[.pointer (some ⟨F.fb,0,none⟩),.nilIface])∧FoAt w' F n n []∧Ext w w'∧w.heap.size≤F.fb∧∀ k,F.S k→w.heap.size≤k
theorem NwAt.post {w wr:World} {fb mb eb n:Nat} {v:Value} (h:NwAt w wr fb mb eb n n v) (hn:1≤n∧n≤60):∃ F:FoP,F.fb=fb∧FoAt wr F n n []∧Ext w wr∧w.heap.size≤F.fb∧∀ k,F.S k→w.heap.size≤k:=by
 obtain ⟨g,c,rfl,hc,_⟩:=own_form h.row hn.1
 have h0:∀ u v,¬ adj [] u v:=fun u v e=>by simp [adj] at e
 have one:∀ {x y},Cn (adj []) x y→x=y:=fun c=>c.into (R:=fun x y=>x=y) (fun _=>rfl) (fun u v e=>absurd e (h0 u v)) (fun _ _ h=>h.symm) (fun _ _ _ h k=>h.trans k)
 have gk:∀ v,v < n→PD.g ((List.range n).map fun (x:Nat)=>(x:Int)) v=(v:Int):=fun v hv=>by simp [PD.g,List.getD_eq_getElem?_getD,hv]
 refine ⟨⟨fb,mb,g,eb,c⟩,rfl,⟨h.blk,hn,Fo.nil n,h.nn.2.2.2,⟨(List.range n).map fun (x:Nat)=>(x:Int),?_⟩,⟨fun _=>none,h.edges.mono (Nat.zero_le _),fun x _=>by simp⟩⟩,h.bel,h.nn.1,?_⟩
 ·obtain ⟨s,m,h1,h2⟩:=h.ways
  refine ⟨s,m,⟨by simp,fun v hv=>⟨v,gk v hv,Nat.le_refl _,.refl _⟩,fun u v e=>absurd e (h0 u v)⟩,h.row,h1,fun r hr _=>?_⟩
  obtain ⟨q,q1,q2⟩:=h2 r hr
  exact ⟨q,[(r:Int)],q1,q2,TR.Way.one (by omega) (fun x=>h0 r x) (fun x y e=>adj_symm e)⟩
 ·rintro k (rfl | rfl | rfl)
  ·exact h.nn.2.1
  ·exact h.new _ (by simp [Value.ownBlock])
  ·exact h.nn.2.2.1
set_option maxRecDepth 100000 in
theorem tnew_ok (w:World) (n:Nat) (hn:1≤n∧n≤60):Calls Tryz.prog 103 #[.int .i64 n] w (NewPost w n):=by
 have hmm:=@run_makeMap Tryz.prog
 have z1:¬ (n:Int) < 1:=by omega
 have z2:¬ (60:Int) < (n:Int):=by omega
 go_enter Tryz.func103,Tryz.ntmps103
 go_wp2
 go_loopw [20] (fun v20 wr=>∃ (k:Nat) (v:Value),k≤n∧v20=.int .i64 k∧Hid (NwAt w wr (w.heap.size+2) w.heap.size (w.heap.size+1) n k v)) (fun v20 _=>n - (intOf v20).toNat)
 case atStart=>
  refine ⟨0,.slice none 0 0,by omega,rfl,?_,World.ownsRow_nil _ _ _ _,⟨0,fun _=>none,?_,fun r hr=>by omega⟩,?_,?_,fun j hj=>by simp [Value.ownBlock] at hj,by omega⟩
  ·have:=Blk.new ((w.alloc (.map #[] 0)).alloc (.map #[] 0)) 216 #[.map (some w.heap.size),.slice none 0 0,.map (some (w.heap.size+1))]
   simpa using this
  ·exact ((VM.made kI w).ext ((Below.refl _ _).alloc (Nat.le_refl _) _)).ext ((Below.refl _ _).alloc (Nat.le_refl _) _)
  ·have:=(VM.made kE (w.alloc (.map #[] 0))).ext ((Below.refl _ _).alloc (Nat.le_refl _) (.cells #[.map (some w.heap.size),.slice none 0 0,.map (some (w.heap.size+1))] 216))
   simpa using this
  ·exact (((Below.refl _ _).alloc (Nat.le_refl _) _).alloc (by simp) _).alloc (by simp;omega) _
 case round=>
  obtain ⟨k,v,hk,rfl,HR⟩:=hrel
  have d0:wr.cell? ⟨w.heap.size+2,0,none⟩=some (.map (some w.heap.size)):=HR.out.blk.cell 0
  have d1:wr.cell? ⟨w.heap.size+2,1,none⟩=some v:=HR.out.blk.cell 1
  by_cases hlt:k < n
  ·obtain ⟨A,c,hv,_⟩:=own_slice' HR.out.row
   subst hv
   have z0:(k:Int) < (n:Int):=by omega
   have hbl:=HR.out.blk.lt
   have g1:∀ o,(wr.alloc o).cell? ⟨w.heap.size+2,1,none⟩=some (.slice A k c):=fun o=>(HR.out.blk.alloc o).cell 1
   go_wp2_with (at_builtin;refine wpList_push _ rfl (.tmp 27) (.tmp 29) 79 rfl 3 (.int .i64 0) 8 Tryz.underlying79 infoI rfl (.slice A k c) k (intsV ((List.range k).map fun (x:Nat)=>(x:Int))) rfl (own_chg HR.out.row ((Chg.refl (fun _=>False) _).alloc _) (fun _ _ h=>h)) ⟨by omega,by omega⟩ (.int .i64 k) wr.heap.size rfl (cell_new1 rfl _ _) rfl ?_;intro g5 c5 w5 ho5 hc5 hat5 _;have HP:=Lib.hid (HR.out.push ho5 hc5 hat5);have q1:w5.cell? ⟨w.heap.size+2,1,none⟩=some (.slice A k c):=HP.out.1.cell 1;have q2:w5.frozen? ⟨w.heap.size+2,1,none⟩=false:=HP.out.1.frozen 1;clear ho5 hc5 hat5)
   have HM:=Lib.hid HP.out.2
   clear HP q1 q2
   generalize hw6:w5.setCell ⟨w.heap.size+2,1,none⟩ (.slice (some ⟨g5,0,none⟩) (k+1) c5)=w6 at HM ⊢
   have h6:w5.heap.size=w6.heap.size:=by rw [←hw6];simp [World.setCell]
   clear hw6
   rw [h6]
   clear h6
   refine (row_of (n:=1) (c:=1) (ints_one _ _ _) rfl (by omega)).mono ?_
   rintro e w8 ⟨q,rfl,s8,x8⟩
   have X8:Hid (Ext w6 w8):=(Ext.alloc w6 _).trans x8
   have HN:=Lib.hid (HM.out.next X8.out s8 (by omega))
   have f0:w8.cell? ⟨w.heap.size+2,0,none⟩=some (.map (some w.heap.size)):=HN.out.1.cell 0
   obtain ⟨w9,hput,hnw⟩:=HN.out.2
   have HW:=Lib.hid hnw
   clear s8 x8 hnw HN d0 d1 g1
   go_wp2
   go_roundw
   case rel=>exact ⟨k+1,_,by omega,by go_num,HW⟩
   case measure=>simp [intOf];omega
  ·obtain rfl:k=n:=by omega
   go_wp2
   go_ret2
   obtain ⟨F,hF,a1,a2,a3,a4⟩:=HR.out.post hn
   exact ⟨F,congrArg (fun z=>Ending.returned (.tuple #[.pointer (some ⟨z,0,none⟩),.nilIface])) hF.symm,a1,a2,a3,a4⟩
end Go.Proofs.YtkoajpeabicpdaaGreatDoor
