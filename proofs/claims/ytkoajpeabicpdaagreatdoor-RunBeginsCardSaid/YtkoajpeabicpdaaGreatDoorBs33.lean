/-
Towards GraphPlays: graph's Has; the references' SizeOf; parts of a graph, counted and measured. Conditions: the graph lies as 'GrM' says, the row as 'NRow'.
-/
import Derived.Test.YtkoajpeabicpdaaGreatDoorBs21
import Derived.Test.YtkoajpeabicpdaaGreatDoorBs31
import Derived.Test.YtkoajpeabicpdaaGreatDoorBs32
import Derived.Test.YtkoajpeabicpdaaGreatDoorBs30
import Derived.Deep.RegionHeld3
import Derived.Test.YtkoajpeabicpdaaGreatDoorBs23
import Derived.Test.YtkoajpeabicpdaaGreatDoorBs29
import Derived.Test.YtkoajpeabicpdaaGreatDoorBs10
import Derived.Deep.DeepCutAuto
set_option linter.unusedVariables false
set_option maxHeartbeats 8000000
namespace Go.Proofs.YtkoajpeabicpdaaGreatDoor
open Go Go.RowKit SQ TR DF PD PT
section
variable {w w':World} {G:GrP} {n N:Nat} {A:List AK.Ed} {f:AK.Ed→GM.St} {Es:Nat→List AK.Ed}
theorem gr_prs (hok:∀ x∈A,0≤x.1∧x.1 < x.2∧x.2 < (n:Int)) (x y:Nat):adj A x y↔(x,y)∈prs A∨(y,x)∈prs A:=by
 have key:∀ x y:Nat,((x:Int),(y:Int))∈A↔(x,y)∈prs A:=fun x y=>by
  unfold prs
  rw [List.mem_map]
  constructor
  ·intro h;exact ⟨_,h,by simp⟩
  ·rintro ⟨z,hz,e⟩
   have:=hok z hz
   have e1:=congrArg Prod.fst e
   have e2:=congrArg Prod.snd e
   simp only at e1 e2
   have:z=((x:Int),(y:Int)):=Prod.ext (by simp only;omega) (by simp only;omega)
   rwa [←this]
 unfold adj
 rw [key,key]
theorem gr_inn (hok:∀ x∈A,0≤x.1∧x.1 < x.2∧x.2 < (n:Int)):Inn n A:=fun x hx=>by have:=hok x hx;omega
theorem gparts_cn (hok:∀ x∈A,0≤x.1∧x.1 < x.2∧x.2 < (n:Int)) {p:List Nat} (hp:IsParts n (prs A) p) {x y v u:Nat} (hx:p[x]?=some v) (hy:p[y]?=some u):v=u↔Cn (adj A) x y:=
 (hp.rel hx hy).trans (con_iff (gr_prs hok) x y)
theorem gsize_cnt (hok:∀ x∈A,0≤x.1∧x.1 < x.2∧x.2 < (n:Int)) {p:List Nat} (hp:IsParts n (prs A) p) {x v:Nat} (hv:p[x]?=some v):PD.cnt (fun i=>decide (p[i]?=some v)) n=(comp n A x).length:=by
 rw [comp_sz]
 unfold GM.sz
 refine cnt_congr fun i hi=>?_
 obtain ⟨u,hu,_⟩:=hp.get hi
 simp only [decide_eq_true_eq]
 rw [hu,←gparts_cn hok hp hv hu]
 exact ⟨fun e=>(Option.some.inj e).symm,fun e=>by rw [e]⟩
end
theorem sizeOf_any (w:World) (g c n:Nat) (p:List Nat) (hp:NRow w (.slice (some ⟨g,0,none⟩) n c) n p) (x v:Nat) (hx:x < n) (hv:p[x]?=some v) (hnb:n≤1000000):
  Calls Tryz.prog 52 #[.slice (some ⟨g,0,none⟩) n c,.int .i64 x] w fun e w'=>e=.returned (.int .i64 (PD.cnt (fun i=>decide (p[i]?=some v)) n:Nat))∧Ext w w':=by
 have hpi:=natv_ints hp
 have HP:=Lib.hid hp
 have HN:=Lib.hid hpi.2
 have HV:=Lib.hid hv
 have hgb:g < w.heap.size:=own_lt (k:=g) hp (by simp [Value.ownBlock])
 have HC:Hid (∀ W,Ext w W→∀ k u,k < n→p[k]?=some u→W.cell? ⟨g,k,none⟩=some (.int .i64 (u:Nat))):=fun W hW k u hk hu=>(hW.cell (p:=⟨g,k,none⟩) hgb).trans (nrow_cell HP.out hu hk)
 clear hp hpi hv
 go_enter Tryz.func52,Tryz.ntmps52
 go_wp2
 go_loopw [5,6] (fun v5 v6 wr=>∃ (k s:Nat),k≤n∧s≤k∧v5=.int .i64 s∧v6=.int .i64 k∧Hid (s=PD.cnt (fun i=>decide (p[i]?=some v)) k∧Ext w wr)) (fun _ v6 _=>n - (intOf v6).toNat)
 case atStart=>exact ⟨0,0,Nat.zero_le _,Nat.le_refl _,rfl,rfl,rfl,Ext.refl _⟩
 case round=>
  obtain ⟨k,s,hk,hs,rfl,rfl,hR⟩:=hrel
  by_cases hlt:k < n
  ·obtain ⟨u,hu⟩:∃ u,p[k]?=some u:=⟨_,List.getElem?_eq_getElem (by rw [HN.out];exact hlt)⟩
   have q1:=HC.out wr hR.out.2 k u hlt hu
   have q2:=HC.out wr hR.out.2 x v hx HV.out
   have z0:(0:Int)≤(k:Int):=by omega
   have z1:(k:Int) < (n:Int):=by omega
   have z2:(x:Int) < (n:Int):=by omega
   have hst:PD.cnt (fun i=>decide (p[i]?=some v)) (k+1)=PD.cnt (fun i=>decide (p[i]?=some v)) k+if u=v then 1 else 0:=by
    simp [PD.cnt,hu]
   have HS:=Lib.hid hst
   clear hu hst
   by_cases e:u=v
   ·subst e
    have HZ:Hid (s+1=PD.cnt (fun i=>decide (p[i]?=some u)) (k+1)∧∀ nq,Ext w (wr.drewN nq)):=⟨by rw [HS.out,if_pos rfl,hR.out.1],fun nq=>hR.out.2.trans (Ext.drewN wr nq)⟩
    clear hR HS
    go_wp2
    go_quiet (fail)
    go_wp2
    go_roundw
    case rel=>exact ⟨k+1,s+1,by omega,by omega,by go_num,by go_num,HZ.out.1,HZ.out.2 _⟩
    case measure=>simp [intOf];omega
   ·have q:((u:Int) == (v:Int))=false:=by simp;omega
    have HZ:Hid (s=PD.cnt (fun i=>decide (p[i]?=some v)) (k+1)∧∀ nq,Ext w (wr.drewN nq)):=⟨by rw [HS.out,if_neg e,hR.out.1];rfl,fun nq=>hR.out.2.trans (Ext.drewN wr nq)⟩
    clear hR e HS
    go_wp2
    go_quiet (fail)
    go_wp2
    go_roundw
    case rel=>exact ⟨k+1,s,by omega,by omega,rfl,by go_num,HZ.out.1,HZ.out.2 _⟩
    case measure=>simp [intOf];omega
  ·obtain rfl:n=k:=by omega
   have HE:=Lib.hid hR.out
   clear hR
   go_wp2
   go_ret
   exact ⟨ret_i (by rw [HE.out.1]),HE.out.2⟩
theorem pinD {l:List AK.Ed} {x:AK.Ed} (h:x∈l):∃ j:Nat,RF.placeV (RF.place l x)=(j:Int)∧l[j]?=some x:=by
 cases e:RF.place l x with
 | none=>exact absurd h (RF.place_mem.1 e)
 | some i=>exact ⟨i,rfl,RF.place_get e⟩
theorem poutD {l:List AK.Ed} {x:AK.Ed} (h:x ∉ l):RF.placeV (RF.place l x)=-1:=by
 rw [RF.place_mem.2 h];rfl
structure RdS (w wr:World) (n:Nat) (A:List AK.Ed) (Ax:Option Addr) (cx:Nat) (vO:Value) (xs:List Bool):Prop where
 ed:EdsAt wr Ax A
 cap:A.length≤cx∧cx≤maxLen
 ok:∀ x∈A,0≤x.1∧x.1 < x.2∧x.2 < (n:Int)
 up:A.Pairwise ltE
 row:wr.ownsRow 0 4 1 vO xs.length (bolV xs)
 new:∀ j,vO.ownBlock=some j→w.heap.size≤j
 off:A≠[]→∀ x,Ax=some x→vO.ownBlock≠some x.block
 ext:Ext w wr
 bk:A≠[]→∀ x,Ax=some x→∃ cs,Blk wr x.block 93 cs
section
variable {w wr w' W w5:World} {n cx c4:Nat} {A L:List AK.Ed} {Ax A4:Option Addr} {vO:Value} {xs:List Bool}
theorem RdS.moved (h:RdS w wr n A Ax cx vO xs) (hx:Ext wr w'):RdS w w' n A Ax cx vO xs:=
 ⟨h.ed.ext hx,h.cap,h.ok,h.up,own_chg h.row (Chg.of_below hx) (fun k hk=>by have:=own_lt h.row hk;omega),h.new,h.off,h.ext.trans hx,fun hne x hA=>by
  obtain ⟨cs,hb⟩:=h.bk hne x hA
  exact ⟨cs,hb.chg (Chg.of_below hx) (by have:=hb.lt;omega)⟩⟩
theorem RdS.put (h:RdS w wr n A Ax cx vO xs) (hx:Ext wr w') (hd:DRow w' (.slice A4 L.length c4) L) (hn:∀ j,(Value.slice A4 L.length c4).ownBlock=some j→wr.heap.size≤j) (hok:∀ x∈L,0≤x.1∧x.1 < x.2∧x.2 < (n:Int)) (hup:L.Pairwise ltE):RdS w w' n L A4 c4 vO xs:=by
 have m:=h.moved hx
 have hed:=DRow.eds hd rfl
 refine ⟨hed.1,⟨hed.2,own_capmax (show w'.ownsRow 0 93 2 (.slice A4 L.length c4) L.length (rowsOf edC L) from hd)⟩,hok,hup,m.row,m.new,fun hne x hA e=>?_,m.ext,fun hne x hA=>own_blkB (show w'.ownsRow 0 93 2 (.slice A4 L.length c4) L.length (rowsOf edC L) from hd) (by subst hA;rfl)⟩
 have h1:=own_lt h.row e
 have h2:=hn x.block (by subst hA;rfl)
 omega
end
section
variable {w wr w' W w5:World} {n cx c q g:Nat} {A:List AK.Ed} {Ax:Option Addr} {vO:Value} {xs:List Bool} {b:Bool}
theorem RdS.rowq (h:RdS w wr n A Ax cx vO xs) (hq:xs.length=q):wr.ownsRow 0 4 1 vO q (bolV xs):=by subst hq;exact h.row
theorem RdS.push (h:RdS w wr n A Ax cx vO xs) (hq:xs.length=q) (hW:Ext wr W) (ho:w5.ownsRow 0 4 1 (.slice (some ⟨g,0,none⟩) (q+1) c) (q+1) (bolV xs++[.bool b])) (hc:Chg (fun j=>vO.ownBlock=some j) W w5) (hat:vO.ownBlock=some g∨g=W.heap.size):
  RdS w w5 n A Ax cx (.slice (some ⟨g,0,none⟩) (q+1) c) (xs++[b]):=by
 subst hq
 have m:=h.moved hW
 refine ⟨m.ed.chg hc (fun hne x hA=>m.off hne x hA),m.cap,m.ok,m.up,?_,fun j hj=>?_,fun hne x hA e=>?_,m.ext.chg_new hc (fun k hk=>h.new k hk),fun hne x hA=>by
  obtain ⟨cs,hb⟩:=m.bk hne x hA
  exact ⟨cs,hb.chg hc (fun e=>own_ne m.row hb (by decide) e)⟩⟩
 ·unfold bolV at ho ⊢
  rw [List.length_append,List.map_append]
  exact ho
 ·obtain rfl:g=j:=by simpa [Value.ownBlock] using hj
  rcases hat with hat | hat
  ·exact h.new _ hat
  ·have:=m.ext.size;omega
 ·have e2:g=x.block:=by simpa [Value.ownBlock] using e
  rcases hat with hat | hat
  ·exact h.off hne x hA (by rw [hat,e2])
  ·rcases h.ed with h0 | ⟨b0,o,he,hb,_⟩
   ·exact hne h0
   ·rw [he] at hA;injection hA with hA;subst hA
    have:=hW.size
    simp only at e2
    omega
end
def RdPost (w:World) (n:Nat) (A:List AK.Ed) (l:List AK.Ev) (Ax:Option Addr) (cx:Nat) (e:Ending) (w':World):Prop:=
 (∃ k:Nat,((120 < l.length∧k=3)∨(l.length≤120∧∃ i V x y,DS.Okay n l A i∧l[i]?=some (⟨V,x,y⟩:AK.Ev)∧DS.flt n (DS.run n l A i).1 V x y=k∧k≠0))∧e=.returned (.tuple #[.slice none 0 0,.slice Ax A.length cx,.int .i64 k])∧Ext w w')∨
 (l.length≤120∧DS.Okay n l A l.length∧∃ Ao co An cn,e=.returned (.tuple #[.slice Ao (DS.run n l A l.length).2.length co,.slice An (DS.run n l A l.length).1.length cn,.int .i64 0])∧RdS w w' n (DS.run n l A l.length).1 An cn (.slice Ao (DS.run n l A l.length).2.length co) (DS.run n l A l.length).2)
set_option maxRecDepth 100000 in
theorem rdo_any (w:World) (n:Nat) (Ax:Option Addr) (cx:Nat) (A:List AK.Ed) (hE:EdsAt w Ax A) (hcap:A.length≤cx∧cx≤maxLen) (hd:DkE n A) (hbk:A≠[]→∀ x,Ax=some x→∃ cs,Blk w x.block 93 cs) (Ae:Option Addr) (m ce:Nat) (l:List AK.Ev) (hl:l.length=m) (hEv:EvRow w Ae l):
  Calls Tryz.prog 97 #[.int .i64 n,.slice Ax A.length cx,.slice Ae m ce] w (RdPost w n A l Ax cx):=by
 have HL:=Lib.hid hl
 by_cases hm:120 < m
 ·have HP:Hid (∀ W,Ext w W→RdPost w n A l Ax cx (.returned (.tuple #[.slice none 0 0,.slice Ax A.length cx,.int .i64 ((3:Nat):Int)])) W):=fun W hW=>.inl ⟨3,.inl ⟨by omega,rfl⟩,rfl,hW⟩
  have zm:(120:Int) < (m:Int):=by omega
  clear hE hd hEv hl
  go_enter Tryz.func97,Tryz.ntmps97
  go_wp2
  go_ret3
  exact HP.out _ (Ext.refl _)
 have hn60:=hd.hn
 have hA200:=hd.le
 have R0:Hid (DS.Okay n l A 0∧RdS w w n (DS.run n l A 0).1 Ax cx (.slice none 0 0) (DS.run n l A 0).2):=⟨DS.Okay.zero _ _ _,⟨hE,hcap,hd.ok,hd.up,World.ownsRow_nil _ _ _ _,fun j hj=>by simp [Value.ownBlock] at hj,fun _ x _ h=>by simp [Value.ownBlock] at h,Ext.refl _,hbk⟩⟩
 have HEV:=Lib.hid hEv
 have zm:¬ (120:Int) < (m:Int):=by omega
 clear hE hd hEv hl hbk
 go_enter Tryz.func97,Tryz.ntmps97
 go_wp2
 go_loopw [9,10,11] (fun v9 v10 v11 wr=>∃ (i q p:Nat) (Ao:Option Addr) (co:Nat) (An:Option Addr) (cn:Nat),i≤m∧q≤i∧p≤200∧v11=.int .i64 i∧v10=.slice Ao q co∧v9=.slice An p cn∧Hid ((DS.run n l A i).1.length=p∧(DS.run n l A i).2.length=q∧DS.Okay n l A i∧RdS w wr n (DS.run n l A i).1 An cn (.slice Ao q co) (DS.run n l A i).2)) (fun _ _ v11 _=>m - (intOf v11).toNat)
 case atStart=>exact ⟨0,0,A.length,none,0,Ax,cx,Nat.zero_le _,Nat.le_refl _,hA200,rfl,rfl,rfl,rfl,rfl,R0.out⟩
 case round=>
  as_aux_lemma=>
  obtain ⟨i,q,p,Ao,co,An,cn,hi,hq,hp,rfl,rfl,rfl,HR⟩:=hrel
  clear R0
  by_cases hlt:i < m
  ·obtain ⟨b,off,V,x,y,rfl,hx,c0,c1,c2⟩:=(HEV.out.ext HR.out.2.2.2.ext).at_ (show i < l.length by rw [HL.out];exact hlt)
   have z0:(0:Int)≤(i:Int):=by omega
   have z1:(i:Int) < (m:Int):=by omega
   obtain ⟨kf,hkf⟩:∃ k,DS.flt n (DS.run n l A i).1 V x y=k:=⟨_,rfl⟩
   obtain ⟨Ai,hAi⟩:∃ B,(DS.run n l A i).1=B:=⟨_,rfl⟩
   have HPO:Hid (kf≠0→∀ W,Ext w W→RdPost w n A l Ax cx (.returned (.tuple #[.slice none 0 0,.slice Ax A.length cx,.int .i64 (kf:Int)])) W):=fun hk W hW=>.inl ⟨kf,.inr ⟨by have:=HL.out;omega,i,V,x,y,HR.out.2.2.1,hx,hkf,hk⟩,rfl,hW⟩
   have HNX:Hid (kf=0→∀ (W:World) (A4:Option Addr) (c4:Nat) (vO:Value) (xs:List Bool),xs=(DS.run n l A i).2++DS.out1 Ai ⟨V,x,y⟩→RdS w W n (DS.nxt Ai V x y) A4 c4 vO xs→(DS.run n l A (i+1)).1=DS.nxt Ai V x y∧(DS.run n l A (i+1)).2=xs∧DS.Okay n l A (i+1)∧RdS w W n (DS.run n l A (i+1)).1 A4 c4 vO (DS.run n l A (i+1)).2):=fun hk W A4 c4 vO xs hxs hd=>by
    rw [DS.run_next hx,hAi,←hxs]
    exact ⟨rfl,rfl,HR.out.2.2.1.next hx (by rw [hkf];exact hk),hd⟩
   have HKF:Hid (DS.flt n Ai V x y=kf):=by rw [←hAi];exact hkf
   have HQ:Hid (Ai.length=p∧(DS.run n l A i).2.length=q):=⟨by rw [←hAi];exact HR.out.1,HR.out.2.1⟩
   have HRD:Hid (RdS w wr n Ai An cn (.slice Ao q co) (DS.run n l A i).2):=by rw [←hAi];exact HR.out.2.2.2
   clear hx hkf hAi HR
   obtain ⟨ba,hba⟩:∃ b:Bool,b=decide (0≤x∧x < (n:Int)):=⟨_,rfl⟩
   obtain ⟨bb,hbb⟩:∃ b:Bool,b=decide (0≤y∧y < (n:Int)):=⟨_,rfl⟩
   have HBAe:=Lib.hid hba
   have HBBe:=Lib.hid hbb
   have HBA:Hid (ba=true↔0≤x∧x < (n:Int)):=by rw [hba];unfold Hid;exact decide_eq_true_iff
   have HBB:Hid (bb=true↔0≤y∧y < (n:Int)):=by rw [hbb];unfold Hid;exact decide_eq_true_iff
   clear hba hbb
   go_wp2_with fail
   have BG:=Lib.hid (Blk.new wr 128 #[.int .i64 V,.int .i64 x,.int .i64 y])
   have H3:=Lib.hid (HRD.out.moved (Ext.alloc wr (.cells #[.int .i64 V,.int .i64 x,.int .i64 y] 128)))
   obtain ⟨gE,hGe⟩:∃ G,wr.heap.size=G:=⟨_,rfl⟩
   rw [hGe] at BG ⊢
   clear hGe
   generalize wr.alloc (.cells #[.int .i64 V,.int .i64 x,.int .i64 y] 128)=w3 at BG H3 ⊢
   clear HRD c0 c1 c2
   have u0:w3.cell? ⟨gE,0,none⟩=some (.int .i64 V):=BG.out.cell 0
   have u1:w3.cell? ⟨gE,1,none⟩=some (.int .i64 x):=BG.out.cell 1
   have u2:w3.cell? ⟨gE,2,none⟩=some (.int .i64 y):=BG.out.cell 2
   refine (rnodeT_any w3 n x ba HBAe.out).mono ?_
   rintro e w' ⟨rfl,rfl⟩
   go_wp2_with fail
   refine (rnodeT_any w3 n y bb HBBe.out).mono ?_
   rintro e w' ⟨rfl,rfl⟩
   clear HBAe HBBe
   have X3:Hid (Ext w w3):=H3.out.ext
   by_cases hbad:V < 1∨3 < V∨¬ (0≤x∧x < (n:Int))∨¬ (0≤y∧y < (n:Int))
   ·obtain rfl:kf=1:=by rw [←HKF.out];unfold DS.flt;rw [if_pos hbad]
    have HPO1:=Lib.hid (HPO.out (by decide))
    clear HPO HNX HKF HQ H3 BG
    by_cases h1:V < 1
    ·clear hbad HBA HBB
     go_wp2
     go_ret3
     exact HPO1.out _ X3.out
    by_cases h3:3 < V
    ·clear hbad HBA HBB
     go_wp2
     go_ret3
     exact HPO1.out _ X3.out
    cases ba with
    | false=>
     clear hbad HBA HBB
     go_wp2
     go_ret3
     exact HPO1.out _ X3.out
    | true=>
     cases bb with
     | false=>
      clear hbad HBA HBB
      go_wp2
      go_ret3
      exact HPO1.out _ X3.out
     | true=>exact absurd hbad (by have q1:=HBA.out.1 rfl;have q2:=HBB.out.1 rfl;omega)
   ·have hba:ba=true:=HBA.out.2 (by omega)
    have hbb:bb=true:=HBB.out.2 (by omega)
    subst hba
    subst hbb
    obtain ⟨x,rfl⟩:=Int.eq_ofNat_of_zero_le (show 0≤x by omega)
    obtain ⟨y,rfl⟩:=Int.eq_ofNat_of_zero_le (show 0≤y by omega)
    have hxn:x < n:=by omega
    have hyn:y < n:=by omega
    have hV1:¬ V < 1:=by omega
    have hV3:¬ 3 < V:=by omega
    have hF:Hid (kf=if V=1 then addFault n Ai (x:Int) y else if V=2 then (if AK.ek (x:Int) y∈Ai then 0 else 4) else 0):=by rw [Hid,←HKF.out];unfold DS.flt;rw [if_neg hbad]
    have hV4:V=1∨V=2∨V=3:=by omega
    clear HBA HBB hbad HKF
    have hED:=H3.out.ed
    go_wp2_with fail
    refine (place_any w3 An p cn Ai (x:Int) (y:Int) HQ.out.1 (by omega) hED).mono ?_
    rintro e w4 ⟨rfl,hx4⟩
    obtain ⟨kz,hkz⟩:∃ z,RF.placeV (RF.place Ai (AK.ek (x:Int) y))=z:=⟨_,rfl⟩
    rw [hkz]
    have HKZ:=Lib.hid hkz
    have H4:=Lib.hid (H3.out.moved hx4)
    have X4:Hid (Ext w w4):=X3.out.trans hx4
    have BG4:Hid (Blk w4 gE 128 #[.int .i64 V,.int .i64 (x:Nat),.int .i64 (y:Nat)]):=BG.out.chg (Chg.of_below hx4) (by have:=BG.out.lt;omega)
    have u0:w4.cell? ⟨gE,0,none⟩=some (.int .i64 V):=BG4.out.cell 0
    have u1:w4.cell? ⟨gE,1,none⟩=some (.int .i64 (x:Nat)):=BG4.out.cell 1
    have u2:w4.cell? ⟨gE,2,none⟩=some (.int .i64 (y:Nat)):=BG4.out.cell 2
    clear hED hx4 hkz H3 X3 BG
    rcases hV4 with rfl | rfl | rfl
    ·by_cases hxy:x=y
     ·subst hxy
      obtain rfl:kf=2:=by have q:=hF.out;rw [q];rw [if_pos rfl];unfold addFault;rw [if_neg (by omega),if_pos rfl]
      have HPOk:=Lib.hid (HPO.out (by decide))
      clear HPO HNX hF HQ H4 BG4 HKZ
      go_wp2
      go_ret3
      exact HPOk.out _ X4.out
     have qxy:((x:Int) == (y:Int))=false:=by rw [beq_eq_false_iff_ne];omega
     by_cases hm:AK.ek (x:Int) y∈Ai
     ·obtain ⟨j,hj,_⟩:=pinD hm
      obtain rfl:kz=(j:Int):=by rw [←HKZ.out];exact hj
      have zj:(0:Int)≤(j:Int):=by omega
      obtain rfl:kf=6:=by have q:=hF.out;rw [q];rw [if_pos rfl];unfold addFault;rw [if_neg (by omega),if_neg (by omega),if_pos hm]
      have HPOk:=Lib.hid (HPO.out (by decide))
      clear HPO HNX hF HQ H4 BG4 HKZ hj hm hxy
      go_wp2
      go_ret3
      exact HPOk.out _ X4.out
     obtain rfl:kz=-1:=by rw [←HKZ.out];exact poutD hm
     have zk:¬ (0:Int)≤-1:=by omega
     by_cases hfull:Ai.length=200
     ·have zp:(200:Int)≤(p:Int):=by have:=HQ.out.1;omega
      obtain rfl:kf=3:=by have q:=hF.out;rw [q];rw [if_pos rfl];unfold addFault;rw [if_neg (by omega),if_neg (by omega),if_neg hm,if_pos hfull]
      have HPOk:=Lib.hid (HPO.out (by decide))
      clear HPO HNX hF HQ H4 BG4 HKZ hm hxy hfull
      go_wp2
      go_ret3
      exact HPOk.out _ X4.out
     ·obtain rfl:kf=0:=by have q:=hF.out;rw [q,if_pos rfl];unfold addFault;rw [if_neg (by omega),if_neg (by omega),if_neg hm,if_neg hfull]
      have zp:¬ (200:Int)≤(p:Int):=by have:=HQ.out.1;omega
      have HPU:=Lib.hid (rput_any w4 An p cn Ai (x:Int) (y:Int) HQ.out.1 (by omega) H4.out.ed)
      have HOK:Hid ((∀ z∈putE (AK.ek (x:Int) y) Ai,0≤z.1∧z.1 < z.2∧z.2 < (n:Int))∧(putE (AK.ek (x:Int) y) Ai).Pairwise ltE∧(putE (AK.ek (x:Int) y) Ai).length≤200):=by
       refine ⟨fun z hz=>?_,putE_rises H4.out.up hm,by rw [putE_length];have:=HQ.out.1;omega⟩
       rcases putE_mem.1 hz with q | q
       ·rw [q];unfold AK.ek;simp only;omega
       ·exact H4.out.ok z q
      have HN0:=Lib.hid (HNX.out rfl)
      clear HKZ hm hxy hfull HPO hF HNX
      go_wp2_with fail
      refine HPU.out.mono ?_
      rintro e w5 ⟨A5,c5,rfl,hd5,hx5,hn5⟩
      have HN:=Lib.hid (HN0.out w5 A5 c5 (.slice Ao q co) (DS.run n l A i).2 (by unfold DS.out1;rw [if_neg (show ¬ (1:Int)=3 by decide),List.append_nil]) (H4.out.put hx5 hd5 hn5 HOK.out.1 HOK.out.2.1))
      clear hd5 hx5 hn5 HPU HN0 H4 BG4 X4
      have hl2:=HOK.out.2.2
      go_wp2
      go_roundw
      case rel=>exact ⟨i+1,q,_,Ao,co,A5,c5,by omega,by omega,hl2,by go_num,rfl,rfl,by rw [HN.out.1];rfl,by rw [HN.out.2.1];exact HQ.out.2,HN.out.2.2.1,HN.out.2.2.2⟩
      case measure=>simp [intOf];omega
    ·by_cases hm:AK.ek (x:Int) y∈Ai
     ·obtain ⟨j,hj,hjm⟩:=pinD hm
      obtain rfl:kz=(j:Int):=by rw [←HKZ.out];exact hj
      have zj:¬ (j:Int) < 0:=by omega
      obtain rfl:kf=0:=by have q:=hF.out;rw [q,if_neg (by decide),if_pos rfl,if_pos hm]
      have hjl:j < p:=by have:=(List.getElem?_eq_some_iff.1 hjm).1;have:=HQ.out.1;omega
      have hcap:=H4.out.cap
      have HPU:=Lib.hid (rout_any w4 An p cn Ai j HQ.out.1 (by omega) (by have:=HQ.out.1;omega) hcap.2 hjl H4.out.ed)
      have hcut:Hid (Ai.eraseIdx j=cutE (AK.ek (x:Int) y) Ai):=out_cut H4.out.up hjm
      have hl2:(Ai.eraseIdx j).length≤200:=by rw [hcut.out];have:=cutE_len_le (AK.ek (x:Int) y) Ai;have:=HQ.out.1;omega
      have HN0:=Lib.hid (HNX.out rfl)
      clear HKZ hm hj hjm HPO hF HNX hcap
      go_wp2_with fail
      refine HPU.out.mono ?_
      rintro e w5 ⟨A5,c5,rfl,hd5,hx5,hn5⟩
      have HN:=Lib.hid (HN0.out w5 A5 c5 (.slice Ao q co) (DS.run n l A i).2 (by unfold DS.out1;rw [if_neg (show ¬ (2:Int)=3 by decide),List.append_nil]) (by
       have q1:=H4.out.put hx5 hd5 hn5 (fun z hz=>H4.out.ok z (List.mem_of_mem_eraseIdx hz)) (List.Pairwise.sublist (List.eraseIdx_sublist ..) H4.out.up)
       rw [hcut.out] at q1
       exact q1))
      clear hd5 hx5 hn5 HPU HN0 H4 BG4 X4
      go_wp2
      go_roundw
      case rel=>exact ⟨i+1,q,_,Ao,co,A5,c5,by omega,by omega,hl2,by go_num,rfl,rfl,by rw [HN.out.1,hcut.out];rfl,by rw [HN.out.2.1];exact HQ.out.2,HN.out.2.2.1,HN.out.2.2.2⟩
      case measure=>simp [intOf];omega
     ·obtain rfl:kz=-1:=by rw [←HKZ.out];exact poutD hm
      have zk:(-1:Int) < 0:=by omega
      obtain rfl:kf=4:=by have q:=hF.out;rw [q];rw [if_neg (by decide),if_pos rfl,if_neg hm]
      have HPOk:=Lib.hid (HPO.out (by decide))
      clear HPO HNX hF HQ H4 BG4 HKZ hm
      go_wp2
      go_ret3
      exact HPOk.out _ X4.out
    ·obtain rfl:kf=0:=by have q:=hF.out;rw [q,if_neg (by decide),if_neg (by decide)]
     have HPA:=Lib.hid (parts_any w4 An n p cn Ai HQ.out.1 hn60.1 (by omega) (by omega) H4.out.ed (gr_inn H4.out.ok))
     have HN0:=Lib.hid (HNX.out rfl)
     clear HPO hF HNX HKZ
     go_wp2_with fail
     refine HPA.out.mono ?_
     rintro e w5 ⟨P,gp,cp,rfl,hrow,hparts,hx5,hgp⟩
     obtain ⟨px,hpx⟩:=parts_len hparts x hxn
     obtain ⟨py,hpy⟩:=parts_len hparts y hyn
     have H5:=Lib.hid (H4.out.moved hx5)
     have BG5:Hid (Blk w5 gE 128 #[.int .i64 3,.int .i64 (x:Nat),.int .i64 (y:Nat)]):=BG4.out.chg (Chg.of_below hx5) (by have:=BG4.out.lt;omega)
     have u1:w5.cell? ⟨gE,1,none⟩=some (.int .i64 (x:Nat)):=BG5.out.cell 1
     have u2:w5.cell? ⟨gE,2,none⟩=some (.int .i64 (y:Nat)):=BG5.out.cell 2
     have v1:w5.cell? ⟨gp,x,none⟩=some (.int .i64 (px:Nat)):=nrow_cell hrow hpx hxn
     have v2:w5.cell? ⟨gp,y,none⟩=some (.int .i64 (py:Nat)):=nrow_cell hrow hpy hyn
     obtain ⟨t,ht⟩:∃ t:Bool,((px:Int) == (py:Int))=t:=⟨_,rfl⟩
     have HT:Hid (t=DS.ansB Ai x y):=by
      refine DS.ansB_iff ?_
      rw [←ht,beq_iff_eq]
      have q:=gparts_cn H4.out.ok hparts hpx hpy
      rw [←show Cn (adj Ai) x y↔Cn (adj Ai) ((x:Int)).toNat ((y:Int)).toNat from Iff.rfl,←q]
      omega
     have hgpb:∃ cs,Blk w5 gp 3 cs:=own_blkB hrow (by simp [Value.ownBlock])
     have HKE:Hid (∀ (W w9:World),Ext w5 W→Chg (fun k=>(Value.slice Ao q co).ownBlock=some k) W w9→w9.cell? ⟨gE,1,none⟩=some (.int .i64 (x:Nat))∧w9.cell? ⟨gE,2,none⟩=some (.int .i64 (y:Nat))∧w9.cell? ⟨gp,x,none⟩=some (.int .i64 (px:Nat))∧w9.cell? ⟨gp,y,none⟩=some (.int .i64 (py:Nat))):=fun W w9 hW hc=>by
      obtain ⟨cs,hgb⟩:=hgpb
      have n1:(Value.slice Ao q co).ownBlock≠some gE:=own_ne H5.out.row BG5.out (by decide)
      have n2:(Value.slice Ao q co).ownBlock≠some gp:=own_ne H5.out.row hgb (by decide)
      have l1:=BG5.out.lt
      have l2:=hgb.lt
      have ls:=hW.size
      exact ⟨(hc.cell (p:=⟨gE,1,none⟩) (by simp only;omega) n1).trans ((hW.cell (p:=⟨gE,1,none⟩) l1).trans u1),(hc.cell (p:=⟨gE,2,none⟩) (by simp only;omega) n1).trans ((hW.cell (p:=⟨gE,2,none⟩) l1).trans u2),(hc.cell (p:=⟨gp,x,none⟩) (by simp only;omega) n2).trans ((hW.cell (p:=⟨gp,x,none⟩) l2).trans v1),(hc.cell (p:=⟨gp,y,none⟩) (by simp only;omega) n2).trans ((hW.cell (p:=⟨gp,y,none⟩) l2).trans v2)⟩
     have zx:(x:Int) < (n:Int):=by omega
     have zy:(y:Int) < (n:Int):=by omega
     clear hrow hparts hx5 hgp hpx hpy hgpb H4 BG4 HPA X4
     go_wp2
     go_region_held3 (fun W=>W.cell? ⟨gE,1,none⟩=some (.int .i64 (x:Nat))∧W.cell? ⟨gE,2,none⟩=some (.int .i64 (y:Nat))∧W.cell? ⟨gp,x,none⟩=some (.int .i64 (px:Nat))∧W.cell? ⟨gp,y,none⟩=some (.int .i64 (py:Nat))) (go_keep)
      (first
       | (go_loud (refine step_pushS _ (by rfl) (.tmp 68) (.tmp 80) 131 (by rfl) 4 (.bool false) 1 1 Tryz.underlying131 infoB (by rfl) (by decide) (.slice Ao q co) q (bolV (DS.run n l A i).2) (by rfl) (((H5.out.moved (Ext.alloc _ _)).moved (Ext.drew _)).rowq HQ.out.2) ⟨by omega,by omega⟩ [.bool t] w5.heap.size (by rfl) (by rfl) (news_cells rfl [.bool t] _) (by simp [Value.oneCell']) ?_;intro g9 c9 w9 ho9 hc9 hg9;have HA:=Lib.hid (H5.out.push (b:=t) HQ.out.2 ((Ext.alloc _ _).trans (Ext.drew _)) ho9 hc9 hg9);have hke:=HKE.out _ w9 ((Ext.alloc _ _).trans (Ext.drew _)) hc9;have k1:=hke.1;have k2:=hke.2.1;have k3:=hke.2.2.1;have k4:=hke.2.2.2;clear ho9 hc9 hg9 hke))
       | fail)
     rename_i hHeld
     have HN:=Lib.hid (HN0.out w9 An cn _ _ (by unfold DS.out1;rw [if_pos rfl,←HT.out]) HA.out)
     clear hHeld HKE HN0 H5 BG5 HA
     go_wp2
     go_roundw
     case rel=>exact ⟨i+1,q+1,p,some ⟨g9,0,none⟩,c9,An,cn,by omega,by omega,by omega,by go_num,rfl,rfl,by rw [HN.out.1];exact HQ.out.1,by rw [HN.out.2.1,List.length_append,HQ.out.2];rfl,HN.out.2.2.1,HN.out.2.2.2⟩
     case measure=>simp [intOf];omega
  ·obtain rfl:i=m:=by omega
   have HP:Hid (RdPost w n A l Ax cx (.returned (.tuple #[.slice Ao q co,.slice An p cn,.int .i64 ((0:Nat):Int)])) wr):=by
    obtain ⟨r0,r1,r2,r3⟩:=HR.out
    refine .inr ⟨by have:=HL.out;omega,by rw [HL.out];exact r2,?_⟩
    rw [HL.out,r0,r1]
    exact ⟨Ao,co,An,cn,rfl,r3⟩
   clear HR
   go_wp2
   go_ret3
   exact HP.out
end Go.Proofs.YtkoajpeabicpdaaGreatDoor
