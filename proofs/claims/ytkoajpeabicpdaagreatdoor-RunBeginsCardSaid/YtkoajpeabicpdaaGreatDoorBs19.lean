/-
Graphs as they lie in memory: edges with levels, a forest for each level. No conditions.
-/
import Derived.Test.YtkoajpeabicpdaaGreatDoorBs17
import Derived.Test.YtkoajpeabicpdaaGreatDoorBs18
import Derived.WalkSpells
import Derived.Lib.Hide
import Derived.Outline
import Derived.Deep.QuietTactic
import Derived.BigQuiet
import Derived.StillTailTactics
set_option linter.unusedVariables false
set_option maxHeartbeats 8000000
namespace Go.Proofs.YtkoajpeabicpdaaGreatDoor
open Go Go.RowKit SQ TR DF PD
structure GrP where
 gb:Nat
 eb:Nat
 ob:Nat
 c:Nat
 Fs:List FoP
def ptrF (Fs:List FoP):List Value:=Fs.map fun F=>.pointer (some ⟨F.fb,0,none⟩)
def stV (s:GM.St):Value:=.agg #[.int .i64 s.lv,.bool s.tr]
def GrP.fv (G:GrP):Value:=.slice (some ⟨G.ob,0,none⟩) G.Fs.length G.c
def GrP.S (G:GrP) (k:Nat):Prop:=k=G.gb∨k=G.eb∨k=G.ob∨∃ (i:Nat) (F:FoP),G.Fs[i]?=some F∧F.S k
structure GrM (w:World) (G:GrP) (n N:Nat) (A:List AK.Ed) (f:AK.Ed→GM.St) (Es:Nat→List AK.Ed):Prop where
 blk:Blk w G.gb 140 #[.int .i64 n,.map (some G.eb),G.fv]
 hn:1≤n∧n≤60
 row:w.ownsRow 0 141 1 G.fv G.Fs.length (ptrF G.Fs)
 pos:0 < G.Fs.length
 fo:∀ (i:Nat) (F:FoP),G.Fs[i]?=some F→FoAt w F n N (Es i)
 edges:∃ me,VM kE w G.eb N A.length me∧∀ x,okE x→me x=if x∈A then some (stV (f x)) else none
 ap:∀ (i j:Nat) (F H:FoP),G.Fs[i]?=some F→G.Fs[j]?=some H→i≠j→∀ k,F.S k→¬ H.S k∧k≠H.fb
 ap2:∀ (i:Nat) (F:FoP),G.Fs[i]?=some F→∀ k,F.S k→k≠G.gb∧k≠G.eb∧k≠G.ob
section
variable {w w':World} {G:GrP} {n N N':Nat} {A:List AK.Ed} {f:AK.Ed→GM.St} {Es:Nat→List AK.Ed} {S:Nat→Prop}
theorem GrM.lt (h:GrM w G n N A f Es):∀ k,G.S k→k < w.heap.size:=by
 obtain ⟨me,m1,m2⟩:=h.edges
 rintro k (rfl | rfl | rfl | ⟨i,F,hi,hk⟩)
 ·exact h.blk.lt
 ·exact m1.lt
 ·exact own_lt h.row (by simp [GrP.fv,Value.ownBlock])
 ·exact (h.fo i F hi).lt.2 k hk
theorem GrM.chg (h:GrM w G n N A f Es) (hc:Chg S w w') (hS:∀ k,G.S k→¬ S k) (hf:∀ (i:Nat) (F:FoP),G.Fs[i]?=some F→¬ S F.fb) (hq:∀ k,S k→∀ cs,¬ Blk w k 296 cs):GrM w' G n N A f Es:=by
 obtain ⟨me,m1,m2⟩:=h.edges
 refine ⟨h.blk.chg hc (hS _ (.inl rfl)),h.hn,own_chg h.row hc (fun k hk=>hS k (by simp [GrP.fv,Value.ownBlock] at hk;exact .inr (.inr (.inl hk.symm)))),h.pos,fun i F hi=>(h.fo i F hi).chg hc (hf i F hi) (fun k hk=>hS k (.inr (.inr (.inr ⟨i,F,hi,hk⟩)))) hq,⟨me,m1.chg hc (hS _ (.inr (.inl rfl))),m2⟩,h.ap,h.ap2⟩
theorem GrM.ext (h:GrM w G n N A f Es) (hx:Ext w w'):GrM w' G n N A f Es:=
 h.chg (Chg.of_below hx) (fun k hk=>by have:=h.lt k hk;omega) (fun i F hi=>by have:=(h.fo i F hi).lt.1;omega) (fun k hk cs hb=>by have:=hb.lt;omega)
theorem GrM.mono (h:GrM w G n N A f Es) (hN:N≤N'):GrM w G n N' A f Es:=by
 obtain ⟨me,m1,m2⟩:=h.edges
 exact ⟨h.blk,h.hn,h.row,h.pos,fun i F hi=>(h.fo i F hi).mono hN,⟨me,m1.mono hN,m2⟩,h.ap,h.ap2⟩
theorem GrM.congr (h:GrM w G n N A f Es) {Es':Nat→List AK.Ed} (he:∀ i,i < G.Fs.length→Es' i=Es i):GrM w G n N A f Es':=
 ⟨h.blk,h.hn,h.row,h.pos,fun i F hi=>by rw [he i (List.getElem?_eq_some_iff.1 hi).1];exact h.fo i F hi,h.edges,h.ap,h.ap2⟩
theorem GrM.turn (h:GrM w G n N A f Es) {i:Nat} {F:FoP} {E':List AK.Ed} (hi:G.Fs[i]?=some F) (h':FoAt w' F n N' E') (hN:N≤N') (hc:Chg F.S w w'):GrM w' G n N' A f (fun j=>if j=i then E' else Es j):=by
 obtain ⟨me,m1,m2⟩:=h.edges
 have a2:=h.ap2 i F hi
 refine ⟨h.blk.chg hc (fun e=>(a2 _ e).1 rfl),h.hn,own_chg h.row hc (fun k hk e=>(a2 k e).2.2 (by simp [GrP.fv,Value.ownBlock] at hk;exact hk.symm)),h.pos,fun j H hj=>?_,⟨me,(m1.chg hc (fun e=>(a2 _ e).2.1 rfl)).mono hN,m2⟩,h.ap,h.ap2⟩
 by_cases e:j=i
 ·subst e
  rw [hi] at hj
  obtain rfl:=Option.some.inj hj
  rw [if_pos rfl];exact h'
 ·rw [if_neg e]
  refine ((h.fo j H hj).chg hc (fun hk=>((h.ap i j F H hi hj (fun q=>e q.symm) _ hk).2 rfl)) (fun k hk hk2=>(h.ap i j F H hi hj (fun q=>e q.symm) k hk2).1 hk) (h.fo i F hi).noseq).mono hN
theorem GrM.write (h:GrM w G n N A f Es) (hN:N < 1000000) (x:AK.Ed) (hx:okE x) (s:GM.St):∃ w',(Instr.mapUpdate 137 (.map (some G.eb)) (edV x) (stV s)).run Tryz.prog w=.ok () w'∧
  GrM w' G n (N+1) (if x∈A then A else putE x A) (GM.updS f x s) Es∧Chg (fun k=>k=G.eb) w w'∧w'.heap.size=w.heap.size:=by
 obtain ⟨me,m1,m2⟩:=h.edges
 obtain ⟨w2,hr,hv,hc,hs⟩:=m1.put Tryz.underlying137 hN x hx (stV s)
 have nF:∀ (i:Nat) (F:FoP),G.Fs[i]?=some F→¬ F.S G.eb:=fun i F hi hk=>(h.ap2 i F hi _ hk).2.1 rfl
 have nfb:∀ (i:Nat) (F:FoP),G.Fs[i]?=some F→F.fb≠G.eb:=fun i F hi=>m1.blk_ne (h.fo i F hi).blk
 refine ⟨w2,hr,⟨h.blk.chg hc (m1.blk_ne h.blk),h.hn,own_chg h.row hc (fun k hk e=>m1.own_ne h.row (by rw [hk,e])),h.pos,fun i F hi=>((h.fo i F hi).chg hc (nfb i F hi) (fun k hk e=>nF i F hi (e ▸ hk)) (fun k hk cs hb=>by subst hk;exact m1.blk_ne hb rfl)).mono (by omega),⟨updV me x (some (stV s)),?_,fun y hy=>?_⟩,h.ap,h.ap2⟩,hc,hs⟩
 ·rw [m2 x hx] at hv
  by_cases q:x∈A
  ·rw [if_pos q] at hv ⊢;exact hv
  ·rw [if_neg q] at hv ⊢;rw [putE_length];exact hv
 ·unfold updV GM.updS
  by_cases e:y=x
  ·subst e
   rw [if_pos rfl,if_pos rfl,if_pos]
   split
   ·assumption
   ·exact putE_mem.2 (.inl rfl)
  ·rw [if_neg e,m2 y hy,if_neg e]
   by_cases q:y∈A
   ·rw [if_pos q,if_pos]
    split
    ·exact q
    ·exact putE_mem.2 (.inr q)
   ·rw [if_neg q,if_neg]
    split
    ·exact q
    ·exact fun w=>(putE_mem.1 w).elim e q
theorem GrM.strike (h:GrM w G n N A f Es) (hA:A.Nodup) (x:AK.Ed) (hx:okE x) (hm:x∈A):∃ w',(∀ ty,(Builtin.delete_ #[137,93] ty #[.map (some G.eb),edV x]).run Tryz.prog w=.ok (.tuple #[]) w')∧
  GrM w' G n N (cutE x A) f Es∧Chg (fun k=>k=G.eb) w w'∧w'.heap.size=w.heap.size:=by
 obtain ⟨me,m1,m2⟩:=h.edges
 obtain ⟨w2,hr,⟨s',hs',hv⟩,hc,hs⟩:=m1.del Tryz.underlying137 x hx
 have nF:∀ (i:Nat) (F:FoP),G.Fs[i]?=some F→¬ F.S G.eb:=fun i F hi hk=>(h.ap2 i F hi _ hk).2.1 rfl
 have nfb:∀ (i:Nat) (F:FoP),G.Fs[i]?=some F→F.fb≠G.eb:=fun i F hi=>m1.blk_ne (h.fo i F hi).blk
 refine ⟨w2,hr,⟨h.blk.chg hc (m1.blk_ne h.blk),h.hn,own_chg h.row hc (fun k hk e=>m1.own_ne h.row (by rw [hk,e])),h.pos,fun i F hi=>(h.fo i F hi).chg hc (nfb i F hi) (fun k hk e=>nF i F hi (e ▸ hk)) (fun k hk cs hb=>by subst hk;exact m1.blk_ne hb rfl),⟨updV me x none,?_,fun y hy=>?_⟩,h.ap,h.ap2⟩,hc,hs⟩
 ·rw [m2 x hx,if_pos hm] at hs'
  have:=cutE_length hA hm
  have e:(cutE x A).length=s':=by simp at hs';omega
  rw [e];exact hv
 ·unfold updV
  by_cases e:y=x
  ·subst e
   rw [if_pos rfl,if_neg (fun w=>(cutE_mem.1 w).2 rfl)]
  ·rw [if_neg e,m2 y hy]
   by_cases q:y∈A
   ·rw [if_pos q,if_pos (cutE_mem.2 ⟨q,e⟩)]
   ·rw [if_neg q,if_neg (fun w=>q (cutE_mem.1 w).1)]
end
structure EgP (w:World) (b r N s:Nat) (m:AK.Ed→Option Value) (p:AK.Ed→Bool) (d:List AK.Ed) (v:Value) (wr:World):Prop where
 vr:VR kE wr b r N s m d
 row:DRow wr v (d.filter p)
 bel:Below w.heap.size w wr
 new:∀ j,v.ownBlock=some j→w.heap.size≤j
theorem EgP.skip {w wr w3:World} {b r N s:Nat} {m:AK.Ed→Option Value} {p:AK.Ed→Bool} {d:List AK.Ed} {v:Value} {x:AK.Ed} (h:EgP w b r N s m p d v wr) {w2:World} (hvr:VR kE w2 b r N s m (d++[x])) (hc:Chg (fun j=>j=r) wr w2) (hx:Ext w2 w3) (hp:p x=false) (hr:w.heap.size≤r):
  EgP w b r N s m p (d++[x]) v w3∧w3.rangeLeft b r=w2.rangeLeft b r:=by
 have hne:=h.vr.own_ne h.row
 refine ⟨⟨hvr.kept (Chg.of_below hx) (by have:=hvr.vm.lt;omega) (by have:=hvr.lt;omega),?_,?_,h.new⟩,?_⟩
 ·rw [List.filter_append,show [x].filter p=[] by simp [hp],List.append_nil]
  exact own_chg (own_chg h.row hc (fun j hj e=>hne (by rw [hj,e]))) (Chg.of_below hx) (fun j hj=>by have:=own_lt h.row hj;have:=hc.size;omega)
 ·have b2:Below w.heap.size w w2:=((Chg.of_below h.bel).trans hc (fun i hi e=>by omega)).below (Nat.le_refl _) (fun _ _ h=>h)
  exact b2.trans (Below.mono hx b2.size)
 ·have hl1:=hvr.vm.lt
  have hl2:=hvr.lt
  unfold World.rangeLeft
  rw [hx.block _ hl1,hx.block _ hl2]
theorem EgP.push {w wr w2 W w5:World} {b r N s g c':Nat} {m:AK.Ed→Option Value} {p:AK.Ed→Bool} {d:List AK.Ed} {v:Value} {x:AK.Ed} (h:EgP w b r N s m p d v wr) (hvr:VR kE w2 b r N s m (d++[x])) (hc:Chg (fun j=>j=r) wr w2) (hW:Ext w2 W) (hp:p x=true) (hr:w.heap.size≤r)
  (ho:w5.ownsRow 0 93 2 (.slice (some ⟨g,0,none⟩) ((d.filter p).length+1) c') ((d.filter p).length+1) (rowsOf edC (d.filter p)++edC x)) (hc5:Chg (fun j=>v.ownBlock=some j) W w5) (hat:v.ownBlock=some g∨g=W.heap.size):
  EgP w b r N s m p (d++[x]) (.slice (some ⟨g,0,none⟩) ((d++[x]).filter p).length c') w5∧w5.rangeLeft b r=w2.rangeLeft b r:=by
 have hne:=h.vr.own_ne h.row
 have nb:=h.vr.vm.own_ne h.row
 have hvrW:VR kE W b r N s m (d++[x]):=hvr.kept (Chg.of_below hW) (by have:=hvr.vm.lt;omega) (by have:=hvr.lt;omega)
 have ef:(d++[x]).filter p=d.filter p++[x]:=by rw [List.filter_append];congr 1;simp [hp]
 refine ⟨⟨hvrW.kept hc5 nb hne,?_,?_,?_⟩,?_⟩
 ·rw [ef]
  unfold DRow
  rw [List.length_append,rowsOf_app,rowsOf_one]
  exact ho
 ·have b2:Below w.heap.size w w2:=((Chg.of_below h.bel).trans hc (fun i hi e=>by omega)).below (Nat.le_refl _) (fun _ _ h=>h)
  have bW:Below w.heap.size w W:=b2.trans (Below.mono hW b2.size)
  exact ((Chg.of_below bW).trans hc5 (fun i hi hs=>h.new i hs)).below (Nat.le_refl _) (fun _ _ h=>h)
 ·intro j hj
  have:g=j:=by simpa [Value.ownBlock] using hj
  subst this
  rcases hat with hat | hat
  ·exact h.new _ hat
  ·have:=h.bel.size;have:=hc.size;have:=hW.size;omega
 ·have hl1:=hvr.vm.lt
  have hl2:=hvr.lt
  unfold World.rangeLeft
  rw [hc5.block _ (Nat.lt_of_lt_of_le hl1 hW.size) nb,hc5.block _ (Nat.lt_of_lt_of_le hl2 hW.size) hne,hW.block _ hl1,hW.block _ hl2]
section
variable {w:World} {G:GrP} {n N:Nat} {A:List AK.Ed} {f:AK.Ed→GM.St} {Es:Nat→List AK.Ed}
theorem keepE_any (W:World) (s:GM.St):Calls Tryz.prog 87 #[.agg #[.int .i64 s.lv,.bool s.tr]] W fun e w'=>e=.returned (.bool true)∧Ext W w':=by
 go_enter Tryz.func87,Tryz.ntmps87
 go_wp2
 go_ret
 exact ⟨rfl,Ext.alloc _ _⟩
theorem keepT_any (W:World) (s:GM.St):Calls Tryz.prog 122 #[.agg #[.int .i64 s.lv,.bool s.tr]] W fun e w'=>e=.returned (.bool s.tr)∧Ext W w':=by
 go_enter Tryz.func122,Tryz.ntmps122
 go_wp2
 go_ret
 exact ⟨rfl,Ext.alloc _ _⟩
set_option maxRecDepth 100000 in
theorem thoseE_any (h:GrM w G n N A f Es) (hok:∀ x∈A,0≤x.1∧x.1 < x.2∧x.2 < (n:Int)) (hup:A.Pairwise ltE) (hl:A.length≤200):
  Calls Tryz.prog 86 #[.pointer (some ⟨G.gb,0,none⟩),.func (.func 87) #[] #[]] w (EdgesPost w (A.filter fun x=>true)):=by
 obtain ⟨p,hpe⟩:∃ p:AK.Ed→Bool,p=fun x=>true:=⟨_,rfl⟩
 rw [←hpe]
 have c1:w.cell? ⟨G.gb,1,none⟩=some (.map (some G.eb)):=h.blk.cell 1
 have h60:=h.hn
 obtain ⟨me,k1,k2⟩:=h.edges
 have HM:=Lib.hid k2
 have HOK:=Lib.hid hok
 have HUP:=Lib.hid hup
 obtain ⟨w1,hrg,hvr,hb1,hs1⟩:=k1.range Tryz.underlying137
 have hrg:(Instr.range 137 (.map (some G.eb))).run Tryz.prog w=.ok (.pointer (some ⟨w.heap.size,0,none⟩)) w1:=hrg
 have HV:=Lib.hid hvr
 have HB:=Lib.hid hb1
 have HPE:=Lib.hid hpe
 clear h k1 k2 hvr hb1 hok hup hpe
 go_enter Tryz.func86,Tryz.ntmps86
 go_wp2
 go_loopw [5] (fun v wr=>∃ (d:List AK.Ed) (B:Option Addr) (c:Nat),v=.slice B (d.filter p).length c∧Hid (EgP w G.eb w.heap.size N A.length me p d (.slice B (d.filter p).length c) wr)) (fun _ wr=>wr.rangeLeft G.eb w.heap.size)
 case atStart=>exact ⟨[],none,0,rfl,HV.out,World.ownsRow_nil _ _ _ _,HB.out,fun j hj=>by simp [Value.ownBlock] at hj⟩
 case round=>
  obtain ⟨d,B,c,rfl,HR⟩:=hrel
  have hdA:∀ x∈d,x∈A:=fun x hx=>by
   have hok:=HR.out.vr.okd x hx
   obtain ⟨D,left,cnt,g1,g2,g3,g4⟩:=HR.out.vr.rg
   have:=((g4 x hok).2.1 hx).1
   rw [HM.out x hok] at this
   by_cases q:x∈A
   ·exact q
   ·rw [if_neg q] at this;simp at this
  have hdl:(d.filter p).length≤200:=by
   have h1:=nodup_le HR.out.vr.nd hdA
   have h2:=List.length_filter_le p d
   omega
  have HDA:=Lib.hid hdA
  clear hdA
  rcases HR.out.vr.next 0 with ⟨hnx,hall⟩ | ⟨x,v,w2,hox,hxd,hmx,hnx0,hvr2,hlt,hc2,hsz2,hen0⟩
  ·have HALL:=Lib.hid hall
   have hE:Hid (sortedE (d.filter p)=A.filter p):=by
    refine sorted_is (n:=n) h60.2 (fun x hx=>HOK.out x (List.mem_filter.1 hx).1) (HUP.out.filter _) (HR.out.vr.nd.filter _) fun x=>?_
    rw [List.mem_filter,List.mem_filter]
    constructor
    ·exact fun hx=>⟨HDA.out x hx.1,hx.2⟩
    ·intro hx
     have h3:=HOK.out x hx.1
     have hok:kE.ok x:=okE_of (by omega) (by omega)
     refine ⟨(HALL.out x hok).2 ?_,hx.2⟩
     rw [HM.out x hok,if_pos hx.1];rfl
   have hdl2:(d.filter p).length=(A.filter p).length:=by rw [←hE.out,sortedE_length]
   have hf:∀ x∈d.filter p,0≤x.1∧x.1 < 60∧0≤x.2∧x.2 < 60:=fun x hx=>by
    have:=HOK.out x (HDA.out x (List.mem_filter.1 hx).1);omega
   have RS:=Lib.hid (rising_any wr _ B c (d.filter p) rfl hf (by omega) HR.out.row)
   have HDL:=Lib.hid hdl2
   clear hall hf hdl2
   go_wp2_with fail
   refine RS.out.mono ?_
   rintro e w3 ⟨rfl,h1,h3⟩
   have H1:=Lib.hid h1
   have H3:=Lib.hid h3
   clear h1 h3
   go_wp2
   go_ret
   have q1:=H1.out
   have hdl:=HDL.out
   rw [hE.out] at q1
   rw [hdl] at q1 ⊢
   refine ⟨B,c,rfl,q1,((Chg.of_below HR.out.bel).trans H3.out (fun i hi hs=>HR.out.new i hs)).below (Nat.le_refl _) (fun _ _ h=>h),fun j hj=>HR.out.new j (by rw [hdl];exact hj)⟩
  ·have hxA:x∈A:=by
    rw [HM.out x hox] at hmx
    by_cases q:x∈A
    ·exact q
    ·rw [if_neg q] at hmx;cases hmx
   obtain ⟨x1,x2⟩:=x
   obtain ⟨s,hs⟩:∃ s,f (x1,x2)=s:=⟨_,rfl⟩
   have hv1:v=.agg #[.int .i64 s.lv,.bool s.tr]:=by
    rw [HM.out _ hox,if_pos hxA,hs] at hmx;exact (Option.some.inj hmx).symm
   subst hv1
   have hnx:(Instr.next (.pointer (some ⟨w.heap.size,0,none⟩)) false 0).run Tryz.prog wr=.ok (.tuple #[.bool true,.agg #[.int .i64 x1,.int .i64 x2],.agg #[.int .i64 s.lv,.bool s.tr]]) w2:=hnx0
   have hen:(Instr.entry (.pointer (some ⟨w.heap.size,0,none⟩))).run Tryz.prog w2=.ok (.tuple #[.agg #[.int .i64 x1,.int .i64 x2],.agg #[.int .i64 s.lv,.bool s.tr]]) w2:=hen0
   have hpx:p (x1,x2)=true:=by have hq:=congrFun HPE.out (x1,x2);simpa [hs] using hq
   have HV2:=Lib.hid hvr2
   have HLT:=Lib.hid hlt
   have HC2:=Lib.hid hc2
   clear hnx0 hen0 hvr2 hlt hc2 hmx hxd hox hxA
   go_wp2_with fail
   refine (keepE_any _ s).mono ?_
   rintro e w3 ⟨rfl,hx3⟩
   have X3:Hid (Ext w2 w3):=(((Below.refl _ _).alloc (Nat.le_refl _) _).alloc (by simp) _:Below w2.heap.size w2 _).trans (Below.mono hx3 (by simp;omega))
   have y0:w3.cell? ⟨wr.heap.size,0,none⟩=some (.int .i64 x1):=by
    have h1:=((Blk.new w2 93 #[.int .i64 x1,.int .i64 x2]).alloc (.cells #[.int .i64 s.lv,.bool s.tr] 150)).chg (Chg.of_below hx3) (fun hh=>by simp at hh <;> omega)
    rw [hsz2] at h1
    exact h1.cell 0
   have y1:w3.cell? ⟨wr.heap.size,1,none⟩=some (.int .i64 x2):=by
    have h1:=((Blk.new w2 93 #[.int .i64 x1,.int .i64 x2]).alloc (.cells #[.int .i64 s.lv,.bool s.tr] 150)).chg (Chg.of_below hx3) (fun hh=>by simp at hh <;> omega)
    rw [hsz2] at h1
    exact h1.cell 1
   have HROW:Hid (DRow w3 (.slice B (d.filter p).length c) (d.filter p)):=by
    have hne:=HR.out.vr.own_ne HR.out.row
    exact own_chg (own_chg HR.out.row HC2.out (fun j hj e=>hne (by rw [hj,e]))) (Chg.of_below X3.out) (fun j hj=>by have:=own_lt HR.out.row hj;omega)
   clear hx3
   go_wp2_with (at_builtin;refine wpList_pushS _ rfl (.tmp 21) (.tmp 23) 47 rfl 93 _ 2 16 Tryz.underlying47 infoEdge rfl (by decide) (.slice B (d.filter p).length c) (d.filter p).length (rowsOf edC (d.filter p)) rfl (own_chg HROW.out ((Chg.refl (fun _=>False) _).alloc _) (fun _ _ h=>h)) ⟨by omega,by omega⟩ [.int .i64 x1,.int .i64 x2] w3.heap.size rfl rfl (news_cells rfl _ _) (by simp [Value.oneCell']) ?_;intro g5 c5 w5 ho5 hc5 hat5 _;have HA:=Lib.hid (HR.out.push HV2.out HC2.out (X3.out.trans (Ext.alloc _ _)) hpx (Nat.le_refl _) ho5 hc5 hat5);clear ho5 hc5 hat5)
   go_roundw
   case rel=>exact ⟨d++[(x1,x2)],some ⟨g5,0,none⟩,c5,by rw [List.filter_append];simp [hpx],HA.out.1⟩
   case measure=>have:=HA.out.2;have:=HLT.out;omega
set_option maxRecDepth 100000 in
theorem thoseT_any (h:GrM w G n N A f Es) (hok:∀ x∈A,0≤x.1∧x.1 < x.2∧x.2 < (n:Int)) (hup:A.Pairwise ltE) (hl:A.length≤200):
  Calls Tryz.prog 86 #[.pointer (some ⟨G.gb,0,none⟩),.func (.func 122) #[] #[]] w (EdgesPost w (A.filter fun x=>(f x).tr)):=by
 obtain ⟨p,hpe⟩:∃ p:AK.Ed→Bool,p=fun x=>(f x).tr:=⟨_,rfl⟩
 rw [←hpe]
 have c1:w.cell? ⟨G.gb,1,none⟩=some (.map (some G.eb)):=h.blk.cell 1
 have h60:=h.hn
 obtain ⟨me,k1,k2⟩:=h.edges
 have HM:=Lib.hid k2
 have HOK:=Lib.hid hok
 have HUP:=Lib.hid hup
 obtain ⟨w1,hrg,hvr,hb1,hs1⟩:=k1.range Tryz.underlying137
 have hrg:(Instr.range 137 (.map (some G.eb))).run Tryz.prog w=.ok (.pointer (some ⟨w.heap.size,0,none⟩)) w1:=hrg
 have HV:=Lib.hid hvr
 have HB:=Lib.hid hb1
 have HPE:=Lib.hid hpe
 clear h k1 k2 hvr hb1 hok hup hpe
 go_enter Tryz.func86,Tryz.ntmps86
 go_wp2
 go_loopw [5] (fun v wr=>∃ (d:List AK.Ed) (B:Option Addr) (c:Nat),v=.slice B (d.filter p).length c∧Hid (EgP w G.eb w.heap.size N A.length me p d (.slice B (d.filter p).length c) wr)) (fun _ wr=>wr.rangeLeft G.eb w.heap.size)
 case atStart=>exact ⟨[],none,0,rfl,HV.out,World.ownsRow_nil _ _ _ _,HB.out,fun j hj=>by simp [Value.ownBlock] at hj⟩
 case round=>
  obtain ⟨d,B,c,rfl,HR⟩:=hrel
  have hdA:∀ x∈d,x∈A:=fun x hx=>by
   have hok:=HR.out.vr.okd x hx
   obtain ⟨D,left,cnt,g1,g2,g3,g4⟩:=HR.out.vr.rg
   have:=((g4 x hok).2.1 hx).1
   rw [HM.out x hok] at this
   by_cases q:x∈A
   ·exact q
   ·rw [if_neg q] at this;simp at this
  have hdl:(d.filter p).length≤200:=by
   have h1:=nodup_le HR.out.vr.nd hdA
   have h2:=List.length_filter_le p d
   omega
  have HDA:=Lib.hid hdA
  clear hdA
  rcases HR.out.vr.next 0 with ⟨hnx,hall⟩ | ⟨x,v,w2,hox,hxd,hmx,hnx0,hvr2,hlt,hc2,hsz2,hen0⟩
  ·have HALL:=Lib.hid hall
   have hE:Hid (sortedE (d.filter p)=A.filter p):=by
    refine sorted_is (n:=n) h60.2 (fun x hx=>HOK.out x (List.mem_filter.1 hx).1) (HUP.out.filter _) (HR.out.vr.nd.filter _) fun x=>?_
    rw [List.mem_filter,List.mem_filter]
    constructor
    ·exact fun hx=>⟨HDA.out x hx.1,hx.2⟩
    ·intro hx
     have h3:=HOK.out x hx.1
     have hok:kE.ok x:=okE_of (by omega) (by omega)
     refine ⟨(HALL.out x hok).2 ?_,hx.2⟩
     rw [HM.out x hok,if_pos hx.1];rfl
   have hdl2:(d.filter p).length=(A.filter p).length:=by rw [←hE.out,sortedE_length]
   have hf:∀ x∈d.filter p,0≤x.1∧x.1 < 60∧0≤x.2∧x.2 < 60:=fun x hx=>by
    have:=HOK.out x (HDA.out x (List.mem_filter.1 hx).1);omega
   have RS:=Lib.hid (rising_any wr _ B c (d.filter p) rfl hf (by omega) HR.out.row)
   have HDL:=Lib.hid hdl2
   clear hall hf hdl2
   go_wp2_with fail
   refine RS.out.mono ?_
   rintro e w3 ⟨rfl,h1,h3⟩
   have H1:=Lib.hid h1
   have H3:=Lib.hid h3
   clear h1 h3
   go_wp2
   go_ret
   have q1:=H1.out
   have hdl:=HDL.out
   rw [hE.out] at q1
   rw [hdl] at q1 ⊢
   refine ⟨B,c,rfl,q1,((Chg.of_below HR.out.bel).trans H3.out (fun i hi hs=>HR.out.new i hs)).below (Nat.le_refl _) (fun _ _ h=>h),fun j hj=>HR.out.new j (by rw [hdl];exact hj)⟩
  ·have hxA:x∈A:=by
    rw [HM.out x hox] at hmx
    by_cases q:x∈A
    ·exact q
    ·rw [if_neg q] at hmx;cases hmx
   obtain ⟨x1,x2⟩:=x
   obtain ⟨s,hs⟩:∃ s,f (x1,x2)=s:=⟨_,rfl⟩
   have hv1:v=.agg #[.int .i64 s.lv,.bool s.tr]:=by
    rw [HM.out _ hox,if_pos hxA,hs] at hmx;exact (Option.some.inj hmx).symm
   subst hv1
   have hnx:(Instr.next (.pointer (some ⟨w.heap.size,0,none⟩)) false 0).run Tryz.prog wr=.ok (.tuple #[.bool true,.agg #[.int .i64 x1,.int .i64 x2],.agg #[.int .i64 s.lv,.bool s.tr]]) w2:=hnx0
   have hen:(Instr.entry (.pointer (some ⟨w.heap.size,0,none⟩))).run Tryz.prog w2=.ok (.tuple #[.agg #[.int .i64 x1,.int .i64 x2],.agg #[.int .i64 s.lv,.bool s.tr]]) w2:=hen0
   have hpx:p (x1,x2)=s.tr:=by have hq:=congrFun HPE.out (x1,x2);simpa [hs] using hq
   have HV2:=Lib.hid hvr2
   have HLT:=Lib.hid hlt
   have HC2:=Lib.hid hc2
   clear hnx0 hen0 hvr2 hlt hc2 hmx hxd hox hxA
   go_wp2_with fail
   refine (keepT_any _ s).mono ?_
   rintro e w3 ⟨rfl,hx3⟩
   have X3:Hid (Ext w2 w3):=(((Below.refl _ _).alloc (Nat.le_refl _) _).alloc (by simp) _:Below w2.heap.size w2 _).trans (Below.mono hx3 (by simp;omega))
   have y0:w3.cell? ⟨wr.heap.size,0,none⟩=some (.int .i64 x1):=by
    have h1:=((Blk.new w2 93 #[.int .i64 x1,.int .i64 x2]).alloc (.cells #[.int .i64 s.lv,.bool s.tr] 150)).chg (Chg.of_below hx3) (fun hh=>by simp at hh <;> omega)
    rw [hsz2] at h1
    exact h1.cell 0
   have y1:w3.cell? ⟨wr.heap.size,1,none⟩=some (.int .i64 x2):=by
    have h1:=((Blk.new w2 93 #[.int .i64 x1,.int .i64 x2]).alloc (.cells #[.int .i64 s.lv,.bool s.tr] 150)).chg (Chg.of_below hx3) (fun hh=>by simp at hh <;> omega)
    rw [hsz2] at h1
    exact h1.cell 1
   have HROW:Hid (DRow w3 (.slice B (d.filter p).length c) (d.filter p)):=by
    have hne:=HR.out.vr.own_ne HR.out.row
    exact own_chg (own_chg HR.out.row HC2.out (fun j hj e=>hne (by rw [hj,e]))) (Chg.of_below X3.out) (fun j hj=>by have:=own_lt HR.out.row hj;omega)
   clear hx3
   cases htr:s.tr with
   | true=>
    rw [htr] at hpx
    go_wp2_with (at_builtin;refine wpList_pushS _ rfl (.tmp 21) (.tmp 23) 47 rfl 93 _ 2 16 Tryz.underlying47 infoEdge rfl (by decide) (.slice B (d.filter p).length c) (d.filter p).length (rowsOf edC (d.filter p)) rfl (own_chg HROW.out ((Chg.refl (fun _=>False) _).alloc _) (fun _ _ h=>h)) ⟨by omega,by omega⟩ [.int .i64 x1,.int .i64 x2] w3.heap.size rfl rfl (news_cells rfl _ _) (by simp [Value.oneCell']) ?_;intro g5 c5 w5 ho5 hc5 hat5 _;have HA:=Lib.hid (HR.out.push HV2.out HC2.out (X3.out.trans (Ext.alloc _ _)) hpx (Nat.le_refl _) ho5 hc5 hat5);clear ho5 hc5 hat5)
    go_roundw
    case rel=>exact ⟨d++[(x1,x2)],some ⟨g5,0,none⟩,c5,by rw [List.filter_append];simp [hpx],HA.out.1⟩
    case measure=>have:=HA.out.2;have:=HLT.out;omega
   | false=>
    rw [htr] at hpx
    have HA:=Lib.hid (HR.out.skip HV2.out HC2.out X3.out hpx (Nat.le_refl _))
    go_wp2
    go_roundw
    case rel=>exact ⟨d++[(x1,x2)],B,c,by rw [List.filter_append];simp [hpx],by
       have e:((d++[(x1,x2)]).filter p).length=(d.filter p).length:=by rw [List.filter_append];simp [hpx]
       rw [e];exact HA.out.1⟩
    case measure=>have:=HA.out.2;have:=HLT.out;omega
end
section
variable {w:World} {G:GrP} {n N:Nat} {A:List AK.Ed} {f:AK.Ed→GM.St} {Es:Nat→List AK.Ed}
theorem gedges_any (h:GrM w G n N A f Es) (hok:∀ x∈A,0≤x.1∧x.1 < x.2∧x.2 < (n:Int)) (hup:A.Pairwise ltE) (hl:A.length≤200):
  Calls Tryz.prog 37 #[.pointer (some ⟨G.gb,0,none⟩)] w (EdgesPost w A):=by
 have hh:=thoseE_any h hok hup hl
 rw [show (A.filter fun _=>true)=A by simp] at hh
 have HH:=Lib.hid hh
 clear h hok hup hl hh
 go_enter Tryz.func37,Tryz.ntmps37
 go_wp2_with fail
 refine HH.out.mono ?_
 rintro e w1 ⟨B,c,rfl,h1⟩
 have H1:=Lib.hid h1
 clear h1
 go_wp2
 go_ret
 exact ⟨B,c,rfl,H1.out⟩
theorem gtree_any (h:GrM w G n N A f Es) (hok:∀ x∈A,0≤x.1∧x.1 < x.2∧x.2 < (n:Int)) (hup:A.Pairwise ltE) (hl:A.length≤200):
  Calls Tryz.prog 79 #[.pointer (some ⟨G.gb,0,none⟩)] w (EdgesPost w (GM.lvl f A 0)):=by
 have hh:=thoseT_any h hok hup hl
 rw [show (A.filter fun x=>(f x).tr)=GM.lvl f A 0 by simp [GM.lvl]] at hh
 have HH:=Lib.hid hh
 clear h hok hup hl hh
 go_enter Tryz.func79,Tryz.ntmps79
 go_wp2_with fail
 refine HH.out.mono ?_
 rintro e w1 ⟨B,c,rfl,h1⟩
 have H1:=Lib.hid h1
 clear h1
 go_wp2
 go_ret
 exact ⟨B,c,rfl,H1.out⟩
end
def GrP.T (G:GrP) (k:Nat):Prop:=G.S k∨∃ (i:Nat) (F:FoP),G.Fs[i]?=some F∧k=F.fb
structure GrC (w w':World) (G G':GrP):Prop where
 gb:G'.gb=G.gb
 eb:G'.eb=G.eb
 s:∀ k,G'.S k→G.S k∨w.heap.size≤k
 t:∀ k,G'.T k→G.T k∨w.heap.size≤k
 chg:Chg G.S w w'
section
variable {w w1 w' W:World} {G G1 G' H:GrP} {n N N':Nat} {A A2:List AK.Ed} {f f2:AK.Ed→GM.St} {Es Es2:Nat→List AK.Ed} {n2 N2:Nat} {S:Nat→Prop}
theorem GrC.refl (w:World) (G:GrP):GrC w w G G:=⟨rfl,rfl,fun _ h=>.inl h,fun _ h=>.inl h,Chg.refl _ _⟩
theorem GrC.trans (h:GrC w w1 G G1) (k:GrC w1 w' G1 G'):GrC w w' G G':=
 ⟨k.gb.trans h.gb,k.eb.trans h.eb,fun i hi=>(k.s i hi).elim (fun x=>h.s i x) (fun x=>.inr (Nat.le_trans h.chg.size x)),fun i hi=>(k.t i hi).elim (fun x=>h.t i x) (fun x=>.inr (Nat.le_trans h.chg.size x)),
  h.chg.trans k.chg fun i hi hs=>(h.s i hs).elim id (fun x=>by omega)⟩
theorem GrC.ext (h:GrC w w1 G G1) (hx:Ext w1 w'):GrC w w' G G1:=
 ⟨h.gb,h.eb,h.s,h.t,h.chg.trans (Chg.of_below hx) fun i hi hs=>by have:=h.chg.size;omega⟩
theorem GrC.of_ext (hx:Ext w w') (G:GrP):GrC w w' G G:=(GrC.refl w G).ext hx
theorem GrC.pre (hx:Ext w w1) (h:GrC w1 w' G G'):GrC w w' G G':=(GrC.of_ext hx G).trans h
theorem GrC.same (hc:Chg S w w') (hs:∀ k,S k→G.S k):GrC w w' G G:=⟨rfl,rfl,fun _ h=>.inl h,fun _ h=>.inl h,hc.mono fun k _ h=>hs k h⟩
theorem GrM.noseq (h:GrM w G n N A f Es):∀ k,G.S k→∀ cs,¬ Blk w k 296 cs:=by
 obtain ⟨me,m1,m2⟩:=h.edges
 rintro k (rfl | rfl | rfl | ⟨i,F,hi,hk⟩) cs hb
 ·exact Blk.ne_ h.blk hb (by decide) rfl
 ·exact m1.blk_ne hb rfl
 ·exact own_ne h.row hb (by decide) (by simp [GrP.fv,Value.ownBlock])
 ·exact (h.fo i F hi).noseq k hk cs hb
theorem GrM.ltT (h:GrM w G n N A f Es):∀ k,G.T k→k < w.heap.size:=by
 rintro k (hk | ⟨i,F,hi,rfl⟩)
 ·exact h.lt k hk
 ·exact (h.fo i F hi).lt.1
theorem GrM.cellF (h:GrM w G n N A f Es) {i:Nat} {F:FoP} (hi:G.Fs[i]?=some F):w.cell? ⟨G.ob,i,none⟩=some (.pointer (some ⟨F.fb,0,none⟩)):=by
 have hl:=(List.getElem?_eq_some_iff.1 hi).1
 have h1:w.ownsRow 0 141 1 (.slice (some ⟨G.ob,0,none⟩) G.Fs.length G.c) G.Fs.length (ptrF G.Fs):=h.row
 rw [h1.cellAt i (by omega),ptrF,List.getElem?_map,hi];rfl
theorem GrM.get (h:GrM w G n N A f Es) {i:Nat} (hi:i < G.Fs.length):∃ F,G.Fs[i]?=some F:=⟨_,List.getElem?_eq_getElem hi⟩
theorem infoTF:(Tryz.prog.info? 141).map (fun i=>(i.zero,i.size,i.bytes))=some (some (.pointer none),1,8):=by kernel_rfl
theorem GrM.more {w5:World} {o:Obj} {F:FoP} {g c:Nat} (h:GrM w G n N A f Es) (hx:Ext w w1) (hf:FoAt w1 F n n []) (hfb:w.heap.size≤F.fb) (hfs:∀ k,F.S k→w.heap.size≤k) (hnN:n≤N)
  (ho:w5.ownsRow 0 141 1 (.slice (some ⟨g,0,none⟩) (G.Fs.length+1) c) (G.Fs.length+1) (ptrF G.Fs++[.pointer (some ⟨F.fb,0,none⟩)])) (hc:Chg (fun k=>G.fv.ownBlock=some k) (w1.alloc o) w5)
  (hat:G.fv.ownBlock=some g∨g=(w1.alloc o).heap.size):
  Blk w5 G.gb 140 #[.int .i64 n,.map (some G.eb),G.fv]∧
  GrM (w5.setCell ⟨G.gb,2,none⟩ (.slice (some ⟨g,0,none⟩) (G.Fs.length+1) c)) ⟨G.gb,G.eb,g,c,G.Fs++[F]⟩ n N A f (fun i=>if i < G.Fs.length then Es i else [])∧
  GrC w (w5.setCell ⟨G.gb,2,none⟩ (.slice (some ⟨g,0,none⟩) (G.Fs.length+1) c)) G ⟨G.gb,G.eb,g,c,G.Fs++[F]⟩:=by
 have hob:∀ k,G.fv.ownBlock=some k↔G.ob=k:=fun k=>by simp [GrP.fv,Value.ownBlock]
 have hl:=h.lt
 have hlg:G.gb < w.heap.size:=hl _ (.inl rfl)
 have hle:G.eb < w.heap.size:=hl _ (.inr (.inl rfl))
 have hlo:G.ob < w.heap.size:=hl _ (.inr (.inr (.inl rfl)))
 have hs1:=hx.size
 have hg:g=G.ob∨w1.heap.size < g:=by
  rcases hat with hat | hat
  ·exact .inl ((hob g).1 hat).symm
  ·right;simp at hat;omega
 have hxa:Ext w (w1.alloc o):=hx.trans (Ext.alloc _ _)
 have ha:=h.ext hxa
 have hfa:FoAt (w1.alloc o) F n N []:=(hf.ext (Ext.alloc _ _)).mono hnN
 have hflt:=hf.lt
 obtain ⟨me,m1,m2⟩:=ha.edges
 have ngo:G.ob≠G.gb:=fun e=>own_ne h.row h.blk (by decide) ((hob _).2 e)
 have neo:G.ob≠G.eb:=fun e=>m1.own_ne ha.row ((hob _).2 e)
 have nge:G.gb≠G.eb:=m1.blk_ne ha.blk
 have hb5:Blk w5 G.gb 140 #[.int .i64 n,.map (some G.eb),G.fv]:=ha.blk.chg hc (fun e=>ngo ((hob _).1 e))
 have hggb:g≠G.gb:=by rcases hg with e | e <;> omega
 have hgeb:g≠G.eb:=by rcases hg with e | e <;> omega
 have hcs:Chg (fun k=>k=G.gb) w5 (w5.setCell ⟨G.gb,2,none⟩ (.slice (some ⟨g,0,none⟩) (G.Fs.length+1) c)):=chg_at _ _ _ _
 have noseq5:∀ k,G.fv.ownBlock=some k→∀ cs,¬ Blk (w1.alloc o) k 296 cs:=fun k hk=>ha.noseq k (.inr (.inr (.inl ((hob k).1 hk).symm)))
 have noseqg:∀ k,k=G.gb→∀ cs,¬ Blk w5 k 296 cs:=fun k hk cs hb=>by subst hk;exact Blk.ne_ hb5 hb (by decide) rfl
 have hcase:∀ (i:Nat) (H:FoP),(G.Fs++[F])[i]?=some H→G.Fs[i]?=some H∨(i=G.Fs.length∧H=F):=fun i H hi=>by
  rcases Nat.lt_or_ge i G.Fs.length with q | q
  ·rw [List.getElem?_append_left q] at hi;exact .inl hi
  ·rw [List.getElem?_append_right q] at hi
   have:i - G.Fs.length=0:=by have:=(List.getElem?_eq_some_iff.1 hi).1;simp at this;omega
   rw [this] at hi
   exact .inr ⟨by omega,(Option.some.inj hi).symm⟩
 have hall:Chg G.S w (w5.setCell ⟨G.gb,2,none⟩ (.slice (some ⟨g,0,none⟩) (G.Fs.length+1) c)):=
  ((Chg.new hxa G.S).trans hc (fun i _ hi=>.inr (.inr (.inl ((hob i).1 hi).symm)))).trans hcs (fun i _ hi=>.inl hi)
 refine ⟨hb5,⟨?_,h.hn,?_,by simp,fun i H hi=>?_,⟨me,(m1.chg hc (fun e=>neo ((hob _).1 e))).chg hcs (fun e=>nge e.symm),m2⟩,fun i j H K hi hj hij k hk=>?_,fun i H hi k hk=>?_⟩,⟨rfl,rfl,?_,?_,hall⟩⟩
 ·have:=hb5.set_ 2 (.slice (some ⟨g,0,none⟩) (G.Fs.length+1) c)
  simpa [GrP.fv] using this
 ·have e:ptrF (G.Fs++[F])=ptrF G.Fs++[.pointer (some ⟨F.fb,0,none⟩)]:=by simp [ptrF]
  have e2:(GrP.fv ⟨G.gb,G.eb,g,c,G.Fs++[F]⟩)=.slice (some ⟨g,0,none⟩) (G.Fs.length+1) c:=by simp [GrP.fv]
  have e3:(G.Fs++[F]).length=G.Fs.length+1:=by simp
  rw [e2]
  show World.ownsRow _ 0 _ 1 _ (G.Fs++[F]).length (ptrF (G.Fs++[F]))
  rw [e,e3]
  exact own_chg ho hcs (fun k hk e=>by
   have:g=k:=by simpa [Value.ownBlock] using hk
   exact hggb (this.trans e))
 ·rcases hcase i H hi with q | ⟨rfl,rfl⟩
  ·have hil:=(List.getElem?_eq_some_iff.1 q).1
   rw [if_pos hil]
   have a2:=ha.ap2 i H q
   have nfb:H.fb≠G.ob:=fun e=>own_ne ha.row (ha.fo i H q).blk (by decide) ((hob _).2 e.symm)
   have nfg:H.fb≠G.gb:=Blk.ne_ (ha.fo i H q).blk ha.blk (by decide)
   exact ((ha.fo i H q).chg hc (fun e=>nfb ((hob _).1 e).symm) (fun k hk e=>(a2 k hk).2.2 ((hob k).1 e).symm) noseq5).chg hcs nfg (fun k hk e=>(a2 k hk).1 e) noseqg
  ·rw [if_neg (Nat.lt_irrefl _)]
   exact (hfa.chg hc (fun e=>by have:=(hob _).1 e;omega) (fun k hk e=>by have:=(hob _).1 e;have:=hfs k hk;omega) noseq5).chg hcs (by omega) (fun k hk e=>by have:=hfs k hk;omega) noseqg
 ·rcases hcase i H hi with q | ⟨rfl,rfl⟩
  ·rcases hcase j K hj with r | ⟨rfl,rfl⟩
   ·exact h.ap i j H K q r hij k hk
   ·have hk2:=(h.fo i H q).lt.2 k hk
    exact ⟨fun x=>by have:=hfs k x;omega,by omega⟩
  ·rcases hcase j K hj with r | ⟨rfl,rfl⟩
   ·have hk2:=hfs k hk
    have hl2:=(h.fo j K r).lt
    exact ⟨fun x=>by have:=hl2.2 k x;omega,by omega⟩
   ·exact absurd rfl hij
 ·rcases hcase i H hi with q | ⟨rfl,rfl⟩
  ·have a2:=h.ap2 i H q k hk
   have hk2:=(h.fo i H q).lt.2 k hk
   exact ⟨a2.1,a2.2.1,by rcases hg with e | e;exact e ▸ a2.2.2;show k≠g;omega⟩
  ·have hk2:=hfs k hk
   have hk3:=hflt.2 k hk
   exact ⟨by show k≠G.gb;omega,by show k≠G.eb;omega,by show k≠g;rcases hg with e | e <;> omega⟩
 ·rintro k (e | e | e | ⟨i,H,hi,hk⟩)
  ·exact .inl (.inl e)
  ·exact .inl (.inr (.inl e))
  ·have e:k=g:=e
   rcases hg with q | q
   ·exact .inl (.inr (.inr (.inl (e.trans q))))
   ·right;omega
  ·rcases hcase i H hi with q | ⟨rfl,rfl⟩
   ·exact .inl (.inr (.inr (.inr ⟨i,H,q,hk⟩)))
   ·exact .inr (hfs k hk)
 ·rintro k ((e | e | e | ⟨i,H,hi,hk⟩) | ⟨i,H,hi,rfl⟩)
  ·exact .inl (.inl (.inl e))
  ·exact .inl (.inl (.inr (.inl e)))
  ·have e:k=g:=e
   rcases hg with q | q
   ·exact .inl (.inl (.inr (.inr (.inl (e.trans q)))))
   ·right;omega
  ·rcases hcase i H hi with q | ⟨rfl,rfl⟩
   ·exact .inl (.inl (.inr (.inr (.inr ⟨i,H,q,hk⟩))))
   ·exact .inr (hfs k hk)
  ·rcases hcase i H hi with q | ⟨rfl,rfl⟩
   ·exact .inl (.inr ⟨i,H,q,rfl⟩)
   ·exact .inr hfb
end
def GNewPost (w:World) (n:Nat) (e:Ending) (w':World):Prop:=∃ G:GrP,e=.returned (.tuple #[.pointer (some ⟨G.gb,0,none⟩),.nilIface])∧(∀ f,GrM w' G n n [] f (fun _=>[]))∧G.Fs.length=1∧Ext w w'∧∀ k,G.T k→w.heap.size≤k
theorem gnew_post {w w1:World} {n:Nat} {F:FoP} (hn:1≤n∧n≤60) (hf:FoAt w1 F n n []) (hx:Ext w w1) (hfb:w.heap.size≤F.fb) (hfs:∀ k,F.S k→w.heap.size≤k) (w4:World)
  (hw:w4=((w1.alloc (.map #[] 0)).alloc (.cells #[.pointer (some ⟨F.fb,0,none⟩)] 141)).alloc (.cells #[.int .i64 n,.map (some w1.heap.size),.slice (some ⟨w1.heap.size+1,0,none⟩) 1 1] 140)):
  ∃ G:GrP,G.gb=w1.heap.size+2∧(∀ f,GrM w4 G n n [] f (fun _=>[]))∧G.Fs.length=1∧Ext w w4∧∀ k,G.T k→w.heap.size≤k:=by
 have hs:=hx.size
 have hl:=hf.lt
 have x1:Ext w1 (w1.alloc (.map #[] 0)):=Ext.alloc _ _
 have x2:Ext w1 ((w1.alloc (.map #[] 0)).alloc (.cells #[.pointer (some ⟨F.fb,0,none⟩)] 141)):=x1.trans (Ext.alloc _ _)
 have x4:Ext w1 w4:=hw ▸ x2.trans (Ext.alloc _ _)
 have e1:(w1.alloc (.map #[] 0)).heap.size=w1.heap.size+1:=by simp
 have e2:((w1.alloc (.map #[] 0)).alloc (.cells #[.pointer (some ⟨F.fb,0,none⟩)] 141)).heap.size=w1.heap.size+2:=by simp
 have hfi:∀ (i:Nat) (H:FoP),([F]:List FoP)[i]?=some H→i=0∧H=F:=fun i H hi=>by
  have:i=0:=by have:=(List.getElem?_eq_some_iff.1 hi).1;simp at this;omega
  subst this;exact ⟨rfl,by simpa using hi.symm⟩
 refine ⟨⟨w1.heap.size+2,w1.heap.size,w1.heap.size+1,1,[F]⟩,rfl,fun f=>⟨?_,hn,?_,by simp,fun i H hi=>?_,⟨fun _=>none,?_,fun x _=>by simp⟩,fun i j H K hi hj hij=>?_,fun i H hi k hk=>?_⟩,rfl,hx.trans x4,?_⟩
 ·have:=Blk.new ((w1.alloc (.map #[] 0)).alloc (.cells #[.pointer (some ⟨F.fb,0,none⟩)] 141)) 140 #[.int .i64 n,.map (some w1.heap.size),.slice (some ⟨w1.heap.size+1,0,none⟩) 1 1]
  rw [e2,←hw] at this
  exact this
 ·have:=World.ownsRow_lit (w1.alloc (.map #[] 0)) #[.pointer (some ⟨F.fb,0,none⟩)] (e:=141) (size:=1) (base:=0) 1 (Nat.zero_le _) (by unfold maxLen;omega) rfl
  rw [e1] at this
  have h2:=own_chg this (Chg.of_below (Ext.alloc _ (.cells #[.int .i64 n,.map (some w1.heap.size),.slice (some ⟨w1.heap.size+1,0,none⟩) 1 1] 140))) (fun k hk=>by have:=own_lt this hk;omega)
  rw [←hw] at h2
  exact h2
 ·obtain ⟨_,rfl⟩:=hfi i H hi
  exact hf.ext x4
 ·have h3:=(VM.made kE w1).ext (((Below.refl (w1.alloc (.map #[] 0)).heap.size (w1.alloc (.map #[] 0))).alloc (Nat.le_refl _) (.cells #[.pointer (some ⟨F.fb,0,none⟩)] 141)).alloc (by simp) (.cells #[.int .i64 n,.map (some w1.heap.size),.slice (some ⟨w1.heap.size+1,0,none⟩) 1 1] 140))
  rw [←hw] at h3
  exact h3.mono (Nat.zero_le _)
 ·have:=(hfi i H hi).1;have:=(hfi j K hj).1;omega
 ·obtain ⟨_,rfl⟩:=hfi i H hi
  have:=hl.2 k hk
  exact ⟨by show k≠w1.heap.size+2;omega,by show k≠w1.heap.size;omega,by show k≠w1.heap.size+1;omega⟩
 ·rintro k ((e | e | e | ⟨i,H,hi,hk⟩) | ⟨i,H,hi,rfl⟩)
  ·have e:k=w1.heap.size+2:=e
   omega
  ·have e:k=w1.heap.size:=e
   omega
  ·have e:k=w1.heap.size+1:=e
   omega
  ·obtain ⟨_,rfl⟩:=hfi i H hi
   exact hfs k hk
  ·obtain ⟨_,rfl⟩:=hfi i H hi
   exact hfb
theorem gnew_ok (w:World) (n:Nat) (hn:1≤n∧n≤60):Calls Tryz.prog 67 #[.int .i64 n] w (GNewPost w n):=by
 have hmm:=@run_makeMap Tryz.prog
 go_enter Tryz.func67,Tryz.ntmps67
 go_wp2_with fail
 refine (tnew_ok w n hn).mono ?_
 rintro e w1 ⟨F,rfl,hf1,hx1,hfb,hfs⟩
 obtain ⟨F0,hF0⟩:∃ F0,F.fb=F0:=⟨_,rfl⟩
 have HP:=Lib.hid (gnew_post hn hf1 hx1 hfb hfs _ rfl)
 rw [hF0] at HP ⊢
 clear hf1 hx1 hfb hfs
 go_wp2
 go_ret2
 obtain ⟨G,g1,g2,g3,g4,g5⟩:=HP.out
 exact ⟨G,congrArg (fun z=>Ending.returned (.tuple #[.pointer (some ⟨z,0,none⟩),.nilIface])) g1.symm,g2,g3,g4,g5⟩
section
variable {w:World} {G:GrP} {n N:Nat} {A:List AK.Ed} {f:AK.Ed→GM.St} {Es:Nat→List AK.Ed}
theorem gnode_any (h:GrM w G n N A f Es) (a:Int) (r:Bool) (hr:r=decide (0≤a∧a < n)):
  Calls Tryz.prog 105 #[.pointer (some ⟨G.gb,0,none⟩),.int .i64 a] w fun e w'=>e=.returned (.bool r)∧w=w':=by
 have c1:w.cell? ⟨G.gb,0,none⟩=some (.int .i64 n):=h.blk.cell 0
 subst hr
 clear h
 by_cases h1:0≤a
 ·by_cases h2:a < n
  ·have q:decide (0≤a∧a < (n:Int))=true:=by simp;omega
   rw [q]
   go_enter Tryz.func105,Tryz.ntmps105
   go_wp2
   go_ret
   exact ⟨rfl,rfl⟩
  ·have q:decide (0≤a∧a < (n:Int))=false:=by simp;omega
   rw [q]
   go_enter Tryz.func105,Tryz.ntmps105
   go_wp2
   go_ret
   exact ⟨rfl,rfl⟩
 ·have q:decide (0≤a∧a < (n:Int))=false:=by simp;omega
  rw [q]
  go_enter Tryz.func105,Tryz.ntmps105
  go_wp2
  go_ret
  exact ⟨rfl,rfl⟩
def ForPost (w:World) (G:GrP) (n N:Nat) (A:List AK.Ed) (f:AK.Ed→GM.St) (Es:Nat→List AK.Ed) (lv:Nat) (e:Ending) (w':World):Prop:=∃ (G':GrP) (F:FoP),e=.returned (.tuple #[.pointer (some ⟨F.fb,0,none⟩),.nilIface])∧G'.Fs[lv]?=some F∧GrM w' G' n N A f (fun i=>if i < G.Fs.length then Es i else [])∧GrC w w' G G'∧G.Fs.length≤G'.Fs.length∧G'.Fs.length≤lv+1+G.Fs.length∧(G'.Fs.length=G.Fs.length∨(G'.Fs.length=G.Fs.length+1∧lv=G.Fs.length))
def lenAt (wr:World) (G:GrP):Nat:=match wr.cell? ⟨G.gb,2,none⟩ with | some (.slice _ m _)=>G.Fs.length+1 - m | _=>0
set_option maxRecDepth 100000 in
theorem gforest_any (h:GrM w G n N A f Es) (hnN:n≤N) (lv:Nat) (hlv:lv≤G.Fs.length) (h8:G.Fs.length≤20):
  Calls Tryz.prog 224 #[.pointer (some ⟨G.gb,0,none⟩),.int .i64 lv] w (ForPost w G n N A f Es lv):=by
 have h60:=h.hn
 have hpos:=h.pos
 by_cases hc:lv < G.Fs.length
 ·obtain ⟨F,hF⟩:=h.get hc
  have c2:w.cell? ⟨G.gb,2,none⟩=some (.slice (some ⟨G.ob,0,none⟩) G.Fs.length G.c):=h.blk.cell 2
  have c3:=h.cellF hF
  have z1:¬ (G.Fs.length:Int)≤(lv:Int):=by omega
  have z2:(lv:Int) < (G.Fs.length:Int):=by omega
  have H:=Lib.hid (h.congr (Es':=fun i=>if i < G.Fs.length then Es i else []) (fun i hi=>if_pos hi))
  clear h
  go_enter Tryz.func224,Tryz.ntmps224
  go_wp2
  go_loopw [] (fun wr=>wr=w) (fun _=>0)
  case atStart=>rfl
  case round=>
   subst hrel
   go_wp2
   go_ret2
   exact ⟨G,F,rfl,hF,H.out,GrC.refl _ _,Nat.le_refl _,by omega,.inl rfl⟩
 ·obtain rfl:lv=G.Fs.length:=by omega
  have H0:=Lib.hid h
  obtain ⟨L,hL⟩:∃ L,G.Fs.length=L:=⟨_,rfl⟩
  have HL:=Lib.hid hL
  rw [hL] at hlv hc h8 hpos ⊢
  clear hlv hc h
  clear hL
  go_enter Tryz.func224,Tryz.ntmps224
  go_wp2
  go_loopw [6] (fun _ wr=>(wr=w∨∃ (G':GrP) (F:FoP),G'.Fs[L]?=some F∧G'.Fs.length=L+1∧G'.gb=G.gb∧Hid (GrM wr G' n N A f (fun i=>if i < L then Es i else [])∧GrC w wr G G'))) (fun _ wr=>lenAt wr G)
  case atStart=>exact .inl rfl
  case round=>
   rcases hrel with rfl | ⟨G',F,hF,hl',hgb,HR⟩
   ·have hb:=H0.out.blk
    have c2:wr.cell? ⟨G.gb,2,none⟩=some (.slice (some ⟨G.ob,0,none⟩) G.Fs.length G.c):=hb.cell 2
    have c0:wr.cell? ⟨G.gb,0,none⟩=some (.int .i64 n):=hb.cell 0
    have hm0:lenAt wr G=1:=by unfold lenAt;rw [c2];simp
    rw [HL.out] at c2
    clear hb
    go_wp2_with fail
    refine (tnew_ok wr n h60).mono ?_
    rintro e w1 ⟨F,rfl,hf1,hx1,hfb,hfs⟩
    have HN:Hid (FoAt w1 F n n []∧Ext wr w1∧wr.heap.size≤F.fb∧∀ k,F.S k→wr.heap.size≤k):=⟨hf1,hx1,hfb,hfs⟩
    have H1:=Lib.hid (H0.out.ext hx1)
    have hbl:=H1.out.blk.lt
    have e2:w1.cell? ⟨G.gb,2,none⟩=some (.slice (some ⟨G.ob,0,none⟩) L G.c):=by rw [←HL.out];exact H1.out.blk.cell 2
    have e3:∀ o,(w1.alloc o).cell? ⟨G.gb,2,none⟩=some (.slice (some ⟨G.ob,0,none⟩) L G.c):=fun o=>by rw [←HL.out];exact (H1.out.blk.alloc o).cell 2
    have HROW:Hid (∀ o,(w1.alloc o).ownsRow 0 141 1 (.slice (some ⟨G.ob,0,none⟩) L G.c) L (ptrF G.Fs)):=fun o=>by have:=(H1.out.ext (Ext.alloc _ o)).row;unfold GrP.fv at this;rw [HL.out] at this;exact this
    have HSTEP:Hid (∀ (g5 c5:Nat) (w5:World) (o:Obj),w5.ownsRow 0 141 1 (.slice (some ⟨g5,0,none⟩) (L+1) c5) (L+1) (ptrF G.Fs++[.pointer (some ⟨F.fb,0,none⟩)])→Chg (fun k=>(Value.slice (some ⟨G.ob,0,none⟩) L G.c).ownBlock=some k) (w1.alloc o) w5→((Value.slice (some ⟨G.ob,0,none⟩) L G.c).ownBlock=some g5∨g5=(w1.alloc o).heap.size)→
      w5.cell? ⟨G.gb,2,none⟩=some (.slice (some ⟨G.ob,0,none⟩) L G.c)∧w5.frozen? ⟨G.gb,2,none⟩=false∧lenAt (w5.setCell ⟨G.gb,2,none⟩ (.slice (some ⟨g5,0,none⟩) (L+1) c5)) G=0∧
      ∃ (G':GrP),G'.Fs[L]?=some F∧G'.Fs.length=L+1∧G'.gb=G.gb∧GrM (w5.setCell ⟨G.gb,2,none⟩ (.slice (some ⟨g5,0,none⟩) (L+1) c5)) G' n N A f (fun i=>if i < L then Es i else [])∧GrC wr (w5.setCell ⟨G.gb,2,none⟩ (.slice (some ⟨g5,0,none⟩) (L+1) c5)) G G'):=by
     intro g5 c5 w5 o a1 a2 a3
     rw [←HL.out] at a1 a2 a3 ⊢
     have hh:=H0.out.more HN.out.2.1 HN.out.1 HN.out.2.2.1 HN.out.2.2.2 hnN a1 a2 a3
     have hb:=hh.1.set_ 2 (.slice (some ⟨g5,0,none⟩) (G.Fs.length+1) c5)
     refine ⟨hh.1.cell 2,hh.1.frozen 2,?_,⟨G.gb,G.eb,g5,c5,G.Fs++[F]⟩,?_,?_,rfl,hh.2.1,hh.2.2⟩
     ·unfold lenAt;rw [hb.cell 2];simp
     ·show (G.Fs++[F])[G.Fs.length]?=some F;simp
     ·show (G.Fs++[F]).length=G.Fs.length+1;simp
    clear hf1 hx1 hfb hfs c0 c2
    go_wp2_with (at_builtin;refine wpList_push _ rfl (.tmp 30) (.tmp 32) 138 rfl 141 (.pointer none) 8 Tryz.underlying138 infoTF rfl (.slice (some ⟨G.ob,0,none⟩) L G.c) L (ptrF G.Fs) rfl (HROW.out _) ⟨by have:=HL.out;omega,by omega⟩ (.pointer (some ⟨F.fb,0,none⟩)) w1.heap.size rfl (cell_new1 rfl _ _) rfl ?_;intro g5 c5 w5 ho5 hc5 hat5 _;have HP:=Lib.hid (HSTEP.out g5 c5 w5 _ ho5 hc5 hat5);have q1:w5.cell? ⟨G.gb,2,none⟩=some (.slice (some ⟨G.ob,0,none⟩) L G.c):=HP.out.1;have q2:w5.frozen? ⟨G.gb,2,none⟩=false:=HP.out.2.1;clear ho5 hc5 hat5)
    go_roundw
    case rel=>
     obtain ⟨_,_,_,G',b1,b2,b3,b4,b5⟩:=HP.out
     exact .inr ⟨G',F,b1,b2,b3,⟨b4,b5⟩⟩
    case measure=>rw [hm0,HP.out.2.2.1];omega
   ·obtain ⟨m,hm⟩:∃ m,G'.Fs.length=m:=⟨_,rfl⟩
    have c2:wr.cell? ⟨G.gb,2,none⟩=some (.slice (some ⟨G'.ob,0,none⟩) m G'.c):=by rw [←hgb,←hm];exact HR.out.1.blk.cell 2
    have c3:=HR.out.1.cellF hF
    have HX:Hid (G.Fs.length=L∧G'.Fs.length=m∧m=L+1∧G'.Fs[L]?=some F):=⟨HL.out,hm,by omega,hF⟩
    have z1:¬ (m:Int)≤(L:Int):=by omega
    have z2:(L:Int) < (m:Int):=by omega
    clear hm hF hl' hgb H0
    go_wp2
    go_ret2
    obtain ⟨x1,x2,x3,x4⟩:=HX.out
    refine ⟨G',F,rfl,x4,by rw [x1];exact HR.out.1,HR.out.2,by omega,by omega,.inr ⟨by omega,by omega⟩⟩
end
theorem zeroState (w:World):(zeroValue 150).run Tryz.prog w=.ok (.agg #[.int .i64 0,.bool false]) w:=by kernel_rfl
theorem Ext.set_ {w W:World} (h:Ext w W) {p:Addr} (hp:w.heap.size≤p.block) (v:Value):Ext w (W.setCell p v):=Below.setCell h hp v
theorem keepS {w W:World} {P:World→Prop} (H:∀ W,Ext w W→P W) (hE:Ext w W):Ext w W∧P W:=⟨hE,H W hE⟩
section
variable {w:World} {G:GrP} {n N:Nat} {A:List AK.Ed} {f:AK.Ed→GM.St} {Es:Nat→List AK.Ed}
theorem okE_ek {a b:Int} (ha:0≤a∧a≤1000) (hb:0≤b∧b≤1000):okE (AK.ek a b):=okE_of (by unfold AK.ek;simp only;omega) (by unfold AK.ek;simp only;omega)
theorem GrM.look_ok (h:GrM w G n N A f Es) (x:AK.Ed) (hx:okE x) {z:Value} {ok:Bool} (hz:(if x∈A then stV (f x) else .agg #[.int .i64 0,.bool false])=z) (hk:decide (x∈A)=ok):(Instr.lookup 137 (.map (some G.eb)) (edV x) true).run Tryz.prog w=.ok (.tuple #[z,.bool ok]) w:=by
 obtain ⟨me,m1,m2⟩:=h.edges
 have:(Instr.lookup 137 (.map (some G.eb)) (edV x) true).run Tryz.prog w=_:=m1.look_ok Tryz.underlying137 (zeroState _) x hx
 rw [m2 x hx] at this
 subst hz;subst hk
 by_cases q:x∈A
 ·rw [if_pos q] at this ⊢;simpa [q] using this
 ·rw [if_neg q] at this ⊢;simpa [q] using this
theorem GrM.look (h:GrM w G n N A f Es) (x:AK.Ed) (hx:okE x) {z:Value} (hz:(if x∈A then stV (f x) else .agg #[.int .i64 0,.bool false])=z):(Instr.lookup 137 (.map (some G.eb)) (edV x) false).run Tryz.prog w=.ok z w:=by
 obtain ⟨me,m1,m2⟩:=h.edges
 have:(Instr.lookup 137 (.map (some G.eb)) (edV x) false).run Tryz.prog w=_:=m1.look Tryz.underlying137 (zeroState _) x hx
 rw [m2 x hx] at this
 subst hz
 by_cases q:x∈A
 ·rw [if_pos q] at this ⊢;simpa using this
 ·rw [if_neg q] at this ⊢;simpa using this
theorem gjoined_range (h:GrM w G n N A f Es) (a b:Int) (hr:¬ (0≤a∧a < n)∨¬ (0≤b∧b < n)):
  Calls Tryz.prog 151 #[.pointer (some ⟨G.gb,0,none⟩),.int .i64 a,.int .i64 b] w fun e w'=>e=.returned (.tuple #[.bool false,errV 1])∧w=w':=by
 obtain ⟨F,hF⟩:=h.get h.pos
 have c2:w.cell? ⟨G.gb,2,none⟩=some (.slice (some ⟨G.ob,0,none⟩) G.Fs.length G.c):=h.blk.cell 2
 have c3:=h.cellF hF
 have hpos:(0:Int) < (G.Fs.length:Int):=by have:=h.pos;omega
 have HT:=Lib.hid (tsame_range (h.fo 0 F hF) a b hr)
 clear h hr
 go_enter Tryz.func151,Tryz.ntmps151
 go_wp2_with fail
 refine HT.out.mono ?_
 rintro e w' ⟨rfl,rfl⟩
 go_wp2
 go_ret2
 exact ⟨rfl,rfl⟩
theorem gjoined_ok (h:GrM w G n N A f Es) (a b:Nat) (ha:a < n) (hb:b < n) (t:Bool) (ht:t=true↔Cn (adj (Es 0)) a b):
  Calls Tryz.prog 151 #[.pointer (some ⟨G.gb,0,none⟩),.int .i64 a,.int .i64 b] w fun e w'=>e=.returned (.tuple #[.bool t,.nilIface])∧Ext w w':=by
 obtain ⟨F,hF⟩:=h.get h.pos
 have c2:w.cell? ⟨G.gb,2,none⟩=some (.slice (some ⟨G.ob,0,none⟩) G.Fs.length G.c):=h.blk.cell 2
 have c3:=h.cellF hF
 have hpos:(0:Int) < (G.Fs.length:Int):=by have:=h.pos;omega
 have HT:=Lib.hid (tsame_ok (h.fo 0 F hF) a b ha hb t ht)
 clear h ht
 go_enter Tryz.func151,Tryz.ntmps151
 go_wp2_with fail
 refine HT.out.mono ?_
 rintro e w' ⟨rfl,hx⟩
 have HX:=Lib.hid hx
 clear hx
 go_wp2
 go_ret2
 exact ⟨rfl,HX.out⟩
theorem gsize_range (h:GrM w G n N A f Es) (a:Int) (hr:¬ (0≤a∧a < n)):
  Calls Tryz.prog 33 #[.pointer (some ⟨G.gb,0,none⟩),.int .i64 a] w fun e w'=>e=.returned (.tuple #[.int .i64 0,errV 1])∧w=w':=by
 obtain ⟨F,hF⟩:=h.get h.pos
 have c2:w.cell? ⟨G.gb,2,none⟩=some (.slice (some ⟨G.ob,0,none⟩) G.Fs.length G.c):=h.blk.cell 2
 have c3:=h.cellF hF
 have hpos:(0:Int) < (G.Fs.length:Int):=by have:=h.pos;omega
 have HT:=Lib.hid (tsize_range (h.fo 0 F hF) a hr)
 clear h hr
 go_enter Tryz.func33,Tryz.ntmps33
 go_wp2_with fail
 refine HT.out.mono ?_
 rintro e w' ⟨rfl,rfl⟩
 go_wp2
 go_ret2
 exact ⟨rfl,rfl⟩
theorem gsize_ok (h:GrM w G n N A f Es) (a:Nat) (ha:a < n):
  Calls Tryz.prog 33 #[.pointer (some ⟨G.gb,0,none⟩),.int .i64 a] w fun e w'=>e=.returned (.tuple #[.int .i64 ((comp n (Es 0) a).length:Nat),.nilIface])∧Ext w w':=by
 obtain ⟨F,hF⟩:=h.get h.pos
 have c2:w.cell? ⟨G.gb,2,none⟩=some (.slice (some ⟨G.ob,0,none⟩) G.Fs.length G.c):=h.blk.cell 2
 have c3:=h.cellF hF
 have hpos:(0:Int) < (G.Fs.length:Int):=by have:=h.pos;omega
 have HT:=Lib.hid (tsize_ok (h.fo 0 F hF) a ha)
 clear h ha
 generalize (comp n (Es 0) a).length=m at HT ⊢
 go_enter Tryz.func33,Tryz.ntmps33
 go_wp2_with fail
 refine HT.out.mono ?_
 rintro e w' ⟨rfl,hx⟩
 have HX:=Lib.hid hx
 clear hx
 go_wp2
 go_ret2
 exact ⟨rfl,HX.out⟩
set_option maxRecDepth 100000 in
theorem gparts_any (h:GrM w G n N A f Es) (hok:∀ x∈A,0≤x.1∧x.1 < x.2∧x.2 < (n:Int)) (hup:A.Pairwise ltE) (hl:A.length≤200):
  Calls Tryz.prog 32 #[.pointer (some ⟨G.gb,0,none⟩)] w fun e w'=>e=.returned (.int .i64 ((n:Int) - (GM.lvl f A 0).length))∧Ext w w':=by
 have h60:=h.hn
 have c0:w.cell? ⟨G.gb,0,none⟩=some (.int .i64 n):=h.blk.cell 0
 have hlt:=h.blk.lt
 have hll:(GM.lvl f A 0).length≤200:=Nat.le_trans (List.length_filter_le _ _) hl
 have HT:Hid (∀ W,Ext w W→Calls Tryz.prog 79 #[.pointer (some ⟨G.gb,0,none⟩)] W (EdgesPost W (GM.lvl f A 0))):=fun W hW=>gtree_any (h.ext hW) hok hup hl
 have KG:Hid (∀ W,Ext w W→W.cell? ⟨G.gb,0,none⟩=some (.int .i64 n)):=fun W hW=>(hW.cell (p:=⟨G.gb,0,none⟩) hlt).trans c0
 clear h hok hup hl
 generalize GM.lvl f A 0=L at HT hll ⊢
 have hwr:IntKind.i64.wrap ((n:Int) - (L.length:Int))=(n:Int) - (L.length:Int):=IntWalk.i64_in _ (by omega)
 go_enter Tryz.func32,Tryz.ntmps32
 go_wp2
 go_region_held3 (fun w'=>Ext w w'∧w'.cell? ⟨G.gb,0,none⟩=some (.int .i64 n))
  ((refine keepS KG.out ?_;first | assumption | exact fst_ (by assumption) | exact Ext.trans (by assumption) (Ext.alloc _ _) | exact Ext.drew _ | exact Ext.refl _ | exact Ext.trans (fst_ (by assumption)) (by assumption) | (trace_state;fail)))
  (first
   | (go_at_call 79;refine (HT.out _ (Ext.drew _)).mono ?_;rintro e w7 ⟨B,c,rfl,hb7,hx7,hn7⟩;have X7:Ext w w7:=Ext.trans (Ext.drew _) hx7;clear hb7 hn7 hx7)
   | fail)
 go_wp2
 all_goals go_ret
 all_goals exact ⟨rfl,by first | assumption | exact fst_ (by assumption)⟩
end
end Go.Proofs.YtkoajpeabicpdaaGreatDoor
