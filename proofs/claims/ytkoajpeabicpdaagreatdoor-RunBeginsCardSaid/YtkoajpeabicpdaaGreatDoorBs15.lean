/-
Forests as they lie in memory. No conditions.
-/
import Derived.Test.YtkoajpeabicpdaaGreatDoorBs13
import Derived.Test.YtkoajpeabicpdaaGreatDoorBs14
import Derived.Test.YtkoajpeabicpdaaGreatDoorBs7
import Derived.Test.YtkoajpeabicpdaaGreatDoorProg
import Derived.Shelf.Slices.Turned
import Derived.Shelf.SlicesE.DeleteFunc
import Derived.WalkSpells
import Derived.Lib.Hide
import Derived.Outline
import Derived.Deep.QuietTactic
import Derived.BigQuiet
import Derived.StillTailTactics
set_option linter.unusedVariables false
set_option maxHeartbeats 8000000
namespace Go.Proofs.YtkoajpeabicpdaaGreatDoor
open Go Go.RowKit SQ TR DF PD
theorem SeqAt.chg2 {S:Nat→Prop} {w w':World} (hc:Chg S w w') (hS:∀ k,S k→∀ cs,¬ Blk w k 296 cs):∀ {t:T} {p:Option Addr},SeqAt w p t→SeqAt w' p t
 | .nil,_,h=>h
 | .node _ _ _,_,⟨b,lp,rp,h1,h2,h3,h4⟩=>⟨b,lp,rp,h1,h2.chg hc (fun h=>hS b h _ h2),h3.chg2 hc hS,h4.chg2 hc hS⟩
theorem RowAt.chg {S:Nat→Prop} {w w':World} {p:Option Addr} {xs:List Int} (h:RowAt w p xs) (hc:Chg S w w') (hS:∀ k,S k→∀ cs,¬ Blk w k 296 cs):RowAt w' p xs:=by
 obtain ⟨t,h1,h2⟩:=h;exact ⟨t,h1.chg2 hc hS,h2⟩
structure FoP where
 fb:Nat
 mb:Nat
 rb:Nat
 eb:Nat
 c:Nat
def FoP.S (F:FoP) (k:Nat):Prop:=k=F.mb∨k=F.rb∨k=F.eb
def FoP.rv (F:FoP) (n:Nat):Value:=.slice (some ⟨F.rb,0,none⟩) n F.c
def RootAt (w:World) (F:FoP) (n:Nat) (p:List Int):Prop:=w.ownsRow 0 3 1 (F.rv n) n (intsV p)
def WaysAt (w:World) (n:Nat) (E:List AK.Ed) (p:List Int) (m:Int→Option Value):Prop:=∀ r:Nat,r < n→g p r=r→∃ q l,m r=some (.pointer q)∧RowAt w q l∧TR.Way (adj E) r l
def EdgesAre (E:List AK.Ed) (me:AK.Ed→Option Value):Prop:=∀ x,okE x→me x=if x∈E then some (.int .i64 1) else none
structure FoAt (w:World) (F:FoP) (n N:Nat) (E:List AK.Ed):Prop where
 blk:Blk w F.fb 216 #[.map (some F.mb),F.rv n,.map (some F.eb)]
 hn:1≤n∧n≤60
 fo:Fo n E
 ne:F.mb≠F.eb
 ways:∃ p s m,Pts n E p∧RootAt w F n p∧VM kI w F.mb N s m∧WaysAt w n E p m
 edges:∃ me,VM kE w F.eb N E.length me∧EdgesAre E me
section
variable {w w':World} {F:FoP} {n N:Nat} {E:List AK.Ed} {S:Nat→Prop}
theorem FoAt.chg (h:FoAt w F n N E) (hc:Chg S w w') (hf:¬ S F.fb) (hS:∀ k,F.S k→¬ S k) (hq:∀ k,S k→∀ cs,¬ Blk w k 296 cs):FoAt w' F n N E:=by
 obtain ⟨p,s,m,h1,h2,h3,h4⟩:=h.ways
 obtain ⟨me,k1,k2⟩:=h.edges
 refine ⟨h.blk.chg hc hf,h.hn,h.fo,h.ne,⟨p,s,m,h1,own_chg h2 hc (fun k hk=>hS k (by simp [FoP.rv,Value.ownBlock] at hk;exact .inr (.inl hk.symm))),h3.chg hc (hS _ (.inl rfl)),fun r hr hg=>?_⟩,⟨me,k1.chg hc (hS _ (.inr (.inr rfl))),k2⟩⟩
 obtain ⟨q,l,a1,a2,a3⟩:=h4 r hr hg
 exact ⟨q,l,a1,a2.chg hc hq,a3⟩
theorem FoAt.lt (h:FoAt w F n N E):F.fb < w.heap.size∧∀ k,F.S k→k < w.heap.size:=by
 obtain ⟨p,s,m,h1,h2,h3,h4⟩:=h.ways
 obtain ⟨me,k1,k2⟩:=h.edges
 refine ⟨h.blk.lt,?_⟩
 rintro k (rfl | rfl | rfl)
 ·exact h3.lt
 ·exact own_lt h2 (by simp [FoP.rv,Value.ownBlock])
 ·exact k1.lt
theorem FoAt.noseq (h:FoAt w F n N E):∀ k,F.S k→∀ cs,¬ Blk w k 296 cs:=by
 obtain ⟨p,s,m,h1,h2,h3,h4⟩:=h.ways
 obtain ⟨me,k1,k2⟩:=h.edges
 rintro k (rfl | rfl | rfl) cs hb
 ·exact h3.blk_ne hb rfl
 ·exact own_ne h2 hb (by decide) rfl
 ·exact k1.blk_ne hb rfl
theorem FoAt.ext (h:FoAt w F n N E) (hx:Ext w w'):FoAt w' F n N E:=by
 have hl:=h.lt
 exact h.chg (Chg.of_below hx) (by omega) (fun k hk hk2=>by have:=hl.2 k hk;omega) (fun k hk cs hb=>by have:=hb.lt;omega)
theorem FoAt.mono (h:FoAt w F n N E) {N':Nat} (hN:N≤N'):FoAt w F n N' E:=by
 obtain ⟨p,s,m,h1,h2,h3,h4⟩:=h.ways
 obtain ⟨me,k1,k2⟩:=h.edges
 exact ⟨h.blk,h.hn,h.fo,h.ne,⟨p,s,m,h1,h2,h3.mono hN,h4⟩,⟨me,k1.mono hN,k2⟩⟩
theorem FoAt.fb_ne (h:FoAt w F n N E):¬ F.S F.fb:=by
 obtain ⟨p,s,m,h1,h2,h3,h4⟩:=h.ways
 obtain ⟨me,k1,k2⟩:=h.edges
 rintro (e | e | e)
 ·exact h3.blk_ne h.blk e
 ·exact own_ne h2 h.blk (by decide) (by simp [FoP.rv,Value.ownBlock,e])
 ·exact k1.blk_ne h.blk e
end
structure SetR (n:Nat) (M:List Int) (r:Nat) (q:Option Addr) (p:List Int) (m:Int→Option Value) (p':List Int) (m':Int→Option Value):Prop where
 len:p'.length=p.length
 g:∀ v:Nat,v < n→PD.g p' v=if (v:Int)∈M then (r:Int) else PD.g p v
 m:∀ x:Int,m' x=if x=r then some (.pointer q) else if x∈M then none else m x
section
variable {w:World} {n:Nat} {E E':List AK.Ed} {p p':List Int} {m m':Int→Option Value}
theorem state_of (hn:n≤60) (hok:∀ x∈E',0≤x.1∧x.1 < x.2∧x.2 < (n:Int)) (hl:p'.length=n) (hP:Pts n E p) (hW:WaysAt w n E p m)
  (h:∀ v,v < n→(∃ (r:Nat) (q:Option Addr) (l:List Int),PD.g p' v=r∧Cn (adj E') r v∧(∀ u,u < n→Cn (adj E') v u→r≤u)∧m' r=some (.pointer q)∧RowAt w q l∧TR.Way (adj E') r l)∨
   (PD.g p' v=PD.g p v∧m' v=m v∧(∀ x y,Cn (adj E) v x→(adj E x y↔adj E' x y))∧∀ x,Cn (adj E) v x↔Cn (adj E') v x)):Pts n E' p'∧WaysAt w n E' p' m':=by
 refine ⟨pts_of hok hl fun v hv=>?_,fun r hr hg=>?_⟩
 ·rcases h v hv with ⟨r,q,l,h1,h2,h3,_⟩ | ⟨h1,h2,h3,h4⟩
  ·exact ⟨r,h1,h2,h3⟩
  ·obtain ⟨r,k1,k2,k3⟩:=hP.pa v hv
   refine ⟨r,by rw [h1,k1],((h4 r).1 k3.symm).symm,fun u hu c=>?_⟩
   have:=pts_least hP hu ((h4 u).2 c)
   omega
 ·rcases h r hr with ⟨r',q,l,h1,h2,h3,h4,h5,h6⟩ | ⟨h1,h2,h3,h4⟩
  ·have:r'=r:=by rw [hg] at h1;omega
   subst this
   exact ⟨q,l,h4,h5,h6⟩
  ·obtain ⟨q,l,k1,k2,k3⟩:=hW r hr (by rw [←h1];exact hg)
   exact ⟨q,l,by rw [h2];exact k1,k2,k3.other (by omega) h3 h4⟩
theorem link_state {a b r:Nat} {q:Option Addr} {x y:List Int} (hn:n≤60) (hf:Fo n E) (hP:Pts n E p) (hW:WaysAt w n E p m) (ha:a < n) (hb:b < n) (hc:¬ Cn (adj E) a b)
  (hx:TR.Way (adj E) a x) (hy:TR.Way (adj E) b y) (kx:TR.Go (adj E) a x a) (ky:TR.Go (adj E) b y b) (hq:RowAt w q (x++(st a b::y)++[st b a]))
  (hr:(r:Int)∈mks (x++(st a b::y)++[st b a])) (hmin:∀ z∈mks (x++(st a b::y)++[st b a]),(r:Int)≤z) (hs:SetR n (mks (x++(st a b::y)++[st b a])) r q p m p' m'):
  Pts n (putE (AK.ek a b) E) p'∧WaysAt w n (putE (AK.ek a b) E) p' m':=by
 have hf':=hf.put ha hb hc
 have sy:∀ u v,adj E u v→adj E v u:=fun u v e=>adj_symm e
 have inn:∀ u v,adj E u v→v < 60:=fun u v e=>by have:=adj_in hf.ok e;omega
 have way:TR.Way (adj (putE (AK.ek a b) E)) a (x++(st a b::y)++[st b a]):=by
  have h0:=TR.Way.link sy inn (by omega) (by omega) hc hx hy kx ky
  have he:adj (putE (AK.ek a b) E)=Ad (adj E) a b:=funext fun u=>funext fun v=>propext (adj_put u v)
  rw [he];exact h0
 obtain ⟨mk1,mk2,mk3⟩:=way.mks ha hf' hn
 obtain ⟨r',hr1,hr2,hr3⟩:=mk2 _ hr
 have:r'=r:=by omega
 subst this
 refine state_of hn hf'.ok (by rw [hs.len];exact hP.len) hP hW fun v hv=>?_
 by_cases cv:Cn (adj (putE (AK.ek a b) E)) a v
 ·left
  have hm:=mk3 v hv cv
  refine ⟨r',q,_,by rw [hs.g v hv,if_pos hm],hr3.symm.trans cv,fun u hu c=>?_,by rw [hs.m,if_pos rfl],hq,way.re hr3⟩
  have:=hmin _ (mk3 u hu (cv.trans c));omega
 ·right
  have hm:(v:Int) ∉ mks (x++(st a b::y)++[st b a]):=fun w=>by
   obtain ⟨z,z1,_,z3⟩:=mk2 _ w
   have:z=v:=by omega
   subst this;exact cv z3
  have hne:(v:Int)≠r':=fun e=>by rw [e] at hm;exact hm hr
  have nva:¬ Cn (adj E) v a:=fun c=>cv ((c.mono fun _ _ e=>(adj_put _ _).2 (.inl e)).symm)
  have cab:Cn (adj (putE (AK.ek a b) E)) a b:=.edge ((adj_put a b).2 (.inr (.inl ⟨rfl,rfl⟩)))
  have nvb:¬ Cn (adj E) v b:=fun c=>cv (cab.trans (c.mono fun _ _ e=>(adj_put _ _).2 (.inl e)).symm)
  refine ⟨by rw [hs.g v hv,if_neg hm],by rw [hs.m,if_neg hne,if_neg hm],fun z u c=>⟨fun e=>(adj_put z u).2 (.inl e),fun e=>?_⟩,fun z=>⟨fun c=>c.mono fun _ _ e=>(adj_put _ _).2 (.inl e),fun c=>?_⟩⟩
  ·rcases (adj_put z u).1 e with e | ⟨rfl,rfl⟩ | ⟨rfl,rfl⟩
   ·exact e
   ·exact absurd c nva
   ·exact absurd c nvb
  ·rcases cn_cut' (F:=adj E) (fun p q h=>(adj_put p q).1 h) c with c | ⟨c,_⟩ | ⟨c,_⟩
   ·exact c
   ·exact absurd c nva
   ·exact absurd c nvb
theorem cut_state {u v r1 r2:Nat} {q1 q2:Option Addr} {low mid high:List Int} {p1:List Int} {m1:Int→Option Value} (hn:n≤60) (hf:Fo n E) (hP:Pts n E p) (hW:WaysAt w n E p m) (huv:adj E u v)
  (hway:TR.Way (adj E) u (low++st u v::mid++st v u::high)) (hq1:RowAt w q1 mid) (hq2:RowAt w q2 (low++high))
  (hr1:(r1:Int)∈mks mid) (hmin1:∀ z∈mks mid,(r1:Int)≤z) (hs1:SetR n (mks mid) r1 q1 p m p1 m1)
  (hr2:(r2:Int)∈mks (low++high)) (hmin2:∀ z∈mks (low++high),(r2:Int)≤z) (hs2:SetR n (mks (low++high)) r2 q2 p1 m1 p' m'):
  Pts n (cutE (AK.ek u v) E) p'∧WaysAt w n (cutE (AK.ek u v) E) p' m':=by
 have hf':=hf.cut (AK.ek u v)
 obtain ⟨hu,hv,hne⟩:=adj_in hf.ok huv
 have sy:∀ x y,adj E x y→adj E y x:=fun x y e=>adj_symm e
 have inn:∀ x y,adj E x y→y < 60:=fun x y e=>by have:=adj_in hf.ok e;omega
 have he:adj (cutE (AK.ek u v) E)=Mn (adj E) u v:=funext fun x=>funext fun y=>propext (adj_cut hf.lt x y)
 have nuv:¬ Cn (Mn (adj E) u v) u v:=hf.fs u v huv
 obtain ⟨w1,w2⟩:=TR.Way.cut sy inn (by omega) (by omega) huv nuv hway
 have w1':TR.Way (adj (cutE (AK.ek u v) E)) v mid:=by rw [he];exact w1
 have w2':TR.Way (adj (cutE (AK.ek u v) E)) u (low++high):=by rw [he];exact w2
 have nuv':¬ Cn (adj (cutE (AK.ek u v) E)) u v:=by rw [he];exact nuv
 obtain ⟨a1,a2,a3⟩:=w1'.mks hv hf' hn
 obtain ⟨b1,b2,b3⟩:=w2'.mks hu hf' hn
 obtain ⟨s1,e1,f1,c1⟩:=a2 _ hr1
 have:s1=r1:=by omega
 subst this
 obtain ⟨s2,e2,f2,c2⟩:=b2 _ hr2
 have:s2=r2:=by omega
 subst this
 have in1:∀ z:Nat,(z:Int)∈mks mid→Cn (adj (cutE (AK.ek u v) E)) v z:=fun z h=>by
  obtain ⟨y,y1,_,y3⟩:=a2 _ h
  have:y=z:=by omega
  subst this;exact y3
 have in2:∀ z:Nat,(z:Int)∈mks (low++high)→Cn (adj (cutE (AK.ek u v) E)) u z:=fun z h=>by
  obtain ⟨y,y1,_,y3⟩:=b2 _ h
  have:y=z:=by omega
  subst this;exact y3
 have dis:∀ z:Nat,(z:Int)∈mks mid→(z:Int) ∉ mks (low++high):=fun z h k=>nuv' ((in2 z k).trans (in1 z h).symm)
 refine state_of hn hf'.ok (by rw [hs2.len,hs1.len];exact hP.len) hP hW fun z hz=>?_
 by_cases cz1:Cn (adj (cutE (AK.ek u v) E)) v z
 ·left
  have hm:=a3 z hz cz1
  refine ⟨s1,q1,mid,by rw [hs2.g z hz,if_neg (dis z hm),hs1.g z hz,if_pos hm],c1.symm.trans cz1,fun y hy c=>?_,?_,hq1,w1'.re c1⟩
  ·have:=hmin1 _ (a3 y hy (cz1.trans c));omega
  ·have hne2:(s1:Int)≠s2:=fun e=>dis s1 hr1 (by rw [e];exact hr2)
   rw [hs2.m,if_neg hne2,if_neg (dis s1 hr1),hs1.m,if_pos rfl]
 ·by_cases cz2:Cn (adj (cutE (AK.ek u v) E)) u z
  ·left
   have hm:=b3 z hz cz2
   refine ⟨s2,q2,_,by rw [hs2.g z hz,if_pos hm],c2.symm.trans cz2,fun y hy c=>?_,by rw [hs2.m,if_pos rfl],hq2,w2'.re c2⟩
   have:=hmin2 _ (b3 y hy (cz2.trans c));omega
  ·right
   have m1':(z:Int) ∉ mks mid:=fun h=>cz1 (in1 z h)
   have m2':(z:Int) ∉ mks (low++high):=fun h=>cz2 (in2 z h)
   have n1:(z:Int)≠s1:=fun e=>m1' (by rw [e];exact hr1)
   have n2:(z:Int)≠s2:=fun e=>m2' (by rw [e];exact hr2)
   have nzu:∀ x,Cn (adj E) z x→x≠u∧x≠v:=by
    have key:∀ x,Cn (adj E) z x→Cn (adj (cutE (AK.ek u v) E)) z x:=fun x c=>by
     have inv:(Cn (adj (cutE (AK.ek u v) E)) z z↔Cn (adj (cutE (AK.ek u v) E)) z x):=c.keeps (S:=fun y=>Cn (adj (cutE (AK.ek u v) E)) z y) fun p q e=>by
      by_cases w:(p=u∧q=v)∨(p=v∧q=u)
      ·rcases w with ⟨rfl,rfl⟩ | ⟨rfl,rfl⟩
       ·exact ⟨fun c=>absurd c.symm cz2,fun c=>absurd c.symm cz1⟩
       ·exact ⟨fun c=>absurd c.symm cz1,fun c=>absurd c.symm cz2⟩
      ·have e':adj (cutE (AK.ek u v) E) p q:=(adj_cut hf.lt p q).2 ⟨e,fun h=>w (.inl h),fun h=>w (.inr h)⟩
       exact ⟨fun c=>c.trans (.edge e'),fun c=>c.trans (Cn.edge e').symm⟩
     exact inv.1 (.refl _)
    exact fun x c=>⟨fun e=>cz2 (e ▸ (key x c).symm),fun e=>cz1 (e ▸ (key x c).symm)⟩
   refine ⟨by rw [hs2.g z hz,if_neg m2',hs1.g z hz,if_neg m1'],by rw [hs2.m,if_neg n2,if_neg m2',hs1.m,if_neg n1,if_neg m1'],fun x y c=>?_,fun x=>⟨fun c=>?_,fun c=>c.mono fun p q e=>((adj_cut hf.lt p q).1 e).1⟩⟩
   ·have:=nzu x c
    exact ⟨fun e=>(adj_cut hf.lt x y).2 ⟨e,fun h=>this.1 h.1,fun h=>this.2 h.1⟩,fun e=>((adj_cut hf.lt x y).1 e).1⟩
   ·have inv:(Cn (adj E) z z∧Cn (adj (cutE (AK.ek u v) E)) z z↔Cn (adj E) z x∧Cn (adj (cutE (AK.ek u v) E)) z x):=c.keeps (S:=fun y=>Cn (adj E) z y∧Cn (adj (cutE (AK.ek u v) E)) z y) fun p q e=>by
     constructor
     ·rintro ⟨d1,d2⟩
      have:=nzu p d1
      have e':adj (cutE (AK.ek u v) E) p q:=(adj_cut hf.lt p q).2 ⟨e,fun h=>this.1 h.1,fun h=>this.2 h.1⟩
      exact ⟨d1.trans (.edge e),d2.trans (.edge e')⟩
     ·rintro ⟨d1,d2⟩
      have:=nzu q d1
      have e':adj (cutE (AK.ek u v) E) p q:=(adj_cut hf.lt p q).2 ⟨e,fun h=>this.2 h.2,fun h=>this.1 h.2⟩
      exact ⟨d1.trans (Cn.edge e).symm,d2.trans (Cn.edge e').symm⟩
    exact (inv.1 ⟨.refl _,.refl _⟩).2
end
end Go.Proofs.YtkoajpeabicpdaaGreatDoor
namespace Go.Proofs.YtkoajpeabicpdaaGreatDoor
open Go Go.RowKit Go.Shelf Go.Sort Go.Lib
def laysIx_ren:Go.Shelf.Ren:=⟨fun | 108=>134 | _=>0,fun | 0=>0 | 3=>3 | 4=>4 | 28=>79 | _=>0,fun | _=>0⟩
theorem laysIx:Go.Proofs.Lays.n108 Tryz.prog laysIx_ren:={
 mixed:=by kernel_rfl,
 f108:=Tryz.func134.trans (congrArg some (by kernel_rfl)),
 t0:=Tryz.underlying0,
 a0:=Tryz.isAgg0,
 z0:=Tryz.sizeOf0,
 v0:=Tryz.zeroValue0,
 t3:=Tryz.underlying3,
 a3:=Tryz.isAgg3,
 z3:=Tryz.sizeOf3,
 v3:=Tryz.zeroValue3,
 t4:=Tryz.underlying4,
 a4:=Tryz.isAgg4,
 z4:=Tryz.sizeOf4,
 v4:=Tryz.zeroValue4,
 t28:=Tryz.underlying79,
 a28:=Tryz.isAgg79,
 z28:=Tryz.sizeOf79,
 v28:=Tryz.zeroValue79 }
def laysMn_ren:Go.Shelf.Ren:=⟨fun | 114=>194 | _=>0,fun | 0=>0 | 3=>3 | 4=>4 | 9=>9 | 20=>20 | 28=>79 | _=>0,fun | _=>0⟩
theorem laysMn:Go.Proofs.Lays.n114 Tryz.prog laysMn_ren:={
 mixed:=by kernel_rfl,
 f114:=Tryz.func194.trans (congrArg some (by kernel_rfl)),
 t0:=Tryz.underlying0,
 a0:=Tryz.isAgg0,
 z0:=Tryz.sizeOf0,
 v0:=Tryz.zeroValue0,
 t3:=Tryz.underlying3,
 a3:=Tryz.isAgg3,
 z3:=Tryz.sizeOf3,
 v3:=Tryz.zeroValue3,
 t4:=Tryz.underlying4,
 a4:=Tryz.isAgg4,
 z4:=Tryz.sizeOf4,
 v4:=Tryz.zeroValue4,
 t9:=Tryz.underlying9,
 a9:=Tryz.isAgg9,
 z9:=Tryz.sizeOf9,
 v9:=Tryz.zeroValue9,
 t20:=Tryz.underlying20,
 a20:=Tryz.isAgg20,
 z20:=Tryz.sizeOf20,
 v20:=Tryz.zeroValue20,
 t28:=Tryz.underlying79,
 a28:=Tryz.isAgg79,
 z28:=Tryz.sizeOf79,
 v28:=Tryz.zeroValue79 }
def laysDf_ren:Go.Shelf.Ren:=⟨fun | 6=>229 | 10=>205 | _=>0,fun | 0=>0 | 3=>3 | 4=>4 | 22=>79 | 23=>3 | 25=>179 | _=>0,fun | _=>0⟩
theorem laysDf:Go.Proofs.SlLaysH.n10 Tryz.prog laysDf_ren:={
 mixed:=by kernel_rfl,
 f6:=⟨ "slices.IndexFunc[[]int,int]",by decide,Tryz.func229.trans (congrArg some (by kernel_rfl))⟩,
 f10:=⟨ "slices.DeleteFunc[[]int,int]",by decide,Tryz.func205.trans (congrArg some (by kernel_rfl))⟩,
 t0:=Tryz.underlying0,
 a0:=Tryz.isAgg0,
 z0:=Tryz.sizeOf0,
 v0:=Tryz.zeroValue0,
 t3:=Tryz.underlying3,
 a3:=Tryz.isAgg3,
 z3:=Tryz.sizeOf3,
 v3:=Tryz.zeroValue3,
 t4:=Tryz.underlying4,
 a4:=Tryz.isAgg4,
 z4:=Tryz.sizeOf4,
 v4:=Tryz.zeroValue4,
 t22:=Tryz.underlying79,
 a22:=Tryz.isAgg79,
 z22:=Tryz.sizeOf79,
 v22:=Tryz.zeroValue79,
 a23:=Tryz.isAgg3,
 z23:=Tryz.sizeOf3,
 t25:=Tryz.underlying179,
 a25:=Tryz.isAgg179,
 z25:=Tryz.sizeOf179,
 v25:=Tryz.zeroValue179 }
theorem holds_ints {w:World} {g c n:Nat} {xs:List Int} (h:w.ownsRow 0 3 1 (.slice (some ⟨g,0,none⟩) n c) n (intsV xs)):Holds (Value.int .i64) w g 0 xs.toArray:=by
 have hl:xs.length=n:=by have:=h.1;simpa [intsV] using this
 intro j hj
 have hj':j < xs.length:=by simpa using hj
 rw [Nat.zero_add]
 refine ⟨?_,h.frozenAt j⟩
 rw [h.cellAt j (by omega),intsV,List.getElem?_map,List.getElem?_eq_getElem hj',getElem!_pos xs.toArray j (by simpa using hj')]
 simp
theorem cells_ints {w:World} {g c n:Nat} {xs:List Int} (h:w.ownsRow 0 3 1 (.slice (some ⟨g,0,none⟩) n c) n (intsV xs)):∀ j,j < xs.length→w.cell? ⟨g,0+j,none⟩=some (.int .i64 (xs.getD j 0)):=by
 intro j hj
 have hl:xs.length=n:=by have:=h.1;simpa [intsV] using this
 rw [Nat.zero_add,h.cellAt j (by omega),intsV,List.getElem?_map,List.getElem?_eq_getElem hj]
 simp [List.getD,List.getElem?_eq_getElem hj]
theorem index_any (w:World) (A:Option Addr) (c:Nat) (xs:List Int) (k:Nat) (x:Int) (h:w.ownsRow 0 3 1 (.slice A xs.length c) xs.length (intsV xs)) (hk:xs[k]?=some x) (hnd:xs.Nodup) (hz:xs.length≤1000):
  Calls Tryz.prog 134 #[.slice A xs.length c,.int .i64 x] w fun e w'=>e=.returned (.int .i64 (k:Nat))∧w'=w:=by
 have hkl:k < xs.length:=(List.getElem?_eq_some_iff.1 hk).1
 obtain ⟨g,cap,hv,_,_⟩:=own_form h (by omega)
 simp only [Value.slice.injEq,true_and] at hv
 obtain ⟨rfl,rfl⟩:=hv
 refine (Any.slices_Index_int laysIx g 0 xs.length c xs x w (Nat.le_refl _) (by omega) (cells_ints h)).mono ?_
 rintro e w' ⟨rfl,rfl⟩
 refine ⟨?_,rfl⟩
 rw [idxOf_hit xs xs.length k x hkl (Nat.le_refl _) (by simp [List.getD,hk]) fun j hj e=>?_]
 have hj':j < xs.length:=by omega
 have e2:xs[j]=xs[k]:=by
  rw [List.getElem?_eq_getElem hkl] at hk
  simp [List.getD,List.getElem?_eq_getElem hj'] at e
  rw [e];exact (Option.some.inj hk).symm
 have:=(List.getElem_inj hnd).1 e2
 omega
theorem minOf_least (xs:List Int) (h:0 < xs.length):minOf xs∈xs∧∀ y∈xs,minOf xs≤y:=by
 obtain ⟨x,r,rfl⟩:∃ x r,xs=x::r:=by
  cases xs with
  | nil=>simp at h
  | cons x r=>exact ⟨x,r,rfl⟩
 have key:∀ (r:List Int) (a:Int),(r.foldl min a=a∨r.foldl min a∈r)∧r.foldl min a≤a∧∀ y∈r,r.foldl min a≤y:=by
  intro r
  induction r with
  | nil=>intro a;exact ⟨.inl rfl,Int.le_refl _,by simp⟩
  | cons b r ih=>
   intro a
   obtain ⟨h1,h2,h3⟩:=ih (min a b)
   rw [List.foldl_cons]
   refine ⟨?_,by omega,fun y hy=>?_⟩
   ·rcases h1 with h1 | h1
    ·rw [h1]
     rcases Int.le_total a b with q | q
     ·left;omega
     ·right;rw [Int.min_eq_right q];exact List.mem_cons_self ..
    ·exact .inr (List.mem_cons_of_mem _ h1)
   ·rcases List.mem_cons.1 hy with rfl | hy
    ·omega
    ·exact h3 y hy
 unfold minOf
 rw [List.headD_cons,List.foldl_cons,Int.min_self]
 obtain ⟨h1,h2,h3⟩:=key r x
 refine ⟨?_,fun y hy=>?_⟩
 ·rcases h1 with h1 | h1
  ·rw [h1];exact List.mem_cons_self ..
  ·exact List.mem_cons_of_mem _ h1
 ·rcases List.mem_cons.1 hy with rfl | hy
  ·exact h2
  ·exact h3 y hy
theorem min_any (w:World) (A:Option Addr) (c:Nat) (xs:List Int) (h:w.ownsRow 0 3 1 (.slice A xs.length c) xs.length (intsV xs)) (h0:0 < xs.length) (hz:xs.length≤1000):
  Calls Tryz.prog 194 #[.slice A xs.length c] w fun e w'=>e=.returned (.int .i64 (minOf xs))∧w'=w:=by
 obtain ⟨g,cap,hv,_,_⟩:=own_form h h0
 simp only [Value.slice.injEq,true_and] at hv
 obtain ⟨rfl,rfl⟩:=hv
 refine (Any.slices_Min_int laysMn g 0 xs.length c xs w h0 (Nat.le_refl _) (by omega) (cells_ints h)).mono ?_
 rintro e w' ⟨rfl,rfl⟩
 rw [List.take_length]
 exact ⟨rfl,rfl⟩
theorem gives_nodes (x:Int) (W:World):FnGives Tryz.prog 206 #[] #[.int .i64 x] (.bool (decide (60≤x))) W:=by
 show Calls Tryz.prog 206 #[.int .i64 x] W _
 go_enter Tryz.func206,Tryz.ntmps206
 go_wp2
 all_goals (go_ret;exact ⟨by first | rfl | simp_all,0,rfl⟩)
theorem delf_any (w:World) (A:Option Addr) (c:Nat) (xs:List Int) (h:w.ownsRow 0 3 1 (.slice A xs.length c) xs.length (intsV xs)) (h0:0 < xs.length) (hz:xs.length≤1000):
  Calls Tryz.prog 205 #[.slice A xs.length c,.func (.func 206) #[] #[]] w fun e w'=>e=.returned (.slice A (TR.mks xs).length c)∧w'.ownsRow 0 3 1 (.slice A (TR.mks xs).length c) (TR.mks xs).length (intsV (TR.mks xs))∧Chg (fun k=>(Value.slice A xs.length c).ownBlock=some k) w w':=by
 obtain ⟨g,cap,hv,hcap,hcm⟩:=own_form h h0
 simp only [Value.slice.injEq,true_and] at hv
 obtain ⟨rfl,rfl⟩:=hv
 have eg:∀ args w,(callFunc 206 args).run Tryz.prog w=.ok (.enter 206 args) w:=enters_of Tryz.func206 (by kernel_rfl) rfl
 have hcon:=AnyE.slices_DeleteFunc laysDf (Value.int .i64) (fun _=>rfl) (fun x=>decide (60≤x)) 206 #[] eg 0 Tryz.zeroValue3 g 0 c xs.toArray w (fun W x _=>gives_nodes x W) (fun n os dk x _=>gives_nodes x _) (holds_ints h) (by simp;omega) (by simpa using hcap)
 rw [show xs.toArray.size=xs.length by simp] at hcon
 refine Calls.mono hcon ?_
 rintro e w' ⟨rfl,q,rfl⟩
 rw [List.toList_toArray]
 have em:(xs.filter fun x=>!decide (60≤x))=TR.mks xs:=rfl
 rw [em]
 have hml:(TR.mks xs).length≤xs.length:=List.length_filter_le _ _
 rcases h.2 with ⟨hv,_⟩ | ⟨g',c',cur,hv,hbase,hb,h1,h2,h3,h4⟩
 ·simp at hv
 ·simp only [Value.slice.injEq,Option.some.injEq,Addr.mk.injEq,and_true,true_and] at hv
  obtain ⟨rfl,rfl⟩:=hv
  refine ⟨rfl,⟨by simp [intsV],.inr ⟨g,c,putCells (Value.int .i64) 0 (TR.mks xs++List.replicate (xs.length - (TR.mks xs).length) 0).toArray cur,rfl,hbase,?_,by omega,h2,by simp [putCells,h3],?_⟩⟩,?_⟩
  ·simp [putRow,mapBlock,Sort.ahead,Array.getElem?_modify,hb,onCells]
  ·apply List.ext_getElem?
   intro j
   by_cases hj:j < (TR.mks xs).length
   ·rw [List.getElem?_take_of_lt (by simpa using hj),Array.getElem?_toList]
    have hc:j < cur.size:=by omega
    simp only [putCells,Array.getElem?_mapIdx]
    rw [Array.getElem?_eq_getElem hc]
    simp [intsV,hj]
    rw [if_pos (by omega),List.getElem?_append_left hj,List.getElem?_eq_getElem hj]
    rfl
   ·rw [List.getElem?_take_eq_none (by simpa using hj),intsV,List.getElem?_map,List.getElem?_eq_none (by omega)]
    rfl
  ·refine ⟨rfl,rfl,rfl,by simp [putRow,mapBlock,Sort.ahead],fun k hk hne=>?_⟩
   have:g≠k:=fun e=>hne (by simp [Value.ownBlock,e])
   simp [putRow,mapBlock,Sort.ahead,Array.getElem?_modify,this]
end Go.Proofs.YtkoajpeabicpdaaGreatDoor
namespace Go.Proofs.YtkoajpeabicpdaaGreatDoor
open Go Go.RowKit SQ TR DF PD
theorem zeroSeq (w:World):(zeroValue 217).run Tryz.prog w=.ok (.pointer none) w:=by kernel_rfl
theorem zeroInt (w:World):(zeroValue 3).run Tryz.prog w=.ok (.int .i64 0) w:=by kernel_rfl
section
variable {w:World} {F:FoP} {n N:Nat} {E:List AK.Ed}
theorem tnode_any (h:FoAt w F n N E) (a:Int) (r:Bool) (hr:r=decide (0≤a∧a < n)):
  Calls Tryz.prog 140 #[.pointer (some ⟨F.fb,0,none⟩),.int .i64 a] w fun e w'=>e=.returned (.bool r)∧w=w':=by
 have c1:w.cell? ⟨F.fb,1,none⟩=some (.slice (some ⟨F.rb,0,none⟩) n F.c):=h.blk.cell 1
 subst hr
 clear h
 by_cases h1:0≤a
 ·by_cases h2:a < n
  ·have q:decide (0≤a∧a < (n:Int))=true:=by simp;omega
   rw [q]
   go_enter Tryz.func140,Tryz.ntmps140
   go_wp2
   go_ret
   exact ⟨rfl,rfl⟩
  ·have q:decide (0≤a∧a < (n:Int))=false:=by simp;omega
   rw [q]
   go_enter Tryz.func140,Tryz.ntmps140
   go_wp2
   go_ret
   exact ⟨rfl,rfl⟩
 ·have q:decide (0≤a∧a < (n:Int))=false:=by simp;omega
  rw [q]
  go_enter Tryz.func140,Tryz.ntmps140
  go_wp2
  go_ret
  exact ⟨rfl,rfl⟩
theorem tstep_any (w:World) (a b:Nat) (ha:a < 60) (hb:b < 60):Calls Tryz.prog 142 #[.int .i64 a,.int .i64 b] w fun e w'=>e=.returned (.int .i64 (st a b))∧w=w':=by
 have e1:IntKind.i64.wrap ((a:Int)+1)=(a:Int)+1:=IntWalk.i64_in _ (by omega)
 have e2:IntKind.i64.wrap (((a:Int)+1) * 60)=((a:Int)+1) * 60:=IntWalk.i64_in _ (by omega)
 have e3:IntKind.i64.wrap (((a:Int)+1) * 60+b)=((a:Int)+1) * 60+b:=IntWalk.i64_in _ (by omega)
 go_enter Tryz.func142,Tryz.ntmps142
 go_wp2
 go_ret
 exact ⟨rfl,rfl⟩
def OwnI (w w':World) (xs:List Int) (e:Ending):Prop:=∃ A c,e=.returned (.slice A xs.length c)∧w'.ownsRow 0 3 1 (.slice A xs.length c) xs.length (intsV xs)∧Ext w w'∧∀ k,(Value.slice A xs.length c).ownBlock=some k→w.heap.size≤k
theorem nodes_any {q:Option Addr} {l:List Int} (h:RowAt w q l) (h0:0 < l.length) (hl:l.length≤400):
  Calls Tryz.prog 165 #[.pointer q] w fun e w'=>OwnI w w' (mks l) e:=by
 have H:=Lib.hid h
 clear h
 go_enter Tryz.func165,Tryz.ntmps165
 go_wp2_with fail
 refine (row_list H.out (by omega)).mono ?_
 rintro e w1 ⟨A,c,rfl,ho,hx,hn⟩
 have HO:=Lib.hid ho
 have HX:=Lib.hid hx
 have HN:=Lib.hid hn
 clear ho hx hn
 go_wp2_with fail
 refine (delf_any w1 A c l HO.out h0 (by omega)).mono ?_
 rintro e w2 ⟨rfl,ho,hc⟩
 have HO2:=Lib.hid ho
 have HC:=Lib.hid hc
 clear ho hc
 go_wp2
 go_ret
 refine ⟨A,c,rfl,HO2.out,?_,fun k hk=>HN.out k (by cases A with
  | none=>simp [Value.ownBlock] at hk
  | some _=>simpa [Value.ownBlock] using hk)⟩
 exact ((Chg.of_below HX.out).trans HC.out (fun i hi hs=>HN.out i hs)).below (Nat.le_refl _) (fun _ _ h=>h)
theorem take_snocT {α:Type} {l:List α} {k:Nat} {x:α} (h:l[k]?=some x):l.take (k+1)=l.take k++[x]:=by
 rw [List.take_add_one,h];rfl
theorem tjoin_any {B m c:Nat} (rs:List (Option Addr × List Int)) (hr:∀ (i:Nat) p,rs[i]?=some p→w.cell? ⟨B,i,none⟩=some (.pointer p.1)∧RowAt w p.1 p.2) (hB:B < w.heap.size) (hm:rs.length=m) (hm2:m≤100) (hl:(rs.flatMap (·.2)).length≤400):
  Calls Tryz.prog 143 #[.slice (some ⟨B,0,none⟩) m c] w (RowRes w (rs.flatMap (·.2))):=by
 have HR:=Lib.hid hr
 have HM:=Lib.hid hm
 have HL:=Lib.hid hl
 have HB:=Lib.hid hB
 clear hr hm hl hB
 go_enter Tryz.func143,Tryz.ntmps143
 go_wp2
 go_loopw [4,10] (fun s i wr=>∃ (k:Nat) (p:Option Addr),k≤m∧i=.int .i64 k∧s=.pointer p∧Hid (RowAt wr p ((rs.take k).flatMap (·.2))∧Ext w wr)) (fun _ i _=>m - (intOf i).toNat)
 case atStart=>exact ⟨0,none,Nat.zero_le _,rfl,rfl,⟨.nil,SeqAt.nil _,rfl⟩,Ext.refl _⟩
 case round=>
  obtain ⟨k,p,hk,rfl,rfl,HR2⟩:=hrel
  by_cases hlt:k < m
  ·obtain ⟨⟨q,l⟩,hq⟩:∃ q,rs[k]?=some q:=⟨_,List.getElem?_eq_getElem (by rw [HM.out];exact hlt)⟩
   have c1:wr.cell? ⟨B,k,none⟩=some (.pointer q):=(HR2.out.2.cell (p:=⟨B,k,none⟩) HB.out).trans (HR.out k _ hq).1
   have c1':wr.cell? ⟨B,0+k,none⟩=some (.pointer q):=by rw [Nat.zero_add];exact c1
   have HT:=Lib.hid (take_snocT hq)
   have HK:=Lib.hid (row_join HR2.out.1 (((HR.out k _ hq).2).ext HR2.out.2) (by
    have h1:=congrArg (fun z=>(z.flatMap (·.2)).length) (List.take_append_drop (k+1) rs)
    have h2:=HL.out
    rw [HT.out] at h1
    simp only [List.flatMap_append,List.flatMap_cons,List.flatMap_nil,List.append_nil,List.length_append] at h1 h2 ⊢
    omega))
   clear hq
   go_wp2_with fail
   refine HK.out.mono ?_
   rintro e w1 ⟨p1,rfl,h1,hx1⟩
   have HU:Hid (RowAt w1 p1 ((rs.take (k+1)).flatMap (·.2))∧Ext w w1):=⟨by rw [HT.out,List.flatMap_append];simpa using h1,HR2.out.2.trans hx1⟩
   clear h1 hx1 HK
   go_wp2
   go_roundw
   case rel=>exact ⟨k+1,p1,by omega,by go_num,rfl,HU⟩
   case measure=>simp [intOf];omega
  ·obtain rfl:m=k:=by omega
   go_wp2
   go_ret2
   have h:=HR2.out
   rw [List.take_of_length_le (by rw [HM.out];exact Nat.le_refl _)] at h
   exact ⟨p,rfl,h.1,h.2⟩
def FromPost (w:World) (E:List AK.Ed) (a:Nat) (e:Ending) (w':World):Prop:=∃ (q:Option Addr) (l:List Int),e=.returned (.tuple #[.pointer q,.nilIface])∧RowAt w' q l∧TR.Way (adj E) a l∧TR.Go (adj E) a l a∧Ext w w'
theorem tfrom_any (h:FoAt w F n N E) (a:Nat) (ha:a < n):Calls Tryz.prog 141 #[.pointer (some ⟨F.fb,0,none⟩),.int .i64 a] w (FromPost w E a):=by
 have c0:w.cell? ⟨F.fb,0,none⟩=some (.map (some F.mb)):=h.blk.cell 0
 have c1:w.cell? ⟨F.fb,1,none⟩=some (.slice (some ⟨F.rb,0,none⟩) n F.c):=h.blk.cell 1
 obtain ⟨p,s,m,h1,h2,h3,h4⟩:=h.ways
 have hn:=h.hn
 have hpl:=h1.len
 obtain ⟨r,r1,r2,r3⟩:=h1.pa a ha
 have c2:w.cell? ⟨F.rb,a,none⟩=some (.int .i64 r):=by
  rw [h2.cellAt a (by omega),intsV,List.getElem?_map,List.getElem?_eq_getElem (by omega)]
  rw [←r1]
  simp [PD.g,List.getD_eq_getElem?_getD,List.getElem?_eq_getElem (show a < p.length by omega)]
 have c2':w.cell? ⟨F.rb,0+a,none⟩=some (.int .i64 r):=by rw [Nat.zero_add];exact c2
 have rr:g p r=r:=by rw [h1.same r3,r1]
 obtain ⟨q,l,k1,k2,k3⟩:=h4 r (by omega) rr
 have hlk:∀ k,(Instr.lookup 213 (.map (some F.mb)) (.int .i64 r) false).run Tryz.prog (w.drewN k)=.ok (.pointer q) (w.drewN k):=fun k=>by
  have:=(h3.ext (Ext.drewN w k)).look Tryz.underlying213 (zeroSeq _) (r:Int) (WalkArith.wf_i64 (by omega))
  rw [k1] at this
  exact this
 have hlen:=k3.len h.fo hn.2
 obtain ⟨pl,ph,hsp⟩:=List.append_of_mem ((k3.mrk a (by omega)).2 r3)
 obtain ⟨g1,g2⟩:=k3.rot hsp (by omega)
 have HW:Hid (TR.Way (adj E) a ((a:Int)::ph++pl)∧TR.Go (adj E) a ((a:Int)::ph++pl) a):=⟨g2.re ((g2.mrk a (by omega)).1 (by simp)),g1⟩
 have hix:l[pl.length]?=some (a:Int):=by rw [hsp];simp
 have HI:Hid (l[pl.length]?=some (a:Int)∧l.Nodup):=⟨hix,k3.nd⟩
 have ht:l.take pl.length=pl:=by rw [hsp];simp
 have hd:l.drop pl.length=(a:Int)::ph:=by rw [hsp];simp
 have HT:Hid (l.take pl.length=pl∧l.drop pl.length=(a:Int)::ph):=⟨ht,hd⟩
 have hpll:pl.length < l.length:=(List.getElem?_eq_some_iff.1 hix).1
 have HQ:=Lib.hid k2
 have HLL:Hid (((a:Int)::ph).length+pl.length≤400):=by unfold Hid;rw [←hd,←ht];simp;omega
 clear h h1 h2 h3 h4 k1 k2 k3 g1 g2 hsp hix ht hd rr r1 r2 r3 hpl
 have z1:(a:Int) < (n:Int):=by omega
 go_enter Tryz.func141,Tryz.ntmps141
 go_wp2_with fail
 go_quiet (fail)
 go_wp2_with fail
 refine (row_list (HQ.out.ext (Ext.drewN w nq)) (by omega)).mono ?_
 rintro e w1 ⟨A,c,rfl,ho,hx,hnw⟩
 have HO:=Lib.hid ho
 have HX:Hid (Ext w w1):=(Ext.drewN w nq).trans hx
 clear ho hx hnw
 go_wp2_with fail
 refine (index_any w1 A c l pl.length (a:Int) HO.out HI.out.1 HI.out.2 (by omega)).mono ?_
 rintro e w1' ⟨rfl,rfl⟩
 go_wp2_with fail
 refine (row_split (HQ.out.ext HX.out) (by omega) pl.length (by omega)).mono ?_
 rintro e w2 ⟨q1,q2,rfl,s1,s2,hx2⟩
 have S1:Hid (RowAt w2 q1 pl):=by rw [HT.out.1] at s1;exact s1
 have S2:Hid (RowAt w2 q2 ((a:Int)::ph)):=by rw [HT.out.2] at s2;exact s2
 have HX2:=Lib.hid (HX.out.trans hx2)
 clear s1 s2 hx2
 go_wp2_with fail
 refine (row_join S2.out S1.out HLL.out).mono ?_
 rintro e w3 ⟨q3,rfl,s3,hx3⟩
 have S3:=Lib.hid s3
 have HX3:=Lib.hid (HX2.out.trans hx3)
 clear s3 hx3
 go_wp2
 go_ret2
 exact ⟨q3,_,rfl,S3.out,HW.out.1,HW.out.2,HX3.out⟩
end
theorem wpList_vdel {P:Program} (w:World) {ops:Array Oper} {rest:List Oper} {o:Oper} {a:Act} {Q:Exit→Act→World→Prop} (hg:o.guard=none) (m x:Operand) (t k:TypeId) (hop:o.op=Op.call { callee:=Callee.builtin Builtin.delete,args:=#[m,x],argTypes:=#[t,k] })
  (vm vx:Value) (hm:a.eval m=vm) (hx:a.eval x=vx) (w':World) (hrun:∀ ty,(Builtin.delete_ #[t,k] ty #[vm,vx]).run P w=.ok (.tuple #[]) w') (hK:wpList P ops Q rest (a.put o.dst (.tuple #[])) w'):wpList P ops Q (o::rest) a w:=by
 refine wpList_plain hg fun K' hK'=>?_
 unfold Oper.wp
 simp [execOp,hop,resolve,invoke,builtin,hm,hx,hrun,Result.andThen]
 exact hK' _ _ hK
structure SetK (n:Nat) (M:List Int) (r k:Nat) (p:List Int) (m:Int→Option Value) (p':List Int) (m':Int→Option Value):Prop where
 len:p'.length=p.length
 g:∀ v:Nat,v < n→PD.g p' v=if (v:Int)∈M.take k then (r:Int) else PD.g p v
 m:∀ x:Int,m' x=if x∈M.take k then none else m x
theorem SetK.zero (n:Nat) (M:List Int) (r:Nat) (p:List Int) (m:Int→Option Value):SetK n M r 0 p m p m:=⟨rfl,fun v _=>by simp,fun x=>by simp⟩
theorem SetK.step {n r k x:Nat} {M p p':List Int} {m m':Int→Option Value} (h:SetK n M r k p m p' m') (hx:M[k]?=some (x:Int)) (hl:p.length=n) (hxn:x < n):SetK n M r (k+1) p m (p'.set x r) (updV m' (x:Int) none):=by
 have ht:M.take (k+1)=M.take k++[(x:Int)]:=take_snocT hx
 refine ⟨by rw [List.length_set,h.len],fun v hv=>?_,fun y=>?_⟩
 ·have hm:(v:Int)∈M.take (k+1)↔(v:Int)∈M.take k∨(v:Int)=(x:Int):=by rw [ht,List.mem_append,List.mem_singleton]
  by_cases e:v=x
  ·subst e
   rw [g_set_self (by rw [h.len];omega),if_pos (hm.2 (.inr rfl))]
  ·rw [g_set_ne (Ne.symm e),h.g v hv]
   by_cases q:(v:Int)∈M.take k
   ·rw [if_pos q,if_pos (hm.2 (.inl q))]
   ·rw [if_neg q,if_neg (fun w=>(hm.1 w).elim q (fun w=>by omega))]
 ·have hm:y∈M.take (k+1)↔y∈M.take k∨y=(x:Int):=by rw [ht,List.mem_append,List.mem_singleton]
  unfold updV
  by_cases e:y=(x:Int)
  ·rw [if_pos e,if_pos (hm.2 (.inr e))]
  ·rw [if_neg e,h.m y]
   by_cases q:y∈M.take k
   ·rw [if_pos q,if_pos (hm.2 (.inl q))]
   ·rw [if_neg q,if_neg (fun w=>(hm.1 w).elim q e)]
theorem SetK.done {n r:Nat} {M p p':List Int} {q:Option Addr} {m m':Int→Option Value} (h:SetK n M r M.length p m p' m'):SetR n M r q p m p' (updV m' (r:Int) (some (.pointer q))):=by
 refine ⟨h.len,fun v hv=>by rw [h.g v hv,List.take_length],fun x=>?_⟩
 unfold updV
 rw [h.m x,List.take_length]
structure SetAt (w wr:World) (F:FoP) (n N s r k:Nat) (M p:List Int) (m:Int→Option Value):Prop where
 st:∃ p' m' s',SetK n M r k p m p' m'∧RootAt wr F n p'∧VM kI wr F.mb N s' m'
 chg:Chg (fun k=>k=F.mb∨k=F.rb) w wr
def SetPost (w:World) (F:FoP) (n N:Nat) (l p:List Int) (q:Option Addr) (m:Int→Option Value) (e:Ending) (w':World):Prop:=
 e=.returned (.tuple #[])∧∃ (r:Nat) (p':List Int) (m':Int→Option Value) (s':Nat),(r:Int)∈mks l∧(∀ z∈mks l,(r:Int)≤z)∧SetR n (mks l) r q p m p' m'∧RootAt w' F n p'∧VM kI w' F.mb (N+1) s' m'∧Chg (fun k=>k=F.mb∨k=F.rb) w w'
set_option maxRecDepth 100000 in
theorem tset_any {w:World} {F:FoP} {n N s:Nat} {p l:List Int} {m:Int→Option Value} {q:Option Addr} (hb:Blk w F.fb 216 #[.map (some F.mb),F.rv n,.map (some F.eb)]) (hn:n≤60) (hroot:RootAt w F n p) (hpl:p.length=n) (hv:VM kI w F.mb N s m) (hN:N < 1000000)
  (hq:RowAt w q l) (hl:l.length≤400) (h0:0 < (mks l).length) (hM:∀ x∈mks l,∃ v:Nat,x=v∧v < n):
  Calls Tryz.prog 144 #[.pointer (some ⟨F.fb,0,none⟩),.pointer q] w (SetPost w F n N l p q m):=by
 have hlm:(mks l).length≤l.length:=List.length_filter_le _ _
 obtain ⟨M,hMe⟩:∃ M,M=mks l:=⟨_,rfl⟩
 have hfm:F.fb≠F.mb:=hv.blk_ne hb
 have hfr:F.fb≠F.rb:=fun e=>own_ne hroot hb (by decide) (by simp [FoP.rv,Value.ownBlock,e])
 have hrm:F.rb≠F.mb:=fun e=>hv.own_ne hroot (by simp [FoP.rv,Value.ownBlock,e])
 have hrl:F.rb < w.heap.size:=own_lt hroot (by simp [FoP.rv,Value.ownBlock])
 have hml:F.mb < w.heap.size:=hv.lt
 have HB:=Lib.hid hb
 have HQ:=Lib.hid hq
 have HR:=Lib.hid hroot
 have HV:=Lib.hid hv
 have HM:=Lib.hid hM
 have HP:=Lib.hid hpl
 clear hb hq hroot hv hM hpl
 go_enter Tryz.func144,Tryz.ntmps144
 go_wp2_with fail
 refine (nodes_any HQ.out (by omega) hl).mono ?_
 rintro e w1 ⟨A,c,rfl,ho,hx,hnew⟩
 have HO:=Lib.hid ho
 have HX:=Lib.hid hx
 have HNW:=Lib.hid hnew
 clear ho hx hnew
 go_wp2_with fail
 refine (min_any w1 A c (mks l) HO.out h0 (by omega)).mono ?_
 rintro e w1' ⟨rfl,hw1⟩
 obtain rfl:w1=w1':=hw1.symm
 obtain ⟨r,hr⟩:∃ r:Nat,Lib.minOf (mks l)=r:=by
  obtain ⟨v,hv,_⟩:=HM.out _ (minOf_least _ h0).1
  exact ⟨v,hv⟩
 have HMIN:=Lib.hid (minOf_least _ h0)
 rw [hr] at HMIN ⊢
 have hrn:r < n:=by
  obtain ⟨v,hv,hvn⟩:=HM.out _ HMIN.out.1
  omega
 rw [←hMe] at HO HM HMIN h0 hlm HNW ⊢
 clear hr
 obtain ⟨g,cg,hv,hcg,_⟩:=own_form HO.out h0
 simp only [Value.slice.injEq,true_and] at hv
 obtain ⟨rfl,rfl⟩:=hv
 have hgn:w.heap.size≤g:=HNW.out g (by simp [Value.ownBlock])
 obtain ⟨mm,hmm⟩:∃ mm,M.length=mm:=⟨_,rfl⟩
 have hz1:w.heap.size≤w1.heap.size:=HX.out.size
 have hBx:Hid (Blk w1 F.fb 216 #[.map (some F.mb),F.rv n,.map (some F.eb)]):=HB.out.chg (Chg.of_below HX.out) (by have:=HB.out.lt;omega)
 have HS0:Hid (SetAt w1 w1 F n N s r 0 M p m):=⟨⟨p,m,s,SetK.zero _ _ _ _ _,own_chg HR.out (Chg.of_below HX.out) (fun k hk=>by have:=own_lt HR.out hk;omega),HV.out.ext HX.out⟩,Chg.refl _ _⟩
 rw [hmm] at HO h0 hlm hcg ⊢
 go_wp2
 go_loopw [14] (fun v wr=>∃ k:Nat,k≤mm∧v=.int .i64 k∧Hid (SetAt w1 wr F n N s r k M p m)) (fun v _=>mm - (intOf v).toNat)
 case atStart=>exact ⟨0,Nat.zero_le _,rfl,HS0⟩
 case round=>
  obtain ⟨k,hk,rfl,HS⟩:=hrel
  have hBr:Hid (Blk wr F.fb 216 #[.map (some F.mb),F.rv n,.map (some F.eb)]):=hBx.out.chg HS.out.chg (by rintro (e | e);exact hfm e;exact hfr e)
  have d0:wr.cell? ⟨F.fb,0,none⟩=some (.map (some F.mb)):=hBr.out.cell 0
  have d1:wr.cell? ⟨F.fb,1,none⟩=some (.slice (some ⟨F.rb,0,none⟩) n F.c):=hBr.out.cell 1
  by_cases hlt:k < mm
  ·obtain ⟨x',hx'⟩:∃ x,M[k]?=some x:=⟨_,List.getElem?_eq_getElem (by omega)⟩
   obtain ⟨x,rfl,hxn⟩:=HM.out x' (List.mem_of_getElem? hx')
   have hor:=own_chg HO.out HS.out.chg (fun j hj=>by
    have:g=j:=by simpa [Value.ownBlock] using hj
    omega)
   have c1:wr.cell? ⟨g,k,none⟩=some (.int .i64 (x:Nat)):=by
    rw [hor.cellAt k (by omega),intsV,List.getElem?_map,hx'];rfl
   have c1':wr.cell? ⟨g,0+k,none⟩=some (.int .i64 (x:Nat)):=by rw [Nat.zero_add];exact c1
   obtain ⟨p',m',s',hk1,hk2,hk3⟩:=HS.out.st
   obtain ⟨w2,hdel,⟨s2,hs2,hv2⟩,hc2,hsz2⟩:=hk3.del Tryz.underlying213 (x:Int) (WalkArith.wf_i64 (by omega))
   have hdel:∀ ty,(Builtin.delete_ #[213,3] ty #[.map (some F.mb),.int .i64 x]).run Tryz.prog wr=.ok (.tuple #[]) w2:=hdel
   have e0:w2.cell? ⟨F.fb,0,none⟩=some (.map (some F.mb)):=(hBr.out.chg hc2 hfm).cell 0
   have e1:w2.cell? ⟨F.fb,1,none⟩=some (.slice (some ⟨F.rb,0,none⟩) n F.c):=(hBr.out.chg hc2 hfm).cell 1
   have hR2:RootAt w2 F n p':=own_chg hk2 hc2 (fun j hj=>by
    have:F.rb=j:=by simpa [FoP.rv,Value.ownBlock] using hj
    omega)
   have hfz:w2.frozen? ⟨F.rb,x,none⟩=false:=hR2.frozenAt x
   have hfz':w2.frozen? ⟨F.rb,0+x,none⟩=false:=by rw [Nat.zero_add];exact hfz
   have hce:∃ u,w2.cell? ⟨F.rb,x,none⟩=some u:=⟨_,by
    rw [hR2.cellAt x (by have:=hk1.len;have:=HP.out;omega),intsV,List.getElem?_map,List.getElem?_eq_getElem (by have:=hk1.len;have:=HP.out;omega)]
    rfl⟩
   obtain ⟨u,hu⟩:=hce
   have hu':w2.cell? ⟨F.rb,0+x,none⟩=some u:=by rw [Nat.zero_add];exact hu
   have HS2:Hid (SetAt w1 (w2.setCell ⟨F.rb,x,none⟩ (.int .i64 (r:Nat))) F n N s r (k+1) M p m):=by
    refine ⟨⟨p'.set x r,updV m' (x:Int) none,s2,hk1.step hx' HP.out hxn,?_,hv2.chg (chg_at w2 F.rb x _) (fun e=>hrm e.symm)⟩,?_⟩
    ·have:=(hR2.stored x (.int .i64 (r:Nat))).1
     unfold RootAt
     rw [intsV,List.map_set]
     exact this
    ·exact (HS.out.chg.trans hc2 (fun i _ hi=>.inl hi)).setCell (p:=⟨F.rb,x,none⟩) (fun _=>.inr rfl) _
   have z0:(k:Int) < (mm:Int):=by omega
   have z1:(x:Int) < (n:Int):=by omega
   clear hor hk1 hk2 hk3 hv2 hR2 hs2 hx'
   go_wp2_with (at_delete;refine wpList_vdel _ rfl _ _ _ _ rfl _ _ rfl rfl w2 hdel ?_)
   go_roundw
   case rel=>exact ⟨k+1,by omega,by go_num,HS2⟩
   case measure=>simp [intOf];omega
  ·obtain rfl:k=mm:=by omega
   obtain ⟨p',m',s',hk1,hk2,hk3⟩:=HS.out.st
   obtain ⟨w2,hput,hv2,hc2,hsz2⟩:=hk3.put Tryz.underlying213 hN (r:Int) (WalkArith.wf_i64 (by omega)) (.pointer q)
   have hput:(Instr.mapUpdate 213 (.map (some F.mb)) (.int .i64 r) (.pointer q)).run Tryz.prog wr=.ok () w2:=hput
   have HE:Hid (∃ (p':List Int) (m':Int→Option Value) (s':Nat),SetR n M r q p m p' m'∧RootAt w2 F n p'∧VM kI w2 F.mb (N+1) s' m'∧Chg (fun k=>k=F.mb∨k=F.rb) w w2):=by
    refine ⟨p',_,_,(hmm ▸ hk1).done,own_chg hk2 hc2 (fun j hj=>by
     have:F.rb=j:=by simpa [FoP.rv,Value.ownBlock] using hj
     omega),hv2,?_⟩
    exact ((Chg.of_below HX.out).mono (fun i hi hs=>by omega)).trans (HS.out.chg.trans hc2 (fun i _ hi=>.inl hi)) (fun i _ hi=>hi)
   clear hk1 hk2 hk3 hv2 hc2
   go_wp2
   go_end0
   obtain ⟨p2,m2,s2,a1,a2,a3,a4⟩:=HE.out
   exact ⟨rfl,r,p2,m2,s2,by rw [←hMe];exact HMIN.out.1,by rw [←hMe];exact HMIN.out.2,by rw [←hMe];exact a1,a2,a3,a4⟩
end Go.Proofs.YtkoajpeabicpdaaGreatDoor
