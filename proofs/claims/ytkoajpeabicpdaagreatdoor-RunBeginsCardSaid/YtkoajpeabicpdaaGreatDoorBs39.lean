/-
Rows of the nodes beside each node, in memory. No conditions.
-/
import Derived.Test.YtkoajpeabicpdaaGreatDoorBs17
import Derived.Test.YtkoajpeabicpdaaGreatDoorBs7
import Derived.Deep.RegionLaw
import Derived.Test.YtkoajpeabicpdaaGreatDoorBs14
import Derived.RegionTactic
import Derived.BigRegion
import Derived.BigQuiet
import Derived.StillTailTactics
import Derived.Deep.CutBlock
import Derived.Deep.DeepCutAuto
import Derived.Test.YtkoajpeabicpdaaGreatDoorBs5
import Derived.Test.YtkoajpeabicpdaaGreatDoorBs28
import Derived.Test.YtkoajpeabicpdaaGreatDoorBs4
import Derived.Test.YtkoajpeabicpdaaGreatDoorBs2
import Derived.Test.YtkoajpeabicpdaaGreatDoorBs32
import Derived.Test.YtkoajpeabicpdaaGreatDoorBs30
import Derived.Test.YtkoajpeabicpdaaGreatDoorBs22
set_option linter.unusedVariables false
set_option maxHeartbeats 8000000
namespace Go.Proofs.YtkoajpeabicpdaaGreatDoor
open Go Go.RowKit
theorem infoR:(Tryz.prog.info? 79).map (fun i=>(i.zero,i.size,i.bytes))=some (some (.slice none 0 0),1,24):=by kernel_rfl
theorem run_rows (n:Nat) (h:n≤1000):∃ cs:Array Value,cs.toList=List.replicate n (Value.slice none 0 0)∧∀ w:World,
  (Instr.makeSlice 145 (.int .i64 (n:Int)) (.int .i64 (n:Int))).run Tryz.prog w=.ok (.slice (some ⟨w.heap.size,0,none⟩) n n) (w.alloc (.cells cs 79)):=by
 obtain ⟨i,hi,hz0,hz1,hz2⟩:=info_parts infoR
 refine ⟨madeCells (Value.slice none 0 0).cells (n * i.size),?_,fun w=>?_⟩
 ·rw [hz1];show (madeCells #[Value.slice none 0 0] (n * 1)).toList=_;rw [toList_madeCells_one];simp
 ·have:=run_make w 145 79 i _ Tryz.underlying145 hi hz0 .i64 .i64 (n:Int) (n:Int) (by omega) (Int.le_refl _) (by rw [hz2];omega) (by omega)
  simpa using this
def nbs (l:List AK.Ed) (v:Nat):List Int:=l.flatMap fun x=>(if x.1=(v:Int) then [x.2] else [])++(if x.2=(v:Int) then [x.1] else [])
theorem nbs_snoc (l:List AK.Ed) (x:AK.Ed) (v:Nat):nbs (l++[x]) v=nbs l v++((if x.1=(v:Int) then [x.2] else [])++(if x.2=(v:Int) then [x.1] else [])):=by simp [nbs]
theorem nbs_mem {l:List AK.Ed} {v:Nat} {y:Int}:y∈nbs l v↔((v:Int),y)∈l∨(y,(v:Int))∈l:=by
 simp only [nbs,List.mem_flatMap,List.mem_append]
 constructor
 ·rintro ⟨⟨a,b⟩,hx,h | h⟩
  ·by_cases e:a=(v:Int)
   ·rw [if_pos e] at h;simp at h;subst h;subst e;exact .inl hx
   ·rw [if_neg e] at h;simp at h
  ·by_cases e:b=(v:Int)
   ·rw [if_pos e] at h;simp at h;subst h;subst e;exact .inr hx
   ·rw [if_neg e] at h;simp at h
 ·rintro (h | h)
  ·exact ⟨_,h,.inl (by simp)⟩
  ·exact ⟨_,h,.inr (by simp)⟩
theorem nbs_len (l:List AK.Ed) (v:Nat):(nbs l v).length≤2 * l.length:=by
 induction l with
 | nil=>simp [nbs]
 | cons x l ih=>
  have e:nbs (x::l) v=((if x.1=(v:Int) then [x.2] else [])++(if x.2=(v:Int) then [x.1] else []))++nbs l v:=by simp [nbs]
  rw [e,List.length_append,List.length_append,List.length_cons]
  split <;> split <;> simp <;> omega
def upd (R:Nat→List Int) (a:Nat) (r:List Int):Nat→List Int:=fun v=>if v=a then r else R v
def updVB (V:Nat→Value) (a:Nat) (x:Value):Nat→Value:=fun v=>if v=a then x else V v
def rowV (n:Nat) (V:Nat→Value):Array Value:=((List.range n).map V).toArray
theorem rowV_get {n:Nat} {V:Nat→Value} {v:Nat} (h:v < n):(rowV n V)[v]?=some (V v):=by simp [rowV,h]
theorem rowV_set {n:Nat} {V:Nat→Value} {a:Nat} {x:Value} (h:a < n):(rowV n V).setIfInBounds a x=rowV n (updVB V a x):=by
 apply Array.ext_getElem?
 intro j
 rw [Array.getElem?_setIfInBounds]
 by_cases e:a=j
 ·subst e;rw [if_pos rfl,if_pos (by simp [rowV,h]),rowV_get h];simp [updVB]
 ·rw [if_neg e]
  by_cases hj:j < n
  ·rw [rowV_get hj,rowV_get hj];simp [updVB,show j≠a from fun h=>e h.symm]
  ·rw [Array.getElem?_eq_none (by simp [rowV];omega),Array.getElem?_eq_none (by simp [rowV];omega)]
structure BsV (w:World) (n G:Nat) (R:Nat→List Int) (V:Nat→Value) (wr:World):Prop where
 blk:Blk wr G 79 (rowV n V)
 row:∀ v,v < n→wr.ownsRow 0 3 1 (V v) (R v).length (intsV (R v))
 new:∀ v,v < n→∀ k,(V v).ownBlock=some k→w.heap.size≤k
 two:∀ u v,u < n→v < n→u≠v→∀ k,(V u).ownBlock=some k→(V v).ownBlock≠some k
 ext:Ext w wr
 G:w.heap.size≤G
theorem BsV.moved {w wr w':World} {n G:Nat} {R:Nat→List Int} {V:Nat→Value} (h:BsV w n G R V wr) (hx:Ext wr w'):BsV w n G R V w':=
 ⟨h.blk.chg (Chg.of_below hx) (by have:=h.blk.lt;omega),fun v hv=>own_chg (h.row v hv) (Chg.of_below hx) (fun k hk=>by have:=own_lt (h.row v hv) hk;omega),h.new,h.two,Ext.trans h.ext hx,h.G⟩
theorem BsV.cell {w wr:World} {n G:Nat} {R:Nat→List Int} {V:Nat→Value} (h:BsV w n G R V wr) {a:Nat} (ha:a < n):wr.cell? ⟨G,a,none⟩=some (V a)∧wr.frozen? ⟨G,a,none⟩=false:=
 ⟨by rw [h.blk.cell,rowV_get ha],h.blk.frozen a⟩
theorem BsV.apart {w wr:World} {n G:Nat} {R:Nat→List Int} {V:Nat→Value} (h:BsV w n G R V wr) {a:Nat} (ha:a < n):(V a).ownBlock≠some G:=own_ne (h.row a ha) h.blk (by decide)
theorem BsV.push {w w2 w':World} {n G a g c:Nat} {R:Nat→List Int} {V:Nat→Value} {x:Int} (h:BsV w n G R V w2) (ha:a < n)
  (ho:w'.ownsRow 0 3 1 (.slice (some ⟨g,0,none⟩) ((R a).length+1) c) ((R a).length+1) (intsV (R a)++[.int .i64 x])) (hc:Chg (fun k=>(V a).ownBlock=some k) w2 w') (hat:(V a).ownBlock=some g∨g=w2.heap.size):
  w'.cell? ⟨G,a,none⟩=some (V a)∧w'.frozen? ⟨G,a,none⟩=false∧Hid (BsV w n G (upd R a (R a++[x])) (updVB V a (.slice (some ⟨g,0,none⟩) ((R a).length+1) c)) (w'.setCell ⟨G,a,none⟩ (.slice (some ⟨g,0,none⟩) ((R a).length+1) c))):=by
 have hb:Blk w' G 79 (rowV n V):=h.blk.chg hc (h.apart ha)
 have hgG:g≠G:=by
  rcases hat with hat | hat
  ·rintro rfl;exact h.apart ha hat
  ·have:=h.blk.lt;omega
 have hgn:w.heap.size≤g:=by
  rcases hat with hat | hat
  ·exact h.new a ha g hat
  ·have:=h.ext.size;omega
 have hgo:∀ v,v < n→v≠a→(V v).ownBlock≠some g:=fun v hv hva hvg=>by
  rcases hat with hat | hat
  ·exact h.two a v ha hv (Ne.symm hva) g hat hvg
  ·have:=own_lt (h.row v hv) hvg;omega
 refine ⟨by rw [hb.cell,rowV_get ha],hb.frozen a,⟨by rw [←rowV_set ha];exact hb.set_ a _,fun v hv=>?_,fun v hv k hk=>?_,fun u v hu hv huv k hk=>?_,?_,h.G⟩⟩
 ·by_cases e:v=a
  ·subst e
   simp only [upd,updVB,if_pos]
   have:intsV (R v++[x])=intsV (R v)++[.int .i64 x]:=by simp [intsV]
   rw [this,List.length_append]
   exact own_far ho (p:=⟨G,v,none⟩) (by simpa [Value.ownBlock] using hgG) _
  ·simp only [upd,updVB,if_neg e]
   refine own_far (own_chg (h.row v hv) hc (fun k hk hk2=>h.two v a hv ha e k hk hk2)) (p:=⟨G,a,none⟩) ?_ _
   exact h.apart hv
 ·by_cases e:v=a
  ·subst e;simp only [updVB,if_pos] at hk;simp [Value.ownBlock] at hk;subst hk;exact hgn
  ·simp only [updVB,if_neg e] at hk;exact h.new v hv k hk
 ·by_cases e:u=a
  ·subst e
   simp only [updVB,if_pos] at hk
   simp [Value.ownBlock] at hk;subst hk
   simp only [updVB,if_neg (Ne.symm huv)]
   exact hgo v hv (Ne.symm huv)
  ·simp only [updVB,if_neg e] at hk
   by_cases e2:v=a
   ·subst e2
    simp only [updVB,if_pos]
    intro h2
    simp [Value.ownBlock] at h2;subst h2
    exact hgo u hu e hk
   ·simp only [updVB,if_neg e2]
    exact h.two u v hu hv huv k hk
 ·exact (((Chg.of_below h.ext).trans hc (fun k _ hk=>h.new a ha k hk)).setCell (p:=⟨G,a,none⟩) (fun _=>h.G) _).below (Nat.le_refl _) (fun _ _ h=>h)
theorem BsV.sort {w w2 w':World} {n G a:Nat} {R:Nat→List Int} {V:Nat→Value} (h:BsV w n G R V w2) (ha:a < n)
  (ho:w'.ownsRow 0 3 1 (V a) (R a).length (intsV (sorted (R a)))) (hc:Chg (fun k=>(V a).ownBlock=some k) w2 w'):BsV w n G (upd R a (sorted (R a))) V w':=by
 refine ⟨h.blk.chg hc (h.apart ha),fun v hv=>?_,h.new,h.two,((Chg.of_below h.ext).trans hc (fun k _ hk=>h.new a ha k hk)).below (Nat.le_refl _) (fun _ _ h=>h),h.G⟩
 by_cases e:v=a
 ·subst e;simp only [upd,if_pos];rw [sorted_length];exact ho
 ·simp only [upd,if_neg e]
  exact own_chg (h.row v hv) hc (fun k hk hk2=>h.two v a hv ha e k hk hk2)
def BesPost (w:World) (n:Nat) (l:List AK.Ed) (e:Ending) (w':World):Prop:=∃ G c N,e=.returned (.slice (some ⟨G,0,none⟩) n c)∧BesAt w' G n N∧BesOf n l N∧(∀ v,v < n→(N v).Pairwise (fun x y=>x≤y))∧Ext w w'
def BesIn (B:Nat) (w:World) (G n:Nat):Prop:=B≤G∧∀ v,v < n→∀ A m c,w.cell? ⟨G,v,none⟩=some (.slice A m c)→∀ ad,A=some ad→B≤ad.block
theorem BsV.inn {w wr:World} {n G:Nat} {R:Nat→List Int} {V:Nat→Value} (h:BsV w n G R V wr):BesIn w.heap.size wr G n:=
 ⟨h.G,fun v hv A m c hc ad hA=>by
  subst hA
  have h1:=(h.cell hv).1
  rw [hc] at h1
  injection h1 with h1
  rcases (h.row v hv).2 with ⟨h2,_⟩ | ⟨g,cap,cur,h2,_⟩
  ·rw [←h1] at h2;simp at h2
  ·rw [←h1] at h2
   simp only [Value.slice.injEq,Option.some.injEq] at h2
   have h3:=h.new v hv g (by rw [←h1,h2.1];rfl)
   rw [h2.1];exact h3⟩
def BesPost2 (w:World) (n:Nat) (l:List AK.Ed) (e:Ending) (w':World):Prop:=∃ G c N,e=.returned (.slice (some ⟨G,0,none⟩) n c)∧BesAt w' G n N∧BesOf n l N∧(∀ v,v < n→(N v).Pairwise (fun x y=>x≤y))∧Ext w w'∧BesIn w.heap.size w' G n
theorem BsV.done {w wr:World} {n G:Nat} {l:List AK.Ed} {R:Nat→List Int} {V:Nat→Value} (h:BsV w n G R V wr) (hR:∀ v,v < n→R v=sorted (nbs l v)) (hf:Fine n l):∃ N,BesAt wr G n N∧BesOf n l N∧∀ v,v < n→(N v).Pairwise (fun x y=>x≤y):=by
 have hpos:∀ v,v < n→∀ y∈R v,∃ z:Nat,y=(z:Int)∧z < n:=fun v hv y hy=>by
  rw [hR v hv,sorted_mem,nbs_mem] at hy
  rcases hy with hy | hy
  ·obtain ⟨i,hi⟩:=List.getElem?_of_mem hy
   obtain ⟨h1,h2,h3⟩:=hf.2 i _ hi
   obtain ⟨z,hz⟩:=Int.eq_ofNat_of_zero_le (show 0≤y by simp only at h1 h2;omega)
   exact ⟨z,hz,by simp only at h3;omega⟩
  ·obtain ⟨i,hi⟩:=List.getElem?_of_mem hy
   obtain ⟨h1,h2,h3⟩:=hf.2 i _ hi
   obtain ⟨z,hz⟩:=Int.eq_ofNat_of_zero_le h1
   exact ⟨z,hz,by simp only at h2 h3 hz;omega⟩
 have hmap:∀ v,v < n→((R v).map Int.toNat).map (fun (x:Nat)=>(x:Int))=R v:=fun v hv=>by
  rw [List.map_map]
  conv=>rhs;rw [←List.map_id (R v)]
  refine List.map_congr_left fun y hy=>?_
  obtain ⟨z,rfl,_⟩:=hpos v hv y hy
  simp
 refine ⟨fun v=>(R v).map Int.toNat,⟨h.blk.lt,fun v hv=>?_⟩,fun v hv x=>?_,fun v hv=>?_⟩
 ·obtain ⟨A,c,hV,_⟩:=own_slice3 (h.row v hv)
  have hr:=h.row v hv
  rw [hV] at hr
  refine ⟨A,c,by rw [(h.cell hv).1,hV];simp,?_,?_⟩
  ·rw [hmap v hv]
   exact (IntsAt.of_own hr).1
  ·rw [List.length_map,hR v hv,sorted_length]
   have:=nbs_len l v
   have:=hf.1
   omega
 ·constructor
  ·intro hx
   obtain ⟨y,hy,rfl⟩:=List.mem_map.1 hx
   obtain ⟨z,rfl,hz⟩:=hpos v hv y hy
   rw [hR v hv,sorted_mem,nbs_mem] at hy
   exact ⟨by simpa using hz,by simpa [PD.adj] using hy⟩
  ·rintro ⟨hx,hadj⟩
   refine List.mem_map.2 ⟨(x:Int),?_,by simp⟩
   rw [hR v hv,sorted_mem,nbs_mem]
   exact hadj
 ·have hs:=sorted_rises (nbs l v)
  rw [←hR v hv] at hs
  rw [List.pairwise_map]
  refine List.Pairwise.imp_of_mem ?_ hs
  intro x y hx hy hxy
  obtain ⟨a,rfl,_⟩:=hpos v hv x hx
  obtain ⟨b,rfl,_⟩:=hpos v hv y hy
  simpa using hxy
structure Wkr where
 W:Nat
 gw:Nat
 gl:Nat
 gp:Nat
 vB:Value
def Wkr.S (k:Wkr) (j:Nat):Prop:=j=k.gw∨j=k.gl∨j=k.gp
structure WkAt (w0:World) (n:Nat) (k:Wkr) (vE vJ:Value) (s:DF.Wk) (wr:World):Prop where
 blk:Blk wr k.W 154 #[k.vB,.slice (some ⟨k.gw,0,none⟩) n n,.slice (some ⟨k.gl,0,none⟩) n n,.slice (some ⟨k.gp,0,none⟩) n n,.int .i64 (s.tm:Int),vE,vJ]
 wh:wr.ownsRow 0 3 1 (.slice (some ⟨k.gw,0,none⟩) n n) n (intsV s.wh)
 lo:wr.ownsRow 0 3 1 (.slice (some ⟨k.gl,0,none⟩) n n) n (intsV s.lo)
 pa:wr.ownsRow 0 3 1 (.slice (some ⟨k.gp,0,none⟩) n n) n (intsV s.pa)
 ed:DRow wr vE s.ed
 jo:wr.ownsRow 0 3 1 vJ s.jo.length (natsV s.jo)
 d1:k.gw≠k.gl
 d2:k.gw≠k.gp
 d3:k.gl≠k.gp
 j1:vJ.ownBlock≠some k.gw
 j2:vJ.ownBlock≠some k.gl
 j3:vJ.ownBlock≠some k.gp
 nE:∀ x,vE.ownBlock=some x→w0.heap.size≤x
 nJ:∀ x,vJ.ownBlock=some x→w0.heap.size≤x
 nW:w0.heap.size≤k.W
 chg:Chg k.S w0 wr
section
variable {w0 wr w':World} {n:Nat} {k:Wkr} {vE vJ:Value} {s:DF.Wk}
theorem slice_own (g n c:Nat):(Value.slice (some ⟨g,0,none⟩) n c).ownBlock=some g:=rfl
theorem slice_ne {g h n c:Nat} (e:g≠h):(Value.slice (some ⟨g,0,none⟩) n c).ownBlock≠some h:=by
 rw [slice_own];intro q;injection q with q;exact e q
theorem WkAt.w1 (h:WkAt w0 n k vE vJ s wr):k.W≠k.gw:=fun e=>own_ne h.wh h.blk (by decide) (by rw [slice_own,e])
theorem WkAt.w2 (h:WkAt w0 n k vE vJ s wr):k.W≠k.gl:=fun e=>own_ne h.lo h.blk (by decide) (by rw [slice_own,e])
theorem WkAt.w3 (h:WkAt w0 n k vE vJ s wr):k.W≠k.gp:=fun e=>own_ne h.pa h.blk (by decide) (by rw [slice_own,e])
theorem WkAt.wJ (h:WkAt w0 n k vE vJ s wr):vJ.ownBlock≠some k.W:=own_ne h.jo h.blk (by decide)
theorem WkAt.wE (h:WkAt w0 n k vE vJ s wr):vE.ownBlock≠some k.W:=own_ne h.ed h.blk (by decide)
theorem WkAt.e1 (h:WkAt w0 n k vE vJ s wr):vE.ownBlock≠some k.gw:=fun e=>own_neq h.ed h.wh (by decide) e (slice_own _ _ _)
theorem WkAt.e2 (h:WkAt w0 n k vE vJ s wr):vE.ownBlock≠some k.gl:=fun e=>own_neq h.ed h.lo (by decide) e (slice_own _ _ _)
theorem WkAt.e3 (h:WkAt w0 n k vE vJ s wr):vE.ownBlock≠some k.gp:=fun e=>own_neq h.ed h.pa (by decide) e (slice_own _ _ _)
theorem WkAt.eJ (h:WkAt w0 n k vE vJ s wr) {x:Nat} (e:vE.ownBlock=some x):vJ.ownBlock≠some x:=own_neq h.ed h.jo (by decide) e
theorem WkAt.moved (h:WkAt w0 n k vE vJ s wr) (hx:Ext wr w'):WkAt w0 n k vE vJ s w':=by
 have key:∀ {e:TypeId} {size:Nat} {v:Value} {m:Nat} {xs:List Value},wr.ownsRow 0 e size v m xs→w'.ownsRow 0 e size v m xs:=fun h1=>own_chg h1 (Chg.of_below hx) (fun k hk=>by have:=own_lt h1 hk;omega)
 exact { h with blk:=h.blk.chg (Chg.of_below hx) (by have:=h.blk.lt;omega),wh:=key h.wh,lo:=key h.lo,pa:=key h.pa,ed:=key h.ed,jo:=key h.jo,chg:=h.chg.trans (Chg.of_below hx) (fun i hi hS=>absurd hi (by have:=h.chg.size;omega)) }
theorem WkAt.drew (h:WkAt w0 n k vE vJ s wr):WkAt w0 n k vE vJ s wr.drew:=h.moved (Ext.drew _)
theorem WkAt.drewN (h:WkAt w0 n k vE vJ s wr) (m:Nat):WkAt w0 n k vE vJ s (wr.drewN m):=h.moved (Ext.drewN _ _)
theorem WkAt.setChg (h:WkAt w0 n k vE vJ s wr) {g:Nat} (hg:g < w0.heap.size→k.S g) (i:Nat) (v:Value):Chg k.S w0 (wr.setCell ⟨g,i,none⟩ v):=
 h.chg.setCell (p:=⟨g,i,none⟩) hg v
theorem intsV_set (d:List Int) (i:Nat) (x:Int):intsV (d.set i x)=(intsV d).set i (.int .i64 x):=by rw [intsV,intsV,List.map_set]
theorem WkAt.setTm (h:WkAt w0 n k vE vJ s wr) (x:Nat):WkAt w0 n k vE vJ { s with tm:=x } (wr.setCell ⟨k.W,4,none⟩ (.int .i64 (x:Int))):=
 { h with
  blk:=h.blk.set_ 4 _
  wh:=own_far h.wh (p:=⟨k.W,4,none⟩) (slice_ne (Ne.symm h.w1)) _
  lo:=own_far h.lo (p:=⟨k.W,4,none⟩) (slice_ne (Ne.symm h.w2)) _
  pa:=own_far h.pa (p:=⟨k.W,4,none⟩) (slice_ne (Ne.symm h.w3)) _
  ed:=own_far h.ed (p:=⟨k.W,4,none⟩) h.wE _
  jo:=own_far h.jo (p:=⟨k.W,4,none⟩) h.wJ _
  chg:=h.setChg (fun q=>absurd q (by have:=h.nW;omega)) _ _ }
theorem WkAt.setW (h:WkAt w0 n k vE vJ s wr) (a:Nat) (x:Int):WkAt w0 n k vE vJ { s with wh:=s.wh.set a x } (wr.setCell ⟨k.gw,a,none⟩ (.int .i64 x)):=
 { h with
  blk:=h.blk.far (p:=⟨k.gw,a,none⟩) h.w1 _
  wh:=by rw [intsV_set];exact (h.wh.stored a _).1
  lo:=own_far h.lo (p:=⟨k.gw,a,none⟩) (slice_ne (Ne.symm h.d1)) _
  pa:=own_far h.pa (p:=⟨k.gw,a,none⟩) (slice_ne (Ne.symm h.d2)) _
  ed:=own_far h.ed (p:=⟨k.gw,a,none⟩) h.e1 _
  jo:=own_far h.jo (p:=⟨k.gw,a,none⟩) h.j1 _
  chg:=h.setChg (fun _=>.inl rfl) _ _ }
theorem WkAt.setL (h:WkAt w0 n k vE vJ s wr) (a:Nat) (x:Int):WkAt w0 n k vE vJ { s with lo:=s.lo.set a x } (wr.setCell ⟨k.gl,a,none⟩ (.int .i64 x)):=
 { h with
  blk:=h.blk.far (p:=⟨k.gl,a,none⟩) h.w2 _
  lo:=by rw [intsV_set];exact (h.lo.stored a _).1
  wh:=own_far h.wh (p:=⟨k.gl,a,none⟩) (slice_ne h.d1) _
  pa:=own_far h.pa (p:=⟨k.gl,a,none⟩) (slice_ne (Ne.symm h.d3)) _
  ed:=own_far h.ed (p:=⟨k.gl,a,none⟩) h.e2 _
  jo:=own_far h.jo (p:=⟨k.gl,a,none⟩) h.j2 _
  chg:=h.setChg (fun _=>.inr (.inl rfl)) _ _ }
theorem WkAt.setP (h:WkAt w0 n k vE vJ s wr) (a:Nat) (x:Int):WkAt w0 n k vE vJ { s with pa:=s.pa.set a x } (wr.setCell ⟨k.gp,a,none⟩ (.int .i64 x)):=
 { h with
  blk:=h.blk.far (p:=⟨k.gp,a,none⟩) h.w3 _
  pa:=by rw [intsV_set];exact (h.pa.stored a _).1
  wh:=own_far h.wh (p:=⟨k.gp,a,none⟩) (slice_ne h.d2) _
  lo:=own_far h.lo (p:=⟨k.gp,a,none⟩) (slice_ne h.d3) _
  ed:=own_far h.ed (p:=⟨k.gp,a,none⟩) h.e3 _
  jo:=own_far h.jo (p:=⟨k.gp,a,none⟩) h.j3 _
  chg:=h.setChg (fun _=>.inr (.inr rfl)) _ _ }
theorem WkAt.pushE (h:WkAt w0 n k vE vJ s wr) {g c:Nat} {x:AK.Ed} (ho:w'.ownsRow 0 93 2 (.slice (some ⟨g,0,none⟩) (s.ed.length+1) c) (s.ed.length+1) (rowsOf edC s.ed++edC x)) (hc:Chg (fun j=>vE.ownBlock=some j) wr w') (hat:vE.ownBlock=some g∨g=wr.heap.size):
  Blk w' k.W 154 #[k.vB,.slice (some ⟨k.gw,0,none⟩) n n,.slice (some ⟨k.gl,0,none⟩) n n,.slice (some ⟨k.gp,0,none⟩) n n,.int .i64 (s.tm:Int),vE,vJ]∧WkAt w0 n k (.slice (some ⟨g,0,none⟩) (s.ed.length+1) c) vJ { s with ed:=s.ed++[x] } (w'.setCell ⟨k.W,5,none⟩ (.slice (some ⟨g,0,none⟩) (s.ed.length+1) c)):=by
 have hb:=h.blk.chg hc h.wE
 have hgW:g≠k.W:=by
  rcases hat with e | e
  ·rintro rfl;exact h.wE e
  ·have:=h.blk.lt;omega
 have key:∀ {e:TypeId} {size:Nat} {v:Value} {m:Nat} {xs:List Value},wr.ownsRow 0 e size v m xs→(∀ j,v.ownBlock=some j→vE.ownBlock≠some j)→v.ownBlock≠some k.W→(w'.setCell ⟨k.W,5,none⟩ (.slice (some ⟨g,0,none⟩) (s.ed.length+1) c)).ownsRow 0 e size v m xs:=fun h1 h2 h3=>own_far (own_chg h1 hc h2) (p:=⟨k.W,5,none⟩) h3 _
 refine ⟨hb,{ h with blk:=hb.set_ 5 _,wh:=key h.wh (fun j hj q=>?_) (slice_ne (Ne.symm h.w1)),lo:=key h.lo (fun j hj q=>?_) (slice_ne (Ne.symm h.w2)),pa:=key h.pa (fun j hj q=>?_) (slice_ne (Ne.symm h.w3)),ed:=?_,jo:=key h.jo (fun j hj q=>h.eJ q hj) h.wJ,nE:=fun y hy=>?_,chg:=?_ }⟩
 ·rw [slice_own] at hj;injection hj with hj;subst hj;exact h.e1 q
 ·rw [slice_own] at hj;injection hj with hj;subst hj;exact h.e2 q
 ·rw [slice_own] at hj;injection hj with hj;subst hj;exact h.e3 q
 ·unfold DRow
  rw [rowsOf_app,List.length_append,List.length_singleton]
  have:rowsOf edC [x]=edC x:=by simp [rowsOf]
  rw [this]
  exact own_far ho (p:=⟨k.W,5,none⟩) (slice_ne hgW) _
 ·rw [slice_own] at hy;injection hy with hy;subst hy
  rcases hat with e | e
  ·exact h.nE g e
  ·have:=h.chg.size;omega
 ·exact (h.chg.trans hc (fun i hi hS=>absurd (h.nE i hS) (by omega))).setCell (p:=⟨k.W,5,none⟩) (fun q=>absurd q (by have:=h.nW;simp only;omega)) _
theorem WkAt.pushJ (h:WkAt w0 n k vE vJ s wr) {g c a:Nat} (ho:w'.ownsRow 0 3 1 (.slice (some ⟨g,0,none⟩) (s.jo.length+1) c) (s.jo.length+1) (natsV s.jo++[.int .i64 (a:Int)])) (hc:Chg (fun j=>vJ.ownBlock=some j) wr w') (hat:vJ.ownBlock=some g∨g=wr.heap.size):
  Blk w' k.W 154 #[k.vB,.slice (some ⟨k.gw,0,none⟩) n n,.slice (some ⟨k.gl,0,none⟩) n n,.slice (some ⟨k.gp,0,none⟩) n n,.int .i64 (s.tm:Int),vE,vJ]∧WkAt w0 n k vE (.slice (some ⟨g,0,none⟩) (s.jo.length+1) c) { s with jo:=s.jo++[a] } (w'.setCell ⟨k.W,6,none⟩ (.slice (some ⟨g,0,none⟩) (s.jo.length+1) c)):=by
 have hb:=h.blk.chg hc h.wJ
 have hgW:g≠k.W:=by
  rcases hat with e | e
  ·rintro rfl;exact h.wJ e
  ·have:=h.blk.lt;omega
 have key:∀ {e:TypeId} {size:Nat} {v:Value} {m:Nat} {xs:List Value},wr.ownsRow 0 e size v m xs→(∀ j,v.ownBlock=some j→vJ.ownBlock≠some j)→v.ownBlock≠some k.W→(w'.setCell ⟨k.W,6,none⟩ (.slice (some ⟨g,0,none⟩) (s.jo.length+1) c)).ownsRow 0 e size v m xs:=fun h1 h2 h3=>own_far (own_chg h1 hc h2) (p:=⟨k.W,6,none⟩) h3 _
 have far:∀ {x m cc:Nat} {xs:List Value},wr.ownsRow 0 3 1 (.slice (some ⟨x,0,none⟩) m cc) m xs→vJ.ownBlock≠some x→g≠x:=fun {x m cc xs} h1 h2=>by
  rcases hat with e | e
  ·rintro rfl;exact h2 e
  ·have:=own_lt h1 (slice_own x m cc);omega
 refine ⟨hb,{ h with blk:=hb.set_ 6 _,wh:=key h.wh (fun j hj q=>?_) (slice_ne (Ne.symm h.w1)),lo:=key h.lo (fun j hj q=>?_) (slice_ne (Ne.symm h.w2)),pa:=key h.pa (fun j hj q=>?_) (slice_ne (Ne.symm h.w3)),jo:=?_,ed:=key h.ed (fun j hj q=>h.eJ hj q) h.wE,j1:=slice_ne (far h.wh h.j1),j2:=slice_ne (far h.lo h.j2),j3:=slice_ne (far h.pa h.j3),nJ:=fun y hy=>?_,chg:=?_ }⟩
 ·rw [slice_own] at hj;injection hj with hj;subst hj;exact h.j1 q
 ·rw [slice_own] at hj;injection hj with hj;subst hj;exact h.j2 q
 ·rw [slice_own] at hj;injection hj with hj;subst hj;exact h.j3 q
 ·have e:natsV (s.jo++[a])=natsV s.jo++[.int .i64 (a:Int)]:=by simp [natsV]
  rw [e,List.length_append,List.length_singleton]
  exact own_far ho (p:=⟨k.W,6,none⟩) (slice_ne hgW) _
 ·rw [slice_own] at hy;injection hy with hy;subst hy
  rcases hat with e | e
  ·exact h.nJ g e
  ·have:=h.chg.size;omega
 ·exact (h.chg.trans hc (fun i hi hS=>absurd (h.nJ i hS) (by omega))).setCell (p:=⟨k.W,6,none⟩) (fun q=>absurd q (by have:=h.nW;simp only;omega)) _
theorem int_cell {g c v:Nat} {d:List Int} (h:wr.ownsRow 0 3 1 (.slice (some ⟨g,0,none⟩) n c) n (intsV d)) (hd:d.length=n) (hv:v < n):wr.cell? ⟨g,v,none⟩=some (.int .i64 (PD.g d v))∧wr.frozen? ⟨g,v,none⟩=false:=by
 refine ⟨?_,h.frozenAt _⟩
 rw [h.cellAt v (by omega),intsV,List.getElem?_map,List.getElem?_eq_getElem (by omega)]
 simp [PD.g,List.getD_eq_getElem?_getD,List.getElem?_eq_getElem (show v < d.length by omega)]
def WkPost (w0:World) (n:Nat) (k:Wkr) (s:DF.Wk) (e:Ending) (w':World):Prop:=e=.returned (.tuple #[])∧∃ vE vJ,WkAt w0 n k vE vJ s w'
end
def dFst:Code→Code | .seq a _=>a | c=>c
def dSnd:Code→Code | .seq _ b=>b | c=>c
def dArm:Code→Code | .block _ c=>c | .loop c=>c | c=>c
def dThen:Code→Code | .cond _ c _=>c | c=>c
def dBody (f:Func):Code:=match f.body with | some c=>c | none=>.skip
noncomputable def wkLoop:Code:=dArm (dArm (dSnd (dFst (dSnd (dSnd (dSnd (dBody Tryz.f130)))))))
noncomputable def wkRound:Code:=dArm (dFst (dSnd (dSnd wkLoop)))
noncomputable def wkSeen:Code:=dFst (dSnd (dSnd wkRound))
noncomputable def wkTail:Code:=dSnd (dSnd (dSnd wkRound))
noncomputable def wk8:Code:=dFst (dThen (dSnd wkSeen))
noncomputable def wkMid:Code:=dFst (dSnd (dSnd (dSnd wkTail)))
noncomputable def wk11:Code:=dFst (dSnd (dSnd wkTail))
noncomputable def wk12:Code:=dFst wkMid
noncomputable def wk13:Code:=dThen (dSnd wkMid)
noncomputable def wk17:Code:=dThen (dSnd (dSnd (dSnd (dSnd (dSnd (dBody Tryz.f130))))))
noncomputable def wkBlk:Code:=dFst (dSnd (dSnd wkLoop))
noncomputable def wk14:Code:=dSnd (dSnd (dSnd (dSnd wkTail)))
set_option maxRecDepth 100000 in
theorem wk8_any {w0 w:World} {n:Nat} {k:Wkr} {vE vJ:Value} {s:DF.Wk} {a b:Nat} {jb:Bool} (han:a < n) (hbn:b < n) (hn:n≤60) (H:Hid (WkAt w0 n k vE vJ s w)) (HOK:Hid (DF.Ok n s)) (HED:s.ed.length≤60) (Q:Exit→Act→World→Prop) {u2 u3 u4 u5 u6 u7 u8 u9 u10 u12 u13 u14 u15 u16 u17 u18 u19 u20 u21 u22 u23 u24 u25 u26 u27 u28 u29 u30 u31 u32 u33 u34 u35 u36 u37 u38 u39 u40 u41 u42 u43 u44 u45 u46 u47 u48 u49 u50 u51 u52 u53 u54 u55 u56 u57 u58 u59 u60 u61 u62 u63 u64 u65 u66 u67 u68 u69 u70 u71 u72 u73 u74 u75 u76 u77 u78 u79 u80 u81 u82 u83 u84 u85 u86 u87 u88 u89 u90 u91 u92 u93 u94 u95 u96 u97 u98 u99 u100 u101 u102 u103 u104 u105 u106 u107 u108 u109 u110 u111 u112 u113 u114 u115 u116 u117 u118 u119 u120 u121 u122 u123 u124 u125 u126 u127 u128 u129 u130 u131 u132 u133 u134 u135 u136 u137 u138 u139 u140 u141 u142 u143 u144 u145 u146 u147 u148 u149 u150 u151 u152 u153 u154 u155 u156 u157 u158 u159 u160 u161 u162 u163 u164 u165 u166 u167 u168 u169 u170 u171 u172 u173 u174 u175 u176 u177 u178 u179 u180 u181 u182 u183 u184 u185 u186 u187 u188 u189 u190 u191 u192:Value}
  (hK:∀ (v69 v70 v71 v72 v73 v74 v75 v76 v77 v78 v79 v80 v81 v82 v83 v84 v85 v86 v87 v88 v89:Value),∀ w',WkAt w0 n k vE vJ (DF.low a (PD.g s.wh b) s) w'→Q .normal ⟨List.toArray (.pointer (some ⟨k.W,0,none⟩)::.int .i64 (a:Int)::u2::u3::u4::u5::u6::u7::u8::u9::u10::.int .i64 (b:Int)::u12::u13::u14::u15::u16::u17::u18::u19::u20::u21::u22::u23::u24::u25::u26::u27::u28::u29::u30::u31::u32::u33::u34::u35::u36::u37::u38::u39::u40::u41::u42::u43::u44::u45::u46::u47::u48::u49::u50::u51::u52::u53::u54::u55::u56::u57::u58::u59::u60::u61::u62::u63::u64::u65::u66::u67::u68::v69::v70::v71::v72::v73::v74::v75::v76::v77::v78::v79::v80::v81::v82::v83::v84::v85::v86::v87::v88::v89::u90::u91::u92::u93::u94::u95::u96::u97::u98::u99::u100::u101::u102::u103::u104::u105::u106::u107::u108::u109::u110::u111::u112::u113::u114::u115::u116::u117::u118::u119::u120::u121::u122::u123::u124::u125::u126::u127::u128::u129::u130::u131::u132::u133::u134::u135::u136::u137::u138::u139::u140::u141::u142::u143::u144::u145::u146::u147::u148::u149::u150::u151::u152::u153::u154::u155::u156::u157::u158::u159::u160::u161::u162::u163::u164::u165::u166::u167::u168::u169::u170::u171::u172::u173::u174::u175::u176::u177::u178::u179::u180::u181::u182::u183::u184::u185::u186::u187::u188::u189::u190::u191::u192::[]),[]⟩ w'):
  Code.wp Tryz.prog wk8 Q ⟨List.toArray (.pointer (some ⟨k.W,0,none⟩)::.int .i64 (a:Int)::u2::u3::u4::u5::u6::u7::u8::u9::u10::.int .i64 (b:Int)::u12::u13::u14::u15::u16::u17::u18::u19::u20::u21::u22::u23::u24::u25::u26::u27::u28::u29::u30::u31::u32::u33::u34::u35::u36::u37::u38::u39::u40::u41::u42::u43::u44::u45::u46::u47::u48::u49::u50::u51::u52::u53::u54::u55::u56::u57::u58::u59::u60::u61::u62::u63::u64::u65::u66::u67::u68::u69::u70::u71::u72::u73::u74::u75::u76::u77::u78::u79::u80::u81::u82::u83::u84::u85::u86::u87::u88::u89::u90::u91::u92::u93::u94::u95::u96::u97::u98::u99::u100::u101::u102::u103::u104::u105::u106::u107::u108::u109::u110::u111::u112::u113::u114::u115::u116::u117::u118::u119::u120::u121::u122::u123::u124::u125::u126::u127::u128::u129::u130::u131::u132::u133::u134::u135::u136::u137::u138::u139::u140::u141::u142::u143::u144::u145::u146::u147::u148::u149::u150::u151::u152::u153::u154::u155::u156::u157::u158::u159::u160::u161::u162::u163::u164::u165::u166::u167::u168::u169::u170::u171::u172::u173::u174::u175::u176::u177::u178::u179::u180::u181::u182::u183::u184::u185::u186::u187::u188::u189::u190::u191::u192::[]),[]⟩ w:=by
 have HK:=Lib.hid hK
 clear hK
 have hai:(a:Int) < (n:Int):=by omega
 have ha0:(0:Int)≤(a:Int):=by omega
 have hbi:(b:Int) < (n:Int):=by omega
 have hb0:(0:Int)≤(b:Int):=by omega
 have c1:w.cell? ⟨k.W,1,none⟩=some (.slice (some ⟨k.gw,0,none⟩) n n):=H.out.blk.cell 1
 have c2:w.cell? ⟨k.W,2,none⟩=some (.slice (some ⟨k.gl,0,none⟩) n n):=H.out.blk.cell 2
 obtain ⟨r1,g1⟩:=int_cell H.out.lo HOK.out.ll han
 obtain ⟨r2,g2⟩:=int_cell H.out.lo HOK.out.ll hbn
 obtain ⟨r3,g3⟩:=int_cell H.out.wh HOK.out.wl hbn
 obtain ⟨r4,g4⟩:=int_cell H.out.wh HOK.out.wl han
 simp only [wk8,wkSeen,wkRound,wkLoop,dBody,dFst,dSnd,dArm,dThen,Tryz.f130]
 have H4:Hid (∀ x,x=min (PD.g s.lo a) (PD.g s.wh b)→WkAt w0 n k vE vJ (DF.low a (PD.g s.wh b) s) (w.setCell ⟨k.gl,a,none⟩ (.int .i64 x)).drew):=by
  rintro _ rfl
  exact (H.out.setL a _).drew
 go_still_tail 21,(by kernel_rfl)
 go_wp2
 all_goals exact HK.out _ _ _ _ _ _ _ _ _ _ _ _ _ _ _ _ _ _ _ _ _ _ (H4.out _ (by omega))
set_option maxRecDepth 100000 in
theorem wk11_any {w0 w:World} {n:Nat} {k:Wkr} {vE vJ:Value} {s:DF.Wk} {a b:Nat} {jb:Bool} (han:a < n) (hbn:b < n) (hn:n≤60) (H:Hid (WkAt w0 n k vE vJ s w)) (HOK:Hid (DF.Ok n s)) (HED:s.ed.length≤60) (Q:Exit→Act→World→Prop) {u2 u3 u4 u5 u6 u7 u8 u9 u10 u12 u13 u14 u15 u16 u17 u18 u19 u20 u21 u22 u23 u24 u25 u26 u27 u28 u29 u30 u31 u32 u33 u34 u35 u36 u37 u38 u39 u40 u41 u42 u43 u44 u45 u46 u47 u48 u49 u50 u51 u52 u53 u54 u55 u56 u57 u58 u59 u60 u61 u62 u63 u64 u65 u66 u67 u68 u69 u70 u71 u72 u73 u74 u75 u76 u77 u78 u79 u80 u81 u82 u83 u84 u85 u86 u87 u88 u89 u90 u91 u92 u93 u94 u95 u96 u97 u98 u99 u100 u101 u102 u103 u104 u105 u106 u107 u108 u109 u110 u111 u112 u113 u114 u115 u116 u117 u118 u119 u120 u121 u122 u123 u124 u125 u126 u127 u128 u129 u130 u131 u132 u133 u134 u135 u136 u137 u138 u139 u140 u141 u142 u143 u144 u145 u146 u147 u148 u149 u150 u151 u152 u153 u154 u155 u156 u157 u158 u159 u160 u161 u162 u163 u164 u165 u166 u167 u168 u169 u170 u171 u172 u173 u174 u175 u176 u177 u178 u179 u180 u181 u182 u183 u184 u185 u186 u187 u188 u189 u190 u191 u192:Value}
  (hK:∀ (v97 v98 v99 v100 v101 v102 v103 v104 v105 v106 v107 v108 v109 v110 v111 v112 v113 v114 v115 v116 v117:Value),∀ w',WkAt w0 n k vE vJ (DF.low a (PD.g s.lo b) s) w'→Q .normal ⟨List.toArray (.pointer (some ⟨k.W,0,none⟩)::.int .i64 (a:Int)::u2::u3::u4::u5::u6::u7::u8::u9::u10::.int .i64 (b:Int)::u12::u13::u14::u15::u16::u17::u18::u19::u20::u21::u22::u23::u24::u25::u26::u27::u28::u29::u30::u31::u32::u33::u34::u35::u36::u37::u38::u39::u40::u41::u42::u43::u44::u45::u46::u47::u48::u49::u50::u51::u52::u53::u54::u55::u56::u57::u58::u59::u60::u61::u62::u63::u64::u65::u66::u67::u68::u69::u70::u71::u72::u73::u74::u75::u76::u77::u78::u79::u80::u81::u82::u83::u84::u85::u86::u87::u88::u89::u90::u91::u92::u93::u94::u95::u96::v97::v98::v99::v100::v101::v102::v103::v104::v105::v106::v107::v108::v109::v110::v111::v112::v113::v114::v115::v116::v117::u118::u119::u120::u121::u122::u123::u124::u125::u126::u127::u128::u129::u130::u131::u132::u133::u134::u135::u136::u137::u138::u139::u140::u141::u142::u143::u144::u145::u146::u147::u148::u149::u150::u151::u152::u153::u154::u155::u156::u157::u158::u159::u160::u161::u162::u163::u164::u165::u166::u167::u168::u169::u170::u171::u172::u173::u174::u175::u176::u177::u178::u179::u180::u181::u182::u183::u184::u185::u186::u187::u188::u189::u190::u191::u192::[]),[]⟩ w'):
  Code.wp Tryz.prog wk11 Q ⟨List.toArray (.pointer (some ⟨k.W,0,none⟩)::.int .i64 (a:Int)::u2::u3::u4::u5::u6::u7::u8::u9::u10::.int .i64 (b:Int)::u12::u13::u14::u15::u16::u17::u18::u19::u20::u21::u22::u23::u24::u25::u26::u27::u28::u29::u30::u31::u32::u33::u34::u35::u36::u37::u38::u39::u40::u41::u42::u43::u44::u45::u46::u47::u48::u49::u50::u51::u52::u53::u54::u55::u56::u57::u58::u59::u60::u61::u62::u63::u64::u65::u66::u67::u68::u69::u70::u71::u72::u73::u74::u75::u76::u77::u78::u79::u80::u81::u82::u83::u84::u85::u86::u87::u88::u89::u90::u91::u92::u93::u94::u95::u96::u97::u98::u99::u100::u101::u102::u103::u104::u105::u106::u107::u108::u109::u110::u111::u112::u113::u114::u115::u116::u117::u118::u119::u120::u121::u122::u123::u124::u125::u126::u127::u128::u129::u130::u131::u132::u133::u134::u135::u136::u137::u138::u139::u140::u141::u142::u143::u144::u145::u146::u147::u148::u149::u150::u151::u152::u153::u154::u155::u156::u157::u158::u159::u160::u161::u162::u163::u164::u165::u166::u167::u168::u169::u170::u171::u172::u173::u174::u175::u176::u177::u178::u179::u180::u181::u182::u183::u184::u185::u186::u187::u188::u189::u190::u191::u192::[]),[]⟩ w:=by
 have HK:=Lib.hid hK
 clear hK
 have hai:(a:Int) < (n:Int):=by omega
 have ha0:(0:Int)≤(a:Int):=by omega
 have hbi:(b:Int) < (n:Int):=by omega
 have hb0:(0:Int)≤(b:Int):=by omega
 have c1:w.cell? ⟨k.W,1,none⟩=some (.slice (some ⟨k.gw,0,none⟩) n n):=H.out.blk.cell 1
 have c2:w.cell? ⟨k.W,2,none⟩=some (.slice (some ⟨k.gl,0,none⟩) n n):=H.out.blk.cell 2
 obtain ⟨r1,g1⟩:=int_cell H.out.lo HOK.out.ll han
 obtain ⟨r2,g2⟩:=int_cell H.out.lo HOK.out.ll hbn
 obtain ⟨r3,g3⟩:=int_cell H.out.wh HOK.out.wl hbn
 obtain ⟨r4,g4⟩:=int_cell H.out.wh HOK.out.wl han
 simp only [wk11,wkTail,wkRound,wkLoop,dBody,dFst,dSnd,dArm,Tryz.f130]
 have H4:Hid (∀ x,x=min (PD.g s.lo a) (PD.g s.lo b)→WkAt w0 n k vE vJ (DF.low a (PD.g s.lo b) s) (w.setCell ⟨k.gl,a,none⟩ (.int .i64 x)).drew):=by
  rintro _ rfl
  exact (H.out.setL a _).drew
 go_still_tail 21,(by kernel_rfl)
 go_wp2
 all_goals exact HK.out _ _ _ _ _ _ _ _ _ _ _ _ _ _ _ _ _ _ _ _ _ _ (H4.out _ (by omega))
set_option maxRecDepth 100000 in
theorem wk12_any {w0 w:World} {n:Nat} {k:Wkr} {vE vJ:Value} {s:DF.Wk} {a b:Nat} {jb:Bool} (han:a < n) (hbn:b < n) (hn:n≤60) (H:Hid (WkAt w0 n k vE vJ s w)) (HOK:Hid (DF.Ok n s)) (HED:s.ed.length≤60) (Q:Exit→Act→World→Prop) {u2 u3 u4 u5 u6 u7 u8 u9 u10 u12 u13 u14 u15 u16 u17 u18 u19 u20 u21 u22 u23 u24 u25 u26 u27 u28 u29 u30 u31 u32 u33 u34 u35 u36 u37 u38 u39 u40 u41 u42 u43 u44 u45 u46 u47 u48 u49 u50 u51 u52 u53 u54 u55 u56 u57 u58 u59 u60 u61 u62 u63 u64 u65 u66 u67 u68 u69 u70 u71 u72 u73 u74 u75 u76 u77 u78 u79 u80 u81 u82 u83 u84 u85 u86 u87 u88 u89 u90 u91 u92 u93 u94 u95 u96 u97 u98 u99 u100 u101 u102 u103 u104 u105 u106 u107 u108 u109 u110 u111 u112 u113 u114 u115 u116 u117 u118 u119 u120 u121 u122 u123 u124 u125 u126 u127 u128 u129 u130 u131 u132 u133 u134 u135 u136 u137 u138 u139 u140 u141 u142 u143 u144 u145 u146 u147 u148 u149 u150 u151 u152 u153 u154 u155 u156 u157 u158 u159 u160 u161 u162 u163 u164 u165 u166 u167 u168 u169 u170 u171 u172 u173 u174 u175 u176 u177 u178 u179 u180 u181 u182 u183 u184 u185 u186 u187 u188 u189 u190 u191 u192:Value}
  (hK:∀ (v118 v119 v120 v121 v122 v123 v124 v125 v126 v127 v128 v129 v130 v131:Value),∀ w',WkAt w0 n k vE vJ s w'→Q .normal ⟨List.toArray (.pointer (some ⟨k.W,0,none⟩)::.int .i64 (a:Int)::u2::u3::u4::u5::u6::u7::u8::u9::u10::.int .i64 (b:Int)::u12::u13::u14::u15::u16::u17::u18::u19::u20::u21::u22::u23::u24::u25::u26::u27::u28::u29::u30::u31::u32::u33::u34::u35::u36::u37::u38::u39::u40::u41::u42::u43::u44::u45::u46::u47::u48::u49::u50::u51::u52::u53::u54::u55::u56::u57::u58::u59::u60::u61::u62::u63::u64::u65::u66::u67::u68::u69::u70::u71::u72::u73::u74::u75::u76::u77::u78::u79::u80::u81::u82::u83::u84::u85::u86::u87::u88::u89::u90::u91::u92::u93::u94::u95::u96::u97::u98::u99::u100::u101::u102::u103::u104::u105::u106::u107::u108::u109::u110::u111::u112::u113::u114::u115::u116::u117::v118::v119::v120::v121::v122::v123::v124::v125::v126::v127::v128::v129::v130::v131::.bool (decide (PD.g s.wh a < PD.g s.lo b))::u133::u134::u135::u136::u137::u138::u139::u140::u141::u142::u143::u144::u145::u146::u147::u148::u149::u150::u151::u152::u153::u154::u155::u156::u157::u158::u159::u160::u161::u162::u163::u164::u165::u166::u167::u168::u169::u170::u171::u172::u173::u174::u175::u176::u177::u178::u179::u180::u181::u182::u183::u184::u185::u186::u187::u188::u189::u190::u191::u192::[]),[]⟩ w'):
  Code.wp Tryz.prog wk12 Q ⟨List.toArray (.pointer (some ⟨k.W,0,none⟩)::.int .i64 (a:Int)::u2::u3::u4::u5::u6::u7::u8::u9::u10::.int .i64 (b:Int)::u12::u13::u14::u15::u16::u17::u18::u19::u20::u21::u22::u23::u24::u25::u26::u27::u28::u29::u30::u31::u32::u33::u34::u35::u36::u37::u38::u39::u40::u41::u42::u43::u44::u45::u46::u47::u48::u49::u50::u51::u52::u53::u54::u55::u56::u57::u58::u59::u60::u61::u62::u63::u64::u65::u66::u67::u68::u69::u70::u71::u72::u73::u74::u75::u76::u77::u78::u79::u80::u81::u82::u83::u84::u85::u86::u87::u88::u89::u90::u91::u92::u93::u94::u95::u96::u97::u98::u99::u100::u101::u102::u103::u104::u105::u106::u107::u108::u109::u110::u111::u112::u113::u114::u115::u116::u117::u118::u119::u120::u121::u122::u123::u124::u125::u126::u127::u128::u129::u130::u131::u132::u133::u134::u135::u136::u137::u138::u139::u140::u141::u142::u143::u144::u145::u146::u147::u148::u149::u150::u151::u152::u153::u154::u155::u156::u157::u158::u159::u160::u161::u162::u163::u164::u165::u166::u167::u168::u169::u170::u171::u172::u173::u174::u175::u176::u177::u178::u179::u180::u181::u182::u183::u184::u185::u186::u187::u188::u189::u190::u191::u192::[]),[]⟩ w:=by
 have HK:=Lib.hid hK
 clear hK
 have hai:(a:Int) < (n:Int):=by omega
 have ha0:(0:Int)≤(a:Int):=by omega
 have hbi:(b:Int) < (n:Int):=by omega
 have hb0:(0:Int)≤(b:Int):=by omega
 have c1:w.cell? ⟨k.W,1,none⟩=some (.slice (some ⟨k.gw,0,none⟩) n n):=H.out.blk.cell 1
 have c2:w.cell? ⟨k.W,2,none⟩=some (.slice (some ⟨k.gl,0,none⟩) n n):=H.out.blk.cell 2
 obtain ⟨r1,g1⟩:=int_cell H.out.lo HOK.out.ll han
 obtain ⟨r2,g2⟩:=int_cell H.out.lo HOK.out.ll hbn
 obtain ⟨r3,g3⟩:=int_cell H.out.wh HOK.out.wl hbn
 obtain ⟨r4,g4⟩:=int_cell H.out.wh HOK.out.wl han
 simp only [wk12,wkMid,wkTail,wkRound,wkLoop,dBody,dFst,dSnd,dArm,Tryz.f130]
 go_quiet (fail)
 exact HK.out _ _ _ _ _ _ _ _ _ _ _ _ _ _ _ (H.out.drewN nq)
set_option maxRecDepth 100000 in
theorem wk14_any {w0 w:World} {n:Nat} {k:Wkr} {vE vJ:Value} {s:DF.Wk} {a b:Nat} {jb:Bool} (han:a < n) (hbn:b < n) (hn:n≤60) (H:Hid (WkAt w0 n k vE vJ s w)) (HOK:Hid (DF.Ok n s)) (HED:s.ed.length≤60) (Q:Exit→Act→World→Prop) {u2 u3 u4 u5 u6 u7 u8 u10 u12 u13 u14 u15 u16 u17 u18 u19 u20 u21 u22 u23 u24 u25 u26 u27 u28 u29 u30 u31 u32 u33 u34 u35 u36 u37 u38 u39 u40 u41 u42 u43 u44 u45 u46 u47 u48 u49 u50 u51 u52 u53 u54 u55 u56 u57 u58 u59 u60 u61 u62 u63 u64 u65 u66 u67 u68 u69 u70 u71 u72 u73 u74 u75 u76 u77 u78 u79 u80 u81 u82 u83 u84 u85 u86 u87 u88 u89 u90 u91 u92 u93 u94 u95 u96 u97 u98 u99 u100 u101 u102 u103 u104 u105 u106 u107 u108 u109 u110 u111 u112 u113 u114 u115 u116 u117 u118 u119 u120 u121 u122 u123 u124 u125 u126 u127 u128 u129 u130 u131 u132 u133 u134 u135 u136 u137 u138 u139 u140 u141 u142 u143 u144 u145 u146 u147 u148 u149 u150 u151 u152 u153 u154 u155 u156 u157 u158 u159 u160 u161 u162 u163 u164 u165 u166 u167 u168 u169 u170 u171 u172 u173 u174 u175 u176 u177 u178 u179 u180 u181 u182 u183 u184 u185 u186 u187 u188 u189 u190 u191 u192:Value}
  (hK:∀ (v149 v150 v151 v152 v153 v154 v155 v156 v157 v158 v159 v160 v161 v162 v163 v164 v165 v166:Value),∀ w',WkAt w0 n k vE vJ s w'→Q .normal ⟨List.toArray (.pointer (some ⟨k.W,0,none⟩)::.int .i64 (a:Int)::u2::u3::u4::u5::u6::u7::u8::.bool (jb || decide (PD.g s.wh a≤PD.g s.lo b))::u10::.int .i64 (b:Int)::u12::u13::u14::u15::u16::u17::u18::u19::u20::u21::u22::u23::u24::u25::u26::u27::u28::u29::u30::u31::u32::u33::u34::u35::u36::u37::u38::u39::u40::u41::u42::u43::u44::u45::u46::u47::u48::u49::u50::u51::u52::u53::u54::u55::u56::u57::u58::u59::u60::u61::u62::u63::u64::u65::u66::u67::u68::u69::u70::u71::u72::u73::u74::u75::u76::u77::u78::u79::u80::u81::u82::u83::u84::u85::u86::u87::u88::u89::u90::u91::u92::u93::u94::u95::u96::u97::u98::u99::u100::u101::u102::u103::u104::u105::u106::u107::u108::u109::u110::u111::u112::u113::u114::u115::u116::u117::u118::u119::u120::u121::u122::u123::u124::u125::u126::u127::u128::u129::u130::u131::u132::u133::u134::u135::u136::u137::u138::u139::u140::u141::u142::u143::u144::u145::u146::u147::u148::v149::v150::v151::v152::v153::v154::v155::v156::v157::v158::v159::v160::v161::v162::v163::v164::v165::v166::u167::u168::u169::u170::u171::u172::u173::u174::u175::u176::u177::u178::u179::u180::u181::u182::u183::u184::u185::u186::u187::u188::u189::u190::u191::u192::[]),[]⟩ w'):
  Code.wp Tryz.prog wk14 Q ⟨List.toArray (.pointer (some ⟨k.W,0,none⟩)::.int .i64 (a:Int)::u2::u3::u4::u5::u6::u7::u8::.bool jb::u10::.int .i64 (b:Int)::u12::u13::u14::u15::u16::u17::u18::u19::u20::u21::u22::u23::u24::u25::u26::u27::u28::u29::u30::u31::u32::u33::u34::u35::u36::u37::u38::u39::u40::u41::u42::u43::u44::u45::u46::u47::u48::u49::u50::u51::u52::u53::u54::u55::u56::u57::u58::u59::u60::u61::u62::u63::u64::u65::u66::u67::u68::u69::u70::u71::u72::u73::u74::u75::u76::u77::u78::u79::u80::u81::u82::u83::u84::u85::u86::u87::u88::u89::u90::u91::u92::u93::u94::u95::u96::u97::u98::u99::u100::u101::u102::u103::u104::u105::u106::u107::u108::u109::u110::u111::u112::u113::u114::u115::u116::u117::u118::u119::u120::u121::u122::u123::u124::u125::u126::u127::u128::u129::u130::u131::u132::u133::u134::u135::u136::u137::u138::u139::u140::u141::u142::u143::u144::u145::u146::u147::u148::u149::u150::u151::u152::u153::u154::u155::u156::u157::u158::u159::u160::u161::u162::u163::u164::u165::u166::u167::u168::u169::u170::u171::u172::u173::u174::u175::u176::u177::u178::u179::u180::u181::u182::u183::u184::u185::u186::u187::u188::u189::u190::u191::u192::[]),[]⟩ w:=by
 have HK:=Lib.hid hK
 clear hK
 have hai:(a:Int) < (n:Int):=by omega
 have ha0:(0:Int)≤(a:Int):=by omega
 have hbi:(b:Int) < (n:Int):=by omega
 have hb0:(0:Int)≤(b:Int):=by omega
 have c1:w.cell? ⟨k.W,1,none⟩=some (.slice (some ⟨k.gw,0,none⟩) n n):=H.out.blk.cell 1
 have c2:w.cell? ⟨k.W,2,none⟩=some (.slice (some ⟨k.gl,0,none⟩) n n):=H.out.blk.cell 2
 obtain ⟨r1,g1⟩:=int_cell H.out.lo HOK.out.ll han
 obtain ⟨r2,g2⟩:=int_cell H.out.lo HOK.out.ll hbn
 obtain ⟨r3,g3⟩:=int_cell H.out.wh HOK.out.wl hbn
 obtain ⟨r4,g4⟩:=int_cell H.out.wh HOK.out.wl han
 simp only [wk14,wkTail,wkRound,wkLoop,dBody,dFst,dSnd,dArm,Tryz.f130]
 cases jb
 ·go_quiet (fail)
  exact HK.out _ _ _ _ _ _ _ _ _ _ _ _ _ _ _ _ _ _ _ (H.out.drewN nq)
 ·go_quiet (fail)
  exact HK.out _ _ _ _ _ _ _ _ _ _ _ _ _ _ _ _ _ _ _ (H.out.drewN nq)
set_option maxRecDepth 100000 in
theorem wk13_any {w0 w:World} {n:Nat} {k:Wkr} {vE vJ:Value} {s:DF.Wk} {a b:Nat} {jb:Bool} (han:a < n) (hbn:b < n) (hn:n≤60) (H:Hid (WkAt w0 n k vE vJ s w)) (HOK:Hid (DF.Ok n s)) (HED:s.ed.length≤60) (hne:a≠b) (Q:Exit→Act→World→Prop) {u2 u3 u4 u5 u6 u7 u8 u9 u10 u12 u13 u14 u15 u16 u17 u18 u19 u20 u21 u22 u23 u24 u25 u26 u27 u28 u29 u30 u31 u32 u33 u34 u35 u36 u37 u38 u39 u40 u41 u42 u43 u44 u45 u46 u47 u48 u49 u50 u51 u52 u53 u54 u55 u56 u57 u58 u59 u60 u61 u62 u63 u64 u65 u66 u67 u68 u69 u70 u71 u72 u73 u74 u75 u76 u77 u78 u79 u80 u81 u82 u83 u84 u85 u86 u87 u88 u89 u90 u91 u92 u93 u94 u95 u96 u97 u98 u99 u100 u101 u102 u103 u104 u105 u106 u107 u108 u109 u110 u111 u112 u113 u114 u115 u116 u117 u118 u119 u120 u121 u122 u123 u124 u125 u126 u127 u128 u129 u130 u131 u132 u133 u134 u135 u136 u137 u138 u139 u140 u141 u142 u143 u144 u145 u146 u147 u148 u149 u150 u151 u152 u153 u154 u155 u156 u157 u158 u159 u160 u161 u162 u163 u164 u165 u166 u167 u168 u169 u170 u171 u172 u173 u174 u175 u176 u177 u178 u179 u180 u181 u182 u183 u184 u185 u186 u187 u188 u189 u190 u191 u192:Value}
  (hK:∀ (v133 v134 v135 v136 v137 v138 v139 v140 v141 v142 v143 v144 v145 v146 v147 v148:Value),∀ (vE':Value) (w':World),WkAt w0 n k vE' vJ { s with ed:=s.ed++[DF.ek a b] } w'→Q .normal ⟨List.toArray (.pointer (some ⟨k.W,0,none⟩)::.int .i64 (a:Int)::u2::u3::u4::u5::u6::u7::u8::u9::u10::.int .i64 (b:Int)::u12::u13::u14::u15::u16::u17::u18::u19::u20::u21::u22::u23::u24::u25::u26::u27::u28::u29::u30::u31::u32::u33::u34::u35::u36::u37::u38::u39::u40::u41::u42::u43::u44::u45::u46::u47::u48::u49::u50::u51::u52::u53::u54::u55::u56::u57::u58::u59::u60::u61::u62::u63::u64::u65::u66::u67::u68::u69::u70::u71::u72::u73::u74::u75::u76::u77::u78::u79::u80::u81::u82::u83::u84::u85::u86::u87::u88::u89::u90::u91::u92::u93::u94::u95::u96::u97::u98::u99::u100::u101::u102::u103::u104::u105::u106::u107::u108::u109::u110::u111::u112::u113::u114::u115::u116::u117::u118::u119::u120::u121::u122::u123::u124::u125::u126::u127::u128::u129::u130::u131::u132::v133::v134::v135::v136::v137::v138::v139::v140::v141::v142::v143::v144::v145::v146::v147::v148::u149::u150::u151::u152::u153::u154::u155::u156::u157::u158::u159::u160::u161::u162::u163::u164::u165::u166::u167::u168::u169::u170::u171::u172::u173::u174::u175::u176::u177::u178::u179::u180::u181::u182::u183::u184::u185::u186::u187::u188::u189::u190::u191::u192::[]),[]⟩ w'):
  Code.wp Tryz.prog wk13 Q ⟨List.toArray (.pointer (some ⟨k.W,0,none⟩)::.int .i64 (a:Int)::u2::u3::u4::u5::u6::u7::u8::u9::u10::.int .i64 (b:Int)::u12::u13::u14::u15::u16::u17::u18::u19::u20::u21::u22::u23::u24::u25::u26::u27::u28::u29::u30::u31::u32::u33::u34::u35::u36::u37::u38::u39::u40::u41::u42::u43::u44::u45::u46::u47::u48::u49::u50::u51::u52::u53::u54::u55::u56::u57::u58::u59::u60::u61::u62::u63::u64::u65::u66::u67::u68::u69::u70::u71::u72::u73::u74::u75::u76::u77::u78::u79::u80::u81::u82::u83::u84::u85::u86::u87::u88::u89::u90::u91::u92::u93::u94::u95::u96::u97::u98::u99::u100::u101::u102::u103::u104::u105::u106::u107::u108::u109::u110::u111::u112::u113::u114::u115::u116::u117::u118::u119::u120::u121::u122::u123::u124::u125::u126::u127::u128::u129::u130::u131::u132::u133::u134::u135::u136::u137::u138::u139::u140::u141::u142::u143::u144::u145::u146::u147::u148::u149::u150::u151::u152::u153::u154::u155::u156::u157::u158::u159::u160::u161::u162::u163::u164::u165::u166::u167::u168::u169::u170::u171::u172::u173::u174::u175::u176::u177::u178::u179::u180::u181::u182::u183::u184::u185::u186::u187::u188::u189::u190::u191::u192::[]),[]⟩ w:=by
 have HK:=Lib.hid hK
 clear hK
 have hai:(a:Int) < (n:Int):=by omega
 have ha0:(0:Int)≤(a:Int):=by omega
 have hbi:(b:Int) < (n:Int):=by omega
 have hb0:(0:Int)≤(b:Int):=by omega
 have c1:w.cell? ⟨k.W,1,none⟩=some (.slice (some ⟨k.gw,0,none⟩) n n):=H.out.blk.cell 1
 have c2:w.cell? ⟨k.W,2,none⟩=some (.slice (some ⟨k.gl,0,none⟩) n n):=H.out.blk.cell 2
 obtain ⟨r1,g1⟩:=int_cell H.out.lo HOK.out.ll han
 obtain ⟨r2,g2⟩:=int_cell H.out.lo HOK.out.ll hbn
 obtain ⟨r3,g3⟩:=int_cell H.out.wh HOK.out.wl hbn
 obtain ⟨r4,g4⟩:=int_cell H.out.wh HOK.out.wl han
 simp only [wk13,wkMid,wkTail,wkRound,wkLoop,dBody,dFst,dSnd,dArm,dThen,Tryz.f130]
 have c5:w.cell? ⟨k.W,5,none⟩=some vE:=H.out.blk.cell 5
 have HN:Hid (∀ o,WkAt w0 n k vE vJ s (w.alloc o)):=fun o=>H.out.moved (Ext.alloc _ _)
 have hcase:∃ x y:Int,DF.ek a b=(x,y)∧(if (b:Int) < (a:Int) then (b:Int) else (a:Int))=x∧(if (a:Int) < (b:Int) then (b:Int) else (a:Int))=y∧((x=a∧y=b∧(a:Int)≤b)∨(x=b∧y=a∧(b:Int) < a)):=by
  by_cases h:(b:Int) < a
  ·refine ⟨b,a,?_,if_pos h,if_neg (by omega),.inr ⟨rfl,rfl,h⟩⟩
   unfold DF.ek;rw [Nat.min_eq_right (by omega),Nat.max_eq_left (by omega)]
  ·refine ⟨a,b,?_,if_neg h,?_,.inl ⟨rfl,rfl,by omega⟩⟩
   ·unfold DF.ek;rw [Nat.min_eq_left (by omega),Nat.max_eq_right (by omega)]
   ·split <;> omega
 obtain ⟨x,y,hxy,_,_,hc⟩:=hcase
 rw [hxy] at HK
 rcases hc with ⟨rfl,rfl,hab⟩ | ⟨rfl,rfl,hab⟩
 all_goals
  by_cases hab2:(a:Int) < (b:Int)
  all_goals
   first
   | (exfalso;omega)
   | skip
 all_goals
  go_wp2_with (at_builtin;refine wpList_pushS _ rfl (.tmp 137) (.tmp 145) 47 rfl 93 _ 2 16 Tryz.underlying47 infoEdge rfl (by decide) _ _ _ rfl (HN.out _).ed ⟨by omega,by omega⟩ _ w.heap.size rfl rfl (news_cells rfl _ _) (by simp [Value.oneCell']) ?_;intro g5 cc5 w5 ho5 hc5 hat5 _;obtain ⟨hB5,hW5⟩:=(HN.out _).pushE (x:=(_,_)) ho5 hc5 hat5;have HW5:=Lib.hid hW5;have q5:w5.cell? ⟨k.W,5,none⟩=some vE:=hB5.cell 5;have f5:=hB5.frozen 5;clear ho5 hc5 hat5 hB5 hW5)
  refine HK.out _ _ _ _ _ _ _ _ _ _ _ _ _ _ _ _ (.slice (some ⟨g5,0,none⟩) (s.ed.length+1) cc5) _ ?_
  have h:=HW5.out
  first | exact h | (rw [Int.min_eq_left (by omega),Int.max_eq_right (by omega)] at h;exact h) | (rw [Int.min_eq_right (by omega),Int.max_eq_left (by omega)] at h;exact h)
set_option maxRecDepth 100000 in
theorem wk17_any {w0 w:World} {n:Nat} {k:Wkr} {vE vJ:Value} {s:DF.Wk} {a b:Nat} {jb:Bool} (han:a < n) (hbn:b < n) (hn:n≤60) (H:Hid (WkAt w0 n k vE vJ s w)) (HOK:Hid (DF.Ok n s)) (HED:s.ed.length≤60) (HJO:s.jo.length≤60) (Q:Exit→Act→World→Prop) {u2 u3 u4 u5 u6 u7 u8 u9 u10 u11 u12 u13 u14 u15 u16 u17 u18 u19 u20 u21 u22 u23 u24 u25 u26 u27 u28 u29 u30 u31 u32 u33 u34 u35 u36 u37 u38 u39 u40 u41 u42 u43 u44 u45 u46 u47 u48 u49 u50 u51 u52 u53 u54 u55 u56 u57 u58 u59 u60 u61 u62 u63 u64 u65 u66 u67 u68 u69 u70 u71 u72 u73 u74 u75 u76 u77 u78 u79 u80 u81 u82 u83 u84 u85 u86 u87 u88 u89 u90 u91 u92 u93 u94 u95 u96 u97 u98 u99 u100 u101 u102 u103 u104 u105 u106 u107 u108 u109 u110 u111 u112 u113 u114 u115 u116 u117 u118 u119 u120 u121 u122 u123 u124 u125 u126 u127 u128 u129 u130 u131 u132 u133 u134 u135 u136 u137 u138 u139 u140 u141 u142 u143 u144 u145 u146 u147 u148 u149 u150 u151 u152 u153 u154 u155 u156 u157 u158 u159 u160 u161 u162 u163 u164 u165 u166 u167 u168 u169 u170 u171 u172 u173 u174 u175 u176 u177 u178 u179 u180 u181 u182 u183 u184 u185 u186 u187 u188 u189 u190 u191 u192:Value}
  (hK:∀ (v183 v184 v185 v186 v187 v188 v189 v190 v191 v192:Value),∀ (vJ':Value) (w':World),WkAt w0 n k vE vJ' { s with jo:=s.jo++[a] } w'→Q .normal ⟨List.toArray (.pointer (some ⟨k.W,0,none⟩)::.int .i64 (a:Int)::u2::u3::u4::u5::u6::u7::u8::u9::u10::u11::u12::u13::u14::u15::u16::u17::u18::u19::u20::u21::u22::u23::u24::u25::u26::u27::u28::u29::u30::u31::u32::u33::u34::u35::u36::u37::u38::u39::u40::u41::u42::u43::u44::u45::u46::u47::u48::u49::u50::u51::u52::u53::u54::u55::u56::u57::u58::u59::u60::u61::u62::u63::u64::u65::u66::u67::u68::u69::u70::u71::u72::u73::u74::u75::u76::u77::u78::u79::u80::u81::u82::u83::u84::u85::u86::u87::u88::u89::u90::u91::u92::u93::u94::u95::u96::u97::u98::u99::u100::u101::u102::u103::u104::u105::u106::u107::u108::u109::u110::u111::u112::u113::u114::u115::u116::u117::u118::u119::u120::u121::u122::u123::u124::u125::u126::u127::u128::u129::u130::u131::u132::u133::u134::u135::u136::u137::u138::u139::u140::u141::u142::u143::u144::u145::u146::u147::u148::u149::u150::u151::u152::u153::u154::u155::u156::u157::u158::u159::u160::u161::u162::u163::u164::u165::u166::u167::u168::u169::u170::u171::u172::u173::u174::u175::u176::u177::u178::u179::u180::u181::u182::v183::v184::v185::v186::v187::v188::v189::v190::v191::v192::[]),[]⟩ w'):
  Code.wp Tryz.prog wk17 Q ⟨List.toArray (.pointer (some ⟨k.W,0,none⟩)::.int .i64 (a:Int)::u2::u3::u4::u5::u6::u7::u8::u9::u10::u11::u12::u13::u14::u15::u16::u17::u18::u19::u20::u21::u22::u23::u24::u25::u26::u27::u28::u29::u30::u31::u32::u33::u34::u35::u36::u37::u38::u39::u40::u41::u42::u43::u44::u45::u46::u47::u48::u49::u50::u51::u52::u53::u54::u55::u56::u57::u58::u59::u60::u61::u62::u63::u64::u65::u66::u67::u68::u69::u70::u71::u72::u73::u74::u75::u76::u77::u78::u79::u80::u81::u82::u83::u84::u85::u86::u87::u88::u89::u90::u91::u92::u93::u94::u95::u96::u97::u98::u99::u100::u101::u102::u103::u104::u105::u106::u107::u108::u109::u110::u111::u112::u113::u114::u115::u116::u117::u118::u119::u120::u121::u122::u123::u124::u125::u126::u127::u128::u129::u130::u131::u132::u133::u134::u135::u136::u137::u138::u139::u140::u141::u142::u143::u144::u145::u146::u147::u148::u149::u150::u151::u152::u153::u154::u155::u156::u157::u158::u159::u160::u161::u162::u163::u164::u165::u166::u167::u168::u169::u170::u171::u172::u173::u174::u175::u176::u177::u178::u179::u180::u181::u182::u183::u184::u185::u186::u187::u188::u189::u190::u191::u192::[]),[]⟩ w:=by
 have HK:=Lib.hid hK
 clear hK
 have hai:(a:Int) < (n:Int):=by omega
 have ha0:(0:Int)≤(a:Int):=by omega
 have hbi:(b:Int) < (n:Int):=by omega
 have hb0:(0:Int)≤(b:Int):=by omega
 have c1:w.cell? ⟨k.W,1,none⟩=some (.slice (some ⟨k.gw,0,none⟩) n n):=H.out.blk.cell 1
 have c2:w.cell? ⟨k.W,2,none⟩=some (.slice (some ⟨k.gl,0,none⟩) n n):=H.out.blk.cell 2
 obtain ⟨r1,g1⟩:=int_cell H.out.lo HOK.out.ll han
 obtain ⟨r2,g2⟩:=int_cell H.out.lo HOK.out.ll hbn
 obtain ⟨r3,g3⟩:=int_cell H.out.wh HOK.out.wl hbn
 obtain ⟨r4,g4⟩:=int_cell H.out.wh HOK.out.wl han
 simp only [wk17,dBody,dSnd,dThen,Tryz.f130]
 have c6:w.cell? ⟨k.W,6,none⟩=some vJ:=H.out.blk.cell 6
 have HN:Hid (∀ o,WkAt w0 n k vE vJ s (w.alloc o)):=fun o=>H.out.moved (Ext.alloc _ _)
 go_wp2_with (at_builtin;refine wpList_push _ rfl (.tmp 187) (.tmp 189) 79 rfl 3 (.int .i64 0) 8 Tryz.underlying79 infoI rfl _ _ _ rfl (HN.out _).jo ⟨by omega,by omega⟩ (.int .i64 (a:Int)) w.heap.size rfl (cell_new1 rfl _ _) rfl ?_;intro g5 cc5 w5 ho5 hc5 hat5 _;obtain ⟨hB5,hW5⟩:=(HN.out _).pushJ ho5 hc5 hat5;have HW5:=Lib.hid hW5;have q5:w5.cell? ⟨k.W,6,none⟩=some vJ:=hB5.cell 6;have f5:=hB5.frozen 6;clear ho5 hc5 hat5 hB5 hW5)
 exact HK.out _ _ _ _ _ _ _ _ _ _ _ _ HW5.out
set_option maxRecDepth 100000 in
theorem wkBlk_any {w0 w:World} {n:Nat} {k:Wkr} {vE vJ:Value} {s:DF.Wk} {a b fr p kc bs off m c i:Nat} {jb:Bool} {rec:Nat→DF.Wk→DF.Wk} {q':DF.Wk × Nat × Bool} (hq:q'=DF.kid rec a fr (s,kc,jb) b) (han:a < n) (hbn:b < n) (hn:n≤60) (hne:a≠b) (hkc:kc≤400) (him:i < m) (hcb:w.cell? ⟨bs,off+i,none⟩=some (.int .i64 (b:Int)))
  (H:Hid (WkAt w0 n k vE vJ s w)) (HOK:Hid (DF.Ok n s)) (HED:s.ed.length≤60)
  (HC:Hid (b≠fr→¬ 0 < PD.g s.wh b→Calls Tryz.prog 130 #[.pointer (some ⟨k.W,0,none⟩),.int .i64 (b:Int),.int .i64 (a:Int),.int .i64 (p:Int)] w (WkPost w0 n k (rec b s))∧DF.Ok n (rec b s)∧(rec b s).ed.length+1≤60))
  (K:Act→World→Prop) (Q:Exit→Act→World→Prop) {u4 u5 u6 u7 u10 u11 u12 u13 u14 u15 u16 u17 u18 u19 u20 u21 u22 u23 u24 u25 u26 u27 u28 u29 u30 u31 u32 u33 u34 u35 u36 u37 u38 u39 u40 u41 u42 u43 u44 u45 u46 u47 u48 u49 u50 u51 u53 u55 u56 u57 u58 u59 u60 u61 u62 u63 u64 u65 u66 u67 u68 u69 u70 u71 u72 u73 u74 u75 u76 u77 u78 u79 u80 u81 u82 u83 u84 u85 u86 u87 u88 u89 u90 u91 u92 u93 u94 u95 u96 u97 u98 u99 u100 u101 u102 u103 u104 u105 u106 u107 u108 u109 u110 u111 u112 u113 u114 u115 u116 u117 u118 u119 u120 u121 u122 u123 u124 u125 u126 u127 u128 u129 u130 u131 u132 u133 u134 u135 u136 u137 u138 u139 u140 u141 u142 u143 u144 u145 u146 u147 u148 u149 u150 u151 u152 u153 u154 u155 u156 u157 u158 u159 u160 u161 u162 u163 u164 u165 u166 u167 u168 u169 u170 u171 u172 u173 u174 u175 u176 u177 u178 u179 u180 u181 u182 u183 u184 u185 u186 u187 u188 u189 u190 u191 u192:Value}
  (hK:∀ (v55 v56 v57 v58 v59 v60 v61 v62 v63 v64 v65 v66 v67 v68 v69 v70 v71 v72 v73 v74 v75 v76 v77 v78 v79 v80 v81 v82 v83 v84 v85 v86 v87 v88 v89 v90 v91 v92 v93 v94 v95 v96 v97 v98 v99 v100 v101 v102 v103 v104 v105 v106 v107 v108 v109 v110 v111 v112 v113 v114 v115 v116 v117 v118 v119 v120 v121 v122 v123 v124 v125 v126 v127 v128 v129 v130 v131 v132 v133 v134 v135 v136 v137 v138 v139 v140 v141 v142 v143 v144 v145 v146 v147 v148 v149 v150 v151 v152 v153 v154 v155 v156 v157 v158 v159 v160 v161 v162 v163 v164 v165 v166 vE' vJ':Value) (w':World),WkAt w0 n k vE' vJ' q'.1 w'→(Exit.then K Q) .normal ⟨List.toArray (.pointer (some ⟨k.W,0,none⟩)::.int .i64 (a:Int)::.int .i64 (fr:Int)::.int .i64 (p:Int)::u4::u5::u6::u7::.int .i64 (q'.2.1:Int)::.bool q'.2.2::u10::.int .i64 (b:Int)::u12::u13::u14::u15::u16::u17::u18::u19::u20::u21::u22::u23::u24::u25::u26::u27::u28::u29::u30::u31::u32::u33::u34::u35::u36::u37::u38::u39::u40::u41::u42::u43::u44::u45::u46::u47::u48::u49::u50::u51::.slice (some ⟨bs,off,none⟩) m c::u53::.int .i64 (i:Int)::v55::v56::v57::v58::v59::v60::v61::v62::v63::v64::v65::v66::v67::v68::v69::v70::v71::v72::v73::v74::v75::v76::v77::v78::v79::v80::v81::v82::v83::v84::v85::v86::v87::v88::v89::v90::v91::v92::v93::v94::v95::v96::v97::v98::v99::v100::v101::v102::v103::v104::v105::v106::v107::v108::v109::v110::v111::v112::v113::v114::v115::v116::v117::v118::v119::v120::v121::v122::v123::v124::v125::v126::v127::v128::v129::v130::v131::v132::v133::v134::v135::v136::v137::v138::v139::v140::v141::v142::v143::v144::v145::v146::v147::v148::v149::v150::v151::v152::v153::v154::v155::v156::v157::v158::v159::v160::v161::v162::v163::v164::v165::v166::u167::u168::u169::u170::u171::u172::u173::u174::u175::u176::u177::u178::u179::u180::u181::u182::u183::u184::u185::u186::u187::u188::u189::u190::u191::u192::[]),[]⟩ w'):
  Code.wp Tryz.prog wkBlk (Exit.then K Q) ⟨List.toArray (.pointer (some ⟨k.W,0,none⟩)::.int .i64 (a:Int)::.int .i64 (fr:Int)::.int .i64 (p:Int)::u4::u5::u6::u7::.int .i64 (kc:Int)::.bool jb::u10::u11::u12::u13::u14::u15::u16::u17::u18::u19::u20::u21::u22::u23::u24::u25::u26::u27::u28::u29::u30::u31::u32::u33::u34::u35::u36::u37::u38::u39::u40::u41::u42::u43::u44::u45::u46::u47::u48::u49::u50::u51::.slice (some ⟨bs,off,none⟩) m c::u53::.int .i64 (i:Int)::u55::u56::u57::u58::u59::u60::u61::u62::u63::u64::u65::u66::u67::u68::u69::u70::u71::u72::u73::u74::u75::u76::u77::u78::u79::u80::u81::u82::u83::u84::u85::u86::u87::u88::u89::u90::u91::u92::u93::u94::u95::u96::u97::u98::u99::u100::u101::u102::u103::u104::u105::u106::u107::u108::u109::u110::u111::u112::u113::u114::u115::u116::u117::u118::u119::u120::u121::u122::u123::u124::u125::u126::u127::u128::u129::u130::u131::u132::u133::u134::u135::u136::u137::u138::u139::u140::u141::u142::u143::u144::u145::u146::u147::u148::u149::u150::u151::u152::u153::u154::u155::u156::u157::u158::u159::u160::u161::u162::u163::u164::u165::u166::u167::u168::u169::u170::u171::u172::u173::u174::u175::u176::u177::u178::u179::u180::u181::u182::u183::u184::u185::u186::u187::u188::u189::u190::u191::u192::[]),[]⟩ w:=by
 have HK:=Lib.hid hK
 have HQ:=Lib.hid hq
 clear hK hq
 have him':(i:Int) < (m:Int):=by omega
 have hi0:(0:Int)≤(i:Int):=by omega
 have hbi:(b:Int) < (n:Int):=by omega
 have hb0:(0:Int)≤(b:Int):=by omega
 have c1:w.cell? ⟨k.W,1,none⟩=some (.slice (some ⟨k.gw,0,none⟩) n n):=H.out.blk.cell 1
 obtain ⟨r3,g3⟩:=int_cell H.out.wh HOK.out.wl hbn
 simp only [wkBlk,wkLoop,dBody,dFst,dSnd,dArm,Tryz.f130]
 by_cases e:b=fr
 ·have e1:((b:Int) == (fr:Int))=true:=by simp;omega
  have HF:Hid (q'=(s,kc,jb)):=by rw [Hid,HQ.out,DF.kid,if_pos e]
  have hf:=HF.out
  subst hf
  subst e
  go_wp2
  exact HK.out _ _ _ _ _ _ _ _ _ _ _ _ _ _ _ _ _ _ _ _ _ _ _ _ _ _ _ _ _ _ _ _ _ _ _ _ _ _ _ _ _ _ _ _ _ _ _ _ _ _ _ _ _ _ _ _ _ _ _ _ _ _ _ _ _ _ _ _ _ _ _ _ _ _ _ _ _ _ _ _ _ _ _ _ _ _ _ _ _ _ _ _ _ _ _ _ _ _ _ _ _ _ _ _ _ _ _ _ _ _ _ _ _ _ _ H.out
 have e1:((b:Int) == (fr:Int))=false:=by simp;omega
 by_cases hv:0 < PD.g s.wh b
 ·have hv':decide (0 < PD.g s.wh b)=true:=by simpa using hv
  have HF:Hid (q'=(DF.low a (PD.g s.wh b) s,kc,jb)):=by rw [Hid,HQ.out,DF.kid,if_neg e,if_pos hv]
  have hf:=HF.out
  subst hf
  go_upto_region 8 with fail
  refine wk8_any (jb:=jb) han hbn hn H HOK HED _ ?_
  intro v69 v70 v71 v72 v73 v74 v75 v76 v77 v78 v79 v80 v81 v82 v83 v84 v85 v86 v87 v88 v89 w4 hw4
  have H4:=Lib.hid hw4
  clear hw4 H
  go_wp2
  exact HK.out _ _ _ _ _ _ _ _ _ _ _ _ _ _ _ _ _ _ _ _ _ _ _ _ _ _ _ _ _ _ _ _ _ _ _ _ _ _ _ _ _ _ _ _ _ _ _ _ _ _ _ _ _ _ _ _ _ _ _ _ _ _ _ _ _ _ _ _ _ _ _ _ _ _ _ _ _ _ _ _ _ _ _ _ _ _ _ _ _ _ _ _ _ _ _ _ _ _ _ _ _ _ _ _ _ _ _ _ _ _ _ _ _ _ _ H4.out
 ·obtain ⟨hc1,hc2,hc3⟩:=HC.out e hv
  have HC1:=Lib.hid hc1
  have HC2:=Lib.hid hc2
  have hv':decide (0 < PD.g s.wh b)=false:=by simpa using hv
  obtain ⟨s2,hs2⟩:∃ x,x=rec b s:=⟨_,rfl⟩
  have HF:Hid (q'=(DF.tell a b (DF.low a (PD.g s2.lo b) s2),kc+1,jb || decide (PD.g (DF.low a (PD.g s2.lo b) s2).wh a≤PD.g (DF.low a (PD.g s2.lo b) s2).lo b))):=by rw [Hid,HQ.out,DF.kid,if_neg e,if_neg hv];simp only [←hs2]
  rw [←hs2] at HC1 HC2 hc3
  have hf:=HF.out
  subst hf
  have hkc2:((kc+1:Nat):Int)=(kc:Int)+1:=by omega
  clear hc1 hc2 hs2 HC
  go_wp2_with fail
  refine HC1.out.mono ?_
  rintro e w3 ⟨rfl,vE2,vJ2,hw3⟩
  have H3:=Lib.hid hw3
  have HED3:s2.ed.length≤60:=by omega
  clear hw3 HC1 H
  go_upto_region 11 with fail
  refine wk11_any (jb:=jb) han hbn hn H3 HC2 HED3 _ ?_
  intro v97 v98 v99 v100 v101 v102 v103 v104 v105 v106 v107 v108 v109 v110 v111 v112 v113 v114 v115 v116 v117 w4 hw4
  have H4:=Lib.hid hw4
  have HOK4:Hid (DF.Ok n (DF.low a (PD.g s2.lo b) s2)):=⟨HC2.out.wl,by simp [DF.low,HC2.out.ll],HC2.out.pl,HC2.out.le,HC2.out.ge⟩
  have HED4:(DF.low a (PD.g s2.lo b) s2).ed.length+1≤60:=hc3
  generalize DF.low a (PD.g s2.lo b) s2=s3 at H4 HK HOK4 HED4
  clear hw4 H3 HC2 hc3 HED3
  have HED5:s3.ed.length≤60:=by omega
  go_upto_region 12 with fail
  refine wk12_any (jb:=jb) han hbn hn H4 HOK4 HED5 _ ?_
  intro v118 v119 v120 v121 v122 v123 v124 v125 v126 v127 v128 v129 v130 v131 w5 hw5
  have H5:=Lib.hid hw5
  clear hw5 H4
  by_cases ht:PD.g s3.wh a < PD.g s3.lo b
  ·rw [decide_eq_true ht]
   have HT:Hid (DF.tell a b s3={ s3 with ed:=s3.ed++[DF.ek a b] }):=by unfold Hid DF.tell;rw [if_pos ht]
   clear ht
   go_upto_region 13 with fail
   refine wk13_any (jb:=jb) han hbn hn H5 HOK4 HED5 hne _ ?_
   intro v133 v134 v135 v136 v137 v138 v139 v140 v141 v142 v143 v144 v145 v146 v147 v148 vE6 w6 hw6
   have H6:=Lib.hid hw6
   have HOK6:Hid (DF.Ok n { s3 with ed:=s3.ed++[DF.ek a b] }):=⟨HOK4.out.wl,HOK4.out.ll,HOK4.out.pl,HOK4.out.le,HOK4.out.ge⟩
   clear hw6
   go_upto_region 14 with fail
   refine wk14_any han hbn hn H6 HOK6 (by simp;omega) _ ?_
   intro v149 v150 v151 v152 v153 v154 v155 v156 v157 v158 v159 v160 v161 v162 v163 v164 v165 v166 w7 hw7
   refine HK.out _ _ _ _ _ _ _ _ _ _ _ _ _ _ _ _ _ _ _ _ _ _ _ _ _ _ _ _ _ _ _ _ _ _ _ _ _ _ _ _ _ _ _ _ _ _ _ _ _ _ _ _ _ _ _ _ _ _ _ _ _ _ _ _ _ _ _ _ _ _ _ _ _ _ _ _ _ _ _ _ _ _ _ _ _ _ _ _ _ _ _ _ _ _ _ _ _ _ _ _ _ _ _ _ _ _ _ _ _ _ _ _ vE6 vJ2 w7 ?_
   show WkAt _ _ _ _ _ (DF.tell a b s3) _
   rw [HT.out];exact hw7
  ·rw [decide_eq_false ht]
   have HT:Hid (DF.tell a b s3=s3):=by unfold Hid DF.tell;rw [if_neg ht]
   clear ht
   go_upto_region 14 with fail
   refine wk14_any han hbn hn H5 HOK4 HED5 _ ?_
   intro v149 v150 v151 v152 v153 v154 v155 v156 v157 v158 v159 v160 v161 v162 v163 v164 v165 v166 w7 hw7
   refine HK.out _ _ _ _ _ _ _ _ _ _ _ _ _ _ _ _ _ _ _ _ _ _ _ _ _ _ _ _ _ _ _ _ _ _ _ _ _ _ _ _ _ _ _ _ _ _ _ _ _ _ _ _ _ _ _ _ _ _ _ _ _ _ _ _ _ _ _ _ _ _ _ _ _ _ _ _ _ _ _ _ _ _ _ _ _ _ _ _ _ _ _ _ _ _ _ _ _ _ _ _ _ _ _ _ _ _ _ _ _ _ _ _ vE2 vJ2 w7 ?_
   show WkAt _ _ _ _ _ (DF.tell a b s3) _
   rw [HT.out];exact hw7
set_option maxRecDepth 100000 in
theorem visit_any (w0:World) (n Gb cb:Nat) (l:List AK.Ed) (N:Nat→List Nat) (k:Wkr) (hk:k.vB=.slice (some ⟨Gb,0,none⟩) n cb) (hB:BesAt w0 Gb n N) (B:Nat) (hI:BesIn B w0 Gb n) (hS:∀ j,k.S j→j < B∨w0.heap.size≤j) (hN:DF.Bes n l N) (hl:∀ u,¬ PD.adj l u u) (hin:∀ u v,PD.adj l u v→v < n) (hn:n≤60) (p:Nat) (f:Nat)
  (IH:∀ (a fr ke kj:Nat) (s:DF.Wk) (vE vJ:Value) (wr:World),DF.Pre n l a fr s→DF.unv n s≤f→DF.Bd n ke kj s→WkAt w0 n k vE vJ s wr→
   Calls Tryz.prog 130 #[.pointer (some ⟨k.W,0,none⟩),.int .i64 (a:Int),.int .i64 (fr:Int),.int .i64 (p:Int)] wr (WkPost w0 n k (DF.visit N p f a fr s)))
  (a fr ke kj:Nat) (s:DF.Wk) (vE vJ:Value) (wr:World) (hP:DF.Pre n l a fr s) (hf:DF.unv n s≤f+1) (hb:DF.Bd n ke kj s) (h:WkAt w0 n k vE vJ s wr):
   Calls Tryz.prog 130 #[.pointer (some ⟨k.W,0,none⟩),.int .i64 (a:Int),.int .i64 (fr:Int),.int .i64 (p:Int)] wr (WkPost w0 n k (DF.visit N p (f+1) a fr s)):=by
 have han:=hP.an
 have htm:s.tm≤60:=by have:=hb.un;omega
 have HQ:Hid (∀ i,DF.At n l a fr f ke kj s i (DF.qa N p f a fr s i)):=fun i=>DF.qa_at hN hl hin hP hf hb i
 have HP:=Lib.hid hP
 have HB:=Lib.hid hB
 have HN:=Lib.hid hN
 have HI:=Lib.hid hin
 have HNL:=Lib.hid hl
 have HK:=Lib.hid hk
 have HVP:Hid (∀ f b a s,DF.Pre n l b a s→DF.unv n s≤f→DF.Ok n (DF.visit N p f b a s)):=fun f b a s h1 h2=>by
  obtain ⟨T,E,h⟩:=DF.visit_post hN hl hin p f b a s h1 h2
  exact h.toOk
 have HVB:Hid (∀ f b a ke kj s,DF.Pre n l b a s→DF.unv n s≤f→DF.Bd n ke kj s→DF.Bd n (ke+1) kj (DF.visit N p f b a s)):=fun f b a ke kj s h1 h2 h3=>DF.visit_bd hN hl hin p f b a ke kj s h1 h2 h3
 have H:=Lib.hid h
 have HIH:=Lib.hid IH
 have c4:wr.cell? ⟨k.W,4,none⟩=some (.int .i64 (s.tm:Int)):=h.blk.cell 4
 have f4:=h.blk.frozen 4
 have hwt:IntKind.i64.wrap ((s.tm:Int)+1)=((s.tm+1:Nat):Int):=IntWalk.i64_in _ (by omega)
 clear hP hf hb h hB hN hl hin hk IH
 go_enter Tryz.func130,Tryz.ntmps130
 go_upto_region 1 with fail
 have htt:((s.tm+1:Nat):Int)=(s.tm:Int)+1:=by omega
 have H1:=H.out.setTm (s.tm+1)
 rw [htt] at H1
 generalize wr.setCell ⟨k.W,4,none⟩ (.int .i64 ((s.tm:Int)+1))=w1 at H1 ⊢
 have b1:w1.cell? ⟨k.W,1,none⟩=some (.slice (some ⟨k.gw,0,none⟩) n n):=H1.blk.cell 1
 have b2:w1.cell? ⟨k.W,2,none⟩=some (.slice (some ⟨k.gl,0,none⟩) n n):=H1.blk.cell 2
 have b3:w1.cell? ⟨k.W,3,none⟩=some (.slice (some ⟨k.gp,0,none⟩) n n):=H1.blk.cell 3
 have b4:w1.cell? ⟨k.W,4,none⟩=some (.int .i64 ((s.tm:Int)+1)):=by rw [←htt];exact H1.blk.cell 4
 obtain ⟨r1,g1⟩:=int_cell H1.wh HP.out.wl han
 obtain ⟨r2,g2⟩:=int_cell H1.lo HP.out.ll han
 obtain ⟨r3,g3⟩:=int_cell H1.pa HP.out.pl han
 have n1:¬ (k.gw=k.gl):=H1.d1
 have n2:¬ (k.gw=k.gp):=H1.d2
 have n3:¬ (k.gl=k.gp):=H1.d3
 have m1:¬ (k.W=k.gw):=H1.w1
 have m2:¬ (k.W=k.gl):=H1.w2
 have m3:¬ (k.W=k.gp):=H1.w3
 have hai:(a:Int) < (n:Int):=by omega
 have ha0:(0:Int)≤(a:Int):=by omega
 have H1':=Lib.hid H1
 clear H1 c4 f4 H
 go_region
 have H2:Hid (WkAt w0 n k vE vJ (DF.start a p s) ((((w1.setCell ⟨k.gw,a,none⟩ (.int .i64 ((s.tm:Int)+1))).setCell ⟨k.gl,a,none⟩ (.int .i64 ((s.tm:Int)+1))).setCell ⟨k.gp,a,none⟩ (.int .i64 (p:Int))).drew)):=by
  unfold DF.start Hid
  rw [htt]
  exact (((H1'.out.setW a _).setL a _).setP a _).drew
 generalize (((w1.setCell ⟨k.gw,a,none⟩ (.int .i64 ((s.tm:Int)+1))).setCell ⟨k.gl,a,none⟩ (.int .i64 ((s.tm:Int)+1))).setCell ⟨k.gp,a,none⟩ (.int .i64 (p:Int))).drew=w2 at H2 ⊢
 clear H1' b1 b2 b3 b4 r1 r2 r3 g1 g2 g3 htt n1 n2 n3 m1 m2 m3 hwt
 have b0:w2.cell? ⟨k.W,0,none⟩=some (.slice (some ⟨Gb,0,none⟩) n cb):=by rw [←HK.out];exact H2.out.blk.cell 0
 obtain ⟨A,c,hrow0,hA,hmx⟩:=HB.out.row a han
 have hGS:¬ k.S Gb:=fun q=>by have:=hS _ q;have:=hI.1;have:=HB.out.lt;omega
 have hrow:=(H2.out.chg.cell (p:=⟨Gb,a,none⟩) HB.out.lt hGS).trans hrow0
 have HNS:Hid (∀ ad:Addr,A=some ad→ad.block < w0.heap.size→¬ k.S ad.block):=fun ad h1 h2 q=>by have:=hS _ q;have:=hI.2 a han A _ _ hrow0 ad h1;omega
 clear hrow0 hGS hI hS
 obtain ⟨m,hm⟩:∃ m,m=(N a).length:=⟨_,rfl⟩
 rw [←hm] at hrow hmx
 have HA:Hid (IntsAt w0 A ((N a).map fun (x:Nat)=>(x:Int))):=hA
 have HM:=Lib.hid hm
 clear hA hm
 go_wp2
 go_loopw [54,8,9] (fun vi vk vj wl=>∃ i:Nat,i≤m∧vi=.int .i64 i∧vk=.int .i64 ((DF.qa N p f a fr s i).2.1:Nat)∧vj=.bool (DF.qa N p f a fr s i).2.2∧Hid (∃ vE vJ,WkAt w0 n k vE vJ (DF.qa N p f a fr s i).1 wl)) (fun vi _ _ _=>m - (intOf vi).toNat)
 case atStart=>exact ⟨0,by omega,rfl,by rw [DF.qa_zero];rfl,by rw [DF.qa_zero],_,_,by rw [DF.qa_zero];exact H2.out⟩
 case round=>
  obtain ⟨i,hi,rfl,rfl,rfl,hR⟩:=hrel
  obtain ⟨q,hq⟩:∃ q,q=DF.qa N p f a fr s i:=⟨_,rfl⟩
  have hat:=HQ.out i
  rw [←hq] at hat hR ⊢
  obtain ⟨hok,hbd,hkids,hpre⟩:=hat
  obtain ⟨s1,kc,jb⟩:=q
  simp only at hok hbd hkids hpre hR ⊢
  have HQE:=Lib.hid hq
  have HOK:=Lib.hid hok
  have HBD:=Lib.hid hbd
  have HPRE:=Lib.hid hpre
  obtain ⟨vE1,vJ1,hW⟩:=hR.out
  have H3:=Lib.hid hW
  clear hq hok hbd hpre hW hR H2
  by_cases him:i < m
  ·have him':(i:Int) < (m:Int):=by omega
   have hi0:(0:Int)≤(i:Int):=by omega
   obtain ⟨b,hb⟩:∃ b,(N a)[i]?=some b:=⟨_,List.getElem?_eq_getElem (by rw [←HM.out];exact him)⟩
   have hbm:=(HN.out a han b).1 (List.mem_of_getElem? hb)
   obtain ⟨hbn,hadj⟩:=hbm
   have hne:a≠b:=by rintro rfl;exact HNL.out _ hadj
   have hkc:kc≤400:=by omega
   have hed:s1.ed.length≤60:=by have:=HBD.out.ed;have:=HBD.out.un;omega
   have HCC:Hid (b≠fr→¬ 0 < PD.g s1.wh b→Calls Tryz.prog 130 #[.pointer (some ⟨k.W,0,none⟩),.int .i64 (b:Int),.int .i64 (a:Int),.int .i64 (p:Int)] wr (WkPost w0 n k (DF.visit N p f b a s1))∧DF.Ok n (DF.visit N p f b a s1)∧(DF.visit N p f b a s1).ed.length+1≤60):=fun _ hv=>by
    obtain ⟨hp1,hp2⟩:=HPRE.out b hadj hv
    have hbd2:=HVB.out f b a (ke+1) (kj+1) s1 hp1 hp2 HBD.out
    exact ⟨HIH.out b a (ke+1) (kj+1) s1 vE1 vJ1 wr hp1 hp2 HBD.out H3.out,HVP.out f b a s1 hp1 hp2,by have:=hbd2.ed;have:=hbd2.un;omega⟩
   obtain ⟨bs,off,rfl,hcb⟩:∃ bs off,A=some ⟨bs,off,none⟩∧wr.cell? ⟨bs,off+i,none⟩=some (.int .i64 (b:Int)):=by
    rcases HA.out with h0 | ⟨bs,off,rfl,hlt,hc⟩
    ·have:=congrArg List.length h0
     simp only [List.length_map,List.length_nil] at this
     have:=HM.out
     omega
    ·exact ⟨bs,off,rfl,(H3.out.chg.cell (p:=⟨bs,off+i,none⟩) hlt (HNS.out ⟨bs,off,none⟩ rfl hlt)).trans (hc i _ (by rw [List.getElem?_map,hb];rfl))⟩
   have HS:Hid (DF.qa N p f a fr s (i+1)=DF.kid (fun b s=>DF.visit N p f b a s) a fr (s1,kc,jb) b):=by rw [Hid,HQE.out];exact DF.qa_succ hb
   clear hb hadj
   go_upto_block 1 with fail
   refine wkBlk_any HS.out han hbn hn hne hkc him hcb H3 HOK hed HCC _ _ ?_
   intro v55 v56 v57 v58 v59 v60 v61 v62 v63 v64 v65 v66 v67 v68 v69 v70 v71 v72 v73 v74 v75 v76 v77 v78 v79 v80 v81 v82 v83 v84 v85 v86 v87 v88 v89 v90 v91 v92 v93 v94 v95 v96 v97 v98 v99 v100 v101 v102 v103 v104 v105 v106 v107 v108 v109 v110 v111 v112 v113 v114 v115 v116 v117 v118 v119 v120 v121 v122 v123 v124 v125 v126 v127 v128 v129 v130 v131 v132 v133 v134 v135 v136 v137 v138 v139 v140 v141 v142 v143 v144 v145 v146 v147 v148 v149 v150 v151 v152 v153 v154 v155 v156 v157 v158 v159 v160 v161 v162 v163 v164 v165 v166 vE' vJ' w4 hw4
   have H4:=Lib.hid hw4
   clear hw4 H3 hcb HCC HS
   go_wp2
   go_roundw
   case rel=>exact ⟨i+1,by omega,by go_num,rfl,rfl,_,_,H4.out⟩
   case measure=>simp [intOf];omega
  ·have e:i=m:=by omega
   subst e
   have HF:Hid (DF.visit N p (f+1) a fr s=DF.fin a fr (s1,kc,jb)):=by rw [Hid,DF.qa_all,←HM.out,HQE.out]
   have hjo:s1.jo.length≤60:=by have:=HBD.out.jo;have:=HBD.out.un;omega
   have hed:s1.ed.length≤60:=by have:=HBD.out.ed;have:=HBD.out.un;omega
   by_cases ef:fr=a
   ·have e1:((fr:Int) == (a:Int))=true:=by simp;omega
    have e2:((fr:Int) != (a:Int))=false:=by simp;omega
    by_cases hk1:1 < kc
    ·have e3:decide ((1:Int) < (kc:Int))=true:=by simp;omega
     have HG:Hid (DF.fin a fr (s1,kc,jb)={ s1 with jo:=s1.jo++[a] }):=by unfold Hid DF.fin;rw [if_pos (.inr ⟨ef,hk1⟩)]
     subst ef
     go_upto_region 17 with fail
     refine wk17_any (jb:=false) han han hn H3 HOK hed hjo _ ?_
     intro v183 v184 v185 v186 v187 v188 v189 v190 v191 v192 vJ' w4 hw4
     have HZ:Hid (WkPost w0 n k (DF.visit N p (f+1) fr fr s) (.returned (.tuple #[])) w4):=⟨rfl,_,_,by rw [HF.out,HG.out];exact hw4⟩
     clear hw4
     go_wp2
     go_end0
     exact HZ.out
    ·have e3:decide ((1:Int) < (kc:Int))=false:=by simp;omega
     have HG:Hid (DF.fin a fr (s1,kc,jb)=s1):=by unfold Hid DF.fin;rw [if_neg (by simp only;omega)]
     have HZ:Hid (WkPost w0 n k (DF.visit N p (f+1) a fr s) (.returned (.tuple #[])) wr):=⟨rfl,_,_,by rw [HF.out,HG.out];exact H3.out⟩
     subst ef
     go_wp2
     go_end0
     exact HZ.out
   ·have e1:((fr:Int) == (a:Int))=false:=by simp;omega
    have e2:((fr:Int) != (a:Int))=true:=by simp;omega
    cases jb
    ·have HG:Hid (DF.fin a fr (s1,kc,false)=s1):=by unfold Hid DF.fin;rw [if_neg (by simp [ef])]
     have HZ:Hid (WkPost w0 n k (DF.visit N p (f+1) a fr s) (.returned (.tuple #[])) wr):=⟨rfl,_,_,by rw [HF.out,HG.out];exact H3.out⟩
     go_wp2
     go_end0
     exact HZ.out
    ·have HG:Hid (DF.fin a fr (s1,kc,true)={ s1 with jo:=s1.jo++[a] }):=by unfold Hid DF.fin;rw [if_pos (.inl ⟨ef,rfl⟩)]
     go_upto_region 17 with fail
     refine wk17_any (jb:=false) han han hn H3 HOK hed hjo _ ?_
     intro v183 v184 v185 v186 v187 v188 v189 v190 v191 v192 vJ' w4 hw4
     have HZ:Hid (WkPost w0 n k (DF.visit N p (f+1) a fr s) (.returned (.tuple #[])) w4):=⟨rfl,_,_,by rw [HF.out,HG.out];exact hw4⟩
     clear hw4
     go_wp2
     go_end0
     exact HZ.out
theorem walkB_any (w0:World) (n Gb cb:Nat) (l:List AK.Ed) (N:Nat→List Nat) (k:Wkr) (hk:k.vB=.slice (some ⟨Gb,0,none⟩) n cb) (hB:BesAt w0 Gb n N) (B:Nat) (hI:BesIn B w0 Gb n) (hS:∀ j,k.S j→j < B∨w0.heap.size≤j) (hN:DF.Bes n l N) (hl:∀ u,¬ PD.adj l u u) (hin:∀ u v,PD.adj l u v→v < n) (hn:n≤60) (p:Nat):∀ (f a fr ke kj:Nat) (s:DF.Wk) (vE vJ:Value) (wr:World),DF.Pre n l a fr s→DF.unv n s≤f→DF.Bd n ke kj s→WkAt w0 n k vE vJ s wr→
   Calls Tryz.prog 130 #[.pointer (some ⟨k.W,0,none⟩),.int .i64 (a:Int),.int .i64 (fr:Int),.int .i64 (p:Int)] wr (WkPost w0 n k (DF.visit N p f a fr s))
 | 0,a,fr,ke,kj,s,vE,vJ,wr,hP,hf,hb,h=>by
  have:=(DF.begun (p:=p) hP hl).fewer hP
  omega
 | f+1,a,fr,ke,kj,s,vE,vJ,wr,hP,hf,hb,h=>visit_any w0 n Gb cb l N k hk hB B hI hS hN hl hin hn p f (walkB_any w0 n Gb cb l N k hk hB B hI hS hN hl hin hn p f) a fr ke kj s vE vJ wr hP hf hb h
set_option maxRecDepth 100000 in
theorem beside_in (w:World) (n:Nat) (A:Option Addr) (m c:Nat) (l:List AK.Ed) (hl:l.length=m) (h:EdsAt w A l) (hf:Fine n l) (hn0:0 < n) (hn:n≤60):
  Calls Tryz.prog 84 #[.int .i64 n,.slice A m c] w (BesPost2 w n l):=by
 obtain ⟨cs,hcs,hmk⟩:=run_rows n (by omega)
 have H:=Lib.hid h
 have HL:=Lib.hid hl
 have HF:=Lib.hid hf
 have hm2:m≤200:=by rw [←hl];exact hf.1
 have HB0:Hid (BsV w n w.heap.size (fun v=>nbs [] v) (fun _=>.slice none 0 0) (w.alloc (.cells cs 79))):=by
  have e:cs=rowV n (fun _=>.slice none 0 0):=by
   have:(rowV n (fun _=>Value.slice none 0 0)).toList=cs.toList:=by rw [hcs];simp only [rowV];rw [List.map_const',List.length_range]
   exact (Array.toList_inj.1 this).symm
  refine ⟨by rw [e];exact Blk.new _ _ _,fun v hv=>by simpa [nbs,intsV] using World.ownsRow_nil _ 0 3 1,fun v hv k hk=>by simp [Value.ownBlock] at hk,fun u v hu hv huv k hk=>by simp [Value.ownBlock] at hk,Ext.alloc _ _,Nat.le_refl _⟩
 clear h hl hf hcs
 have hn0':(0:Int)≤(n:Int):=by omega
 go_enter Tryz.func84,Tryz.ntmps84
 go_wp2
 obtain ⟨G,hG⟩:∃ x,x=w.heap.size:=⟨_,rfl⟩
 rw [←hG] at HB0 ⊢
 have HG:=Lib.hid hG
 clear hG
 go_loopw [14] (fun v wr=>∃ i:Nat,i≤m∧v=.int .i64 i∧Hid (∃ V,BsV w n G (fun v=>nbs (l.take i) v) V wr)) (fun v _=>m - (intOf v).toNat)
 case atStart=>exact ⟨0,by omega,rfl,_,by rw [List.take_zero];exact HB0.out⟩
 case round=>
  obtain ⟨i,hi,rfl,hR⟩:=hrel
  clear HB0
  by_cases him:i < m
  ·have him':(i:Int) < (m:Int):=by omega
   have hi0:(0:Int)≤(i:Int):=by omega
   obtain ⟨V,hV⟩:=hR.out
   obtain ⟨bs,off,rfl,hbs,u,v,hlu,huv,hv,b0,b1⟩:=edge_at H.out HL.out HF.out him
   have b0:=(hV.ext.cell (p:=⟨bs,off+i * 2,none⟩) hbs).trans b0
   have b1:=(hV.ext.cell (p:=⟨bs,off+i * 2+1,none⟩) hbs).trans b1
   have hu:u < n:=by omega
   have hu':(u:Int) < (n:Int):=by omega
   have hv':(v:Int) < (n:Int):=by omega
   have HLU:=Lib.hid hlu
   have HV1:Hid (BsV w n G (fun v=>nbs (l.take i) v) V (wr.alloc (.cells #[.int .i64 u,.int .i64 v] 93))):=hV.moved (Ext.alloc _ _)
   have HX1:Hid (Blk (wr.alloc (.cells #[.int .i64 u,.int .i64 v] 93)) wr.heap.size 93 #[.int .i64 u,.int .i64 v]):=Blk.new _ _ _
   clear hV hR hlu
   go_upto_region 5 with fail
   generalize wr.alloc (.cells #[.int .i64 u,.int .i64 v] 93)=w1 at HV1 HX1 ⊢
   generalize wr.heap.size=gx at HX1 ⊢
   clear b0 b1
   have hrl:(nbs (l.take i) u).length≤400:=by have:=nbs_len (l.take i) u;rw [List.length_take] at this;omega
   go_cut [] from 18 to 30 (fun wx=>∃ w3,w3=wx∧Hid (∃ V2,BsV w n G (upd (fun v=>nbs (l.take i) v) u (nbs (l.take i) u++[(v:Int)])) V2 w3∧Blk w3 gx 93 #[.int .i64 u,.int .i64 v]))
   case first=>
    obtain ⟨c1,f1⟩:=HV1.out.cell hu
    have x0:w1.cell? ⟨gx,0,none⟩=some (.int .i64 u):=HX1.out.cell 0
    have x1:w1.cell? ⟨gx,1,none⟩=some (.int .i64 v):=HX1.out.cell 1
    have c1o:∀ o,(w1.alloc o).cell? ⟨G,u,none⟩=some (V u):=fun o=>((HV1.out.moved (Ext.alloc w1 o)).cell hu).1
    have x0o:∀ o,(w1.alloc o).cell? ⟨gx,0,none⟩=some (.int .i64 u):=fun o=>(HX1.out.alloc o).cell 0
    have x1o:∀ o,(w1.alloc o).cell? ⟨gx,1,none⟩=some (.int .i64 v):=fun o=>(HX1.out.alloc o).cell 1
    have HNX:Hid ((V u).ownBlock≠some gx):=own_ne (HV1.out.row u hu) HX1.out (by decide)
    have HGG:Hid (gx≠G):=HX1.out.ne_ HV1.out.blk (by decide)
    go_region_law (first
     | (refine step_push _ (by rfl) (.tmp 25) (.tmp 28) 79 rfl 3 (.int .i64 0) 8 Tryz.underlying79 infoI (by rfl) (V u) _ _ (by rfl) ((HV1.out.moved (Ext.trans (Ext.alloc w1 (.cells #[.int .i64 v] 3)) (Ext.drew _))).row u hu) ⟨by omega,by omega⟩ (.int .i64 v) w1.heap.size (by rfl) (cell_new1 rfl _ _) (by rfl) ?_;intro g2 c2 w2 ho hc hat;obtain ⟨q1,q2,HN⟩:=BsV.push (HV1.out.moved (Ext.trans (Ext.alloc w1 (.cells #[.int .i64 v] 3)) (Ext.drew _))) hu ho hc hat;have HX2:Hid (Blk w2 gx 93 #[.int .i64 u,.int .i64 v]):=Blk.chg (S:=fun k=>(V u).ownBlock=some k) (HX1.out.alloc (.cells #[.int .i64 v] 3)).drew hc HNX.out;have y0:w2.cell? ⟨gx,0,none⟩=some (.int .i64 u):=HX2.out.cell 0;have y1:w2.cell? ⟨gx,1,none⟩=some (.int .i64 v):=HX2.out.cell 1;clear ho hc hat) | fail)
    all_goals
     have HCUT:Hid (∃ V2,BsV w n G (upd (fun v=>nbs (l.take i) v) u (nbs (l.take i) u++[(v:Int)])) V2 (w2.setCell ⟨G,u,none⟩ (.slice (some ⟨g2,0,none⟩) ((nbs (l.take i) u).length+1) c2))∧Blk (w2.setCell ⟨G,u,none⟩ (.slice (some ⟨g2,0,none⟩) ((nbs (l.take i) u).length+1) c2)) gx 93 #[.int .i64 u,.int .i64 v]):=⟨_,HN.out,HX2.out.far (p:=⟨G,u,none⟩) HGG.out _⟩
     clear q1 q2 y0 y1 HX2 HN c1 f1 x0 x1 c1o x0o x1o HNX
     go_wp2
     go_meet
     exact ⟨_,rfl,HCUT⟩
   case rest=>
    obtain ⟨w3,hw3,hcut2⟩:=hcut
    subst hw3
    obtain ⟨V3,hV3,hX3⟩:=hcut2.out
    obtain ⟨R2,hR2⟩:∃ R2,R2=upd (fun v=>nbs (l.take i) v) u (nbs (l.take i) u++[(v:Int)]):=⟨_,rfl⟩
    rw [←hR2] at hV3
    have HR2:=Lib.hid hR2
    have HV3:=Lib.hid hV3
    have HX3:=Lib.hid hX3
    clear hR2 hV3 hX3 HV1 HX1 hcut2
    go_wp2
    have hrl2:(R2 v).length≤400:=by
     rw [HR2.out];simp only [upd];rw [if_neg (by omega)]
     have:=nbs_len (l.take i) v;rw [List.length_take] at this;omega
    obtain ⟨c1,f1⟩:=HV3.out.cell hv
    have x0:w3.cell? ⟨gx,0,none⟩=some (.int .i64 u):=HX3.out.cell 0
    have x1:w3.cell? ⟨gx,1,none⟩=some (.int .i64 v):=HX3.out.cell 1
    have c1o:∀ o,(w3.alloc o).cell? ⟨G,v,none⟩=some (V3 v):=fun o=>((HV3.out.moved (Ext.alloc w3 o)).cell hv).1
    have x0o:∀ o,(w3.alloc o).cell? ⟨gx,0,none⟩=some (.int .i64 u):=fun o=>(HX3.out.alloc o).cell 0
    have x1o:∀ o,(w3.alloc o).cell? ⟨gx,1,none⟩=some (.int .i64 v):=fun o=>(HX3.out.alloc o).cell 1
    have HNX:Hid ((V3 v).ownBlock≠some gx):=own_ne (HV3.out.row v hv) HX3.out (by decide)
    have HGG:Hid (gx≠G):=HX3.out.ne_ HV3.out.blk (by decide)
    go_region_law (first
     | (refine step_push _ (by rfl) (.tmp 38) (.tmp 41) 79 rfl 3 (.int .i64 0) 8 Tryz.underlying79 infoI (by rfl) (V3 v) _ _ (by rfl) ((HV3.out.moved (Ext.trans (Ext.alloc w3 (.cells #[.int .i64 u] 3)) (Ext.drew _))).row v hv) ⟨by omega,by omega⟩ (.int .i64 u) w3.heap.size (by rfl) (cell_new1 rfl _ _) (by rfl) ?_;intro g2 c2 w4 ho hc hat;obtain ⟨q1,q2,HN⟩:=BsV.push (HV3.out.moved (Ext.trans (Ext.alloc w3 (.cells #[.int .i64 u] 3)) (Ext.drew _))) hv ho hc hat;have HX2:Hid (Blk w4 gx 93 #[.int .i64 u,.int .i64 v]):=Blk.chg (S:=fun k=>(V3 v).ownBlock=some k) (HX3.out.alloc (.cells #[.int .i64 u] 3)).drew hc HNX.out;have y0:w4.cell? ⟨gx,0,none⟩=some (.int .i64 u):=HX2.out.cell 0;have y1:w4.cell? ⟨gx,1,none⟩=some (.int .i64 v):=HX2.out.cell 1;clear ho hc hat) | fail)
    all_goals
     have HF4:Hid (∃ V,BsV w n G (fun z=>nbs (l.take (i+1)) z) V (w4.setCell ⟨G,v,none⟩ (.slice (some ⟨g2,0,none⟩) ((R2 v).length+1) c2))):=by
      have e:upd R2 v (R2 v++[(u:Int)])=fun z=>nbs (l.take (i+1)) z:=funext fun z=>by
       rw [HR2.out,take_snoc' HLU.out,nbs_snoc]
       by_cases ez:z=v
       ·subst ez
        simp [upd,show ¬ z=u by omega,show ¬ (u:Int)=(z:Int) by omega]
       ·by_cases eu:z=u
        ·subst eu
         simp [upd,ez,show ¬ (v:Int)=(z:Int) by omega]
        ·simp [upd,ez,eu,show ¬ (v:Int)=(z:Int) by omega,show ¬ (u:Int)=(z:Int) by omega]
      exact ⟨_,by rw [←e];exact HN.out⟩
     clear HN q1 q2 y0 y1 HX2 c1 f1 x0 x1 c1o x0o x1o HNX HV3 HX3 HR2
     go_wp2
     go_roundw
     case rel=>exact ⟨i+1,by omega,by go_num,HF4⟩
     case measure=>simp [intOf];omega
  ·have e:i=m:=by omega
   subst e
   obtain ⟨V,hV⟩:=hR.out
   rw [show l.take i=l by rw [←HL.out];exact List.take_length] at hV
   have HS0:Hid (BsV w n G (fun z=>if z < 0 then sorted (nbs l z) else nbs l z) V wr):=by unfold Hid;simpa using hV
   clear hR hV
   go_wp2
   obtain ⟨wq,hwq⟩:∃ x,x=wr:=⟨_,rfl⟩
   subst hwq
   go_loopw [47] (fun v wr=>∃ k:Nat,k≤n∧v=.int .i64 k∧Hid (BsV w n G (fun z=>if z < k then sorted (nbs l z) else nbs l z) V wr)) (fun v _=>n - (intOf v).toNat)
   case atStart=>exact ⟨0,by omega,rfl,HS0⟩
   case round=>
    obtain ⟨k,hk,rfl,hS⟩:=hrel
    clear HS0
    by_cases hkn:k < n
    ·have hkn':(k:Int) < (n:Int):=by omega
     have hk0:(0:Int)≤(k:Int):=by omega
     obtain ⟨c1,f1⟩:=hS.out.cell hkn
     have hrow:=hS.out.row k hkn
     simp only [if_neg (Nat.lt_irrefl k)] at hrow
     have HRW:=Lib.hid hrow
     have hnl:(nbs l k).length≤1000:=by have:=nbs_len l k;have:=HF.out.1;omega
     clear hrow
     go_wp2_with fail
     refine (sort_any wr (V k) _ _ HRW.out hnl).mono ?_
     rintro e w2 ⟨rfl,ho,hc⟩
     have HS2:Hid (BsV w n G (fun z=>if z < k+1 then sorted (nbs l z) else nbs l z) V w2):=by
      have h1:=hS.out.sort hkn (by simpa using ho) hc
      have e:upd (fun z=>if z < k then sorted (nbs l z) else nbs l z) k (sorted ((fun z=>if z < k then sorted (nbs l z) else nbs l z) k))=fun z=>if z < k+1 then sorted (nbs l z) else nbs l z:=funext fun z=>by
       simp only [upd]
       by_cases ez:z=k
       ·subst ez;simp
       ·rw [if_neg ez]
        by_cases hz:z < k
        ·rw [if_pos hz,if_pos (by omega)]
        ·rw [if_neg hz,if_neg (by omega)]
      rw [←e];exact h1
     clear ho hc c1 f1 hS
     go_wp2
     go_roundw
     case rel=>exact ⟨k+1,by omega,by go_num,HS2⟩
     case measure=>simp [intOf];omega
    ·have e:k=n:=by omega
     subst e
     have HP:Hid (BesPost2 w k l (.returned (.slice (some ⟨G,0,none⟩) k k)) wr):=by
      obtain ⟨N,h1,h2,h3⟩:=hS.out.done (l:=l) (fun z hz=>by simp [hz]) HF.out
      exact ⟨G,k,N,rfl,h1,h2,h3,hS.out.ext,hS.out.inn⟩
     clear hS
     go_wp2
     go_ret
     exact HP.out
theorem beside_any (w:World) (n:Nat) (A:Option Addr) (m c:Nat) (l:List AK.Ed) (hl:l.length=m) (h:EdsAt w A l) (hf:Fine n l) (hn0:0 < n) (hn:n≤60):
  Calls Tryz.prog 84 #[.int .i64 n,.slice A m c] w (BesPost w n l):=
 (beside_in w n A m c l hl h hf hn0 hn).mono fun _ _ ⟨G,c,N,h1,h2,h3,h4,h5,_⟩=>⟨G,c,N,h1,h2,h3,h4,h5⟩
theorem step_callW {P:Program} {ops:Array Oper} {o:Oper} {a:Act} {w:World} {K:Act→World→Prop} {Q:Exit→Act→World→Prop} {E:Prop} {Post:Ending→World→Prop}
  (hg:o.guard=none) (f:Nat) (args:Array Operand) (tys:Array TypeId) (hop:o.op=.call { callee:=.value (.func f),args:=args,argTypes:=tys }) (vs:Array Value) (hv:args.map a.eval=vs)
  (hcf:(callFunc f vs).run P w=.ok (.enter f vs) w) (hc:Calls P f vs w Post)
  (hK:∀ e w',Post e w'→∃ v,e=.returned v∧K (a.put o.dst v) w'):
  if Region.wanted o (yielded ops a.tmps)=true then Oper.wp P o a w K Q else E:=by
 have hw:Region.wanted o (yielded ops a.tmps)=true:=by simp [Region.wanted,hg]
 rw [if_pos hw]
 have hr:(execOp a.eval o).run P w=.ok (.enter f vs) w:=by
  subst hv
  simp [execOp,hop,resolve,invoke,Act.eval,Deferred.ofValue,hcf]
 unfold Oper.wp
 rw [hr,Oper.upon_enter]
 refine hc.mono (fun e w' h=>?_)
 obtain ⟨v,rfl,h2⟩:=hK e w' h
 exact h2
theorem callsBeside:∀ args w,(callFunc 84 args).run Tryz.prog w=.ok (.enter 84 args) w:=enters_of Tryz.func84 (by kernel_rfl) rfl
structure WdSt (w w0 wr:World) (n:Nat) (l:List AK.Ed) (k:Wkr) (N:Nat→List Nat) (G cb B:Nat):Prop where
 ext:Ext w w0
 vB:k.vB=.slice (some ⟨G,0,none⟩) n cb
 bes:BesAt w0 G n N
 of_:BesOf n l N
 inn:BesIn B w0 G n
 S:∀ j,k.S j→j < B∨w0.heap.size≤j
 sS:∀ j,k.S j→w.heap.size≤j
 at_:WkAt w0 n k (.slice none 0 0) (.slice none 0 0) (DF.zero n) wr
def BesGot (W w1:World) (n:Nat) (l:List AK.Ed) (G:Nat) (N:Nat→List Nat):Prop:=BesAt w1 G n N∧BesOf n l N∧Ext W w1∧BesIn W.heap.size w1 G n
theorem own_zero {w:World} {g n:Nat} {cs:Array Value} (h:Blk w g 3 cs) (hcs:cs.toList=List.replicate n (.int .i64 0)) (hn:n≤60):w.ownsRow 0 3 1 (.slice (some ⟨g,0,none⟩) n n) n (intsV (List.replicate n 0)):=by
 have hl:cs.size=n:=by have:=congrArg List.length hcs;simpa using this
 refine ⟨by simp [intsV],.inr ⟨g,n,cs,rfl,Nat.zero_le _,h,Nat.le_refl _,by unfold maxLen;omega,by omega,?_⟩⟩
 rw [hcs];simp [intsV]
theorem wd_start {w W w1 wf:World} {n G gw gl gp X cb:Nat} {N:Nat→List Nat} {l:List AK.Ed} {cs:Array Value} (hcs:cs.toList=List.replicate n (.int .i64 0)) (hn:n≤60) (h:BesGot W w1 n l G N) (hxW:Ext w W) (hxf:Ext w1 wf) (hX:X=wf.heap.size) (bw:Blk wf gw 3 cs) (bl:Blk wf gl 3 cs) (bp:Blk wf gp 3 cs)
  (sw:w.heap.size≤gw∧(gw < W.heap.size∨w1.heap.size≤gw)) (sl:w.heap.size≤gl∧(gl < W.heap.size∨w1.heap.size≤gl)) (sp:w.heap.size≤gp∧(gp < W.heap.size∨w1.heap.size≤gp)) (d1:gw≠gl) (d2:gw≠gp) (d3:gl≠gp):
  WdSt w w1 (wf.alloc (.cells #[.slice (some ⟨G,0,none⟩) n cb,.slice (some ⟨gw,0,none⟩) n n,.slice (some ⟨gl,0,none⟩) n n,.slice (some ⟨gp,0,none⟩) n n,.int .i64 0,.slice none 0 0,.slice none 0 0] 154)) n l ⟨X,gw,gl,gp,.slice (some ⟨G,0,none⟩) n cb⟩ N G cb W.heap.size:=by
 subst hX
 obtain ⟨h1,h2,h3,h4⟩:=h
 refine ⟨Ext.trans hxW h3,rfl,h1,h2,h4,?_,?_,?_⟩
 ·rintro j (rfl | rfl | rfl)
  ·exact sw.2
  ·exact sl.2
  ·exact sp.2
 ·rintro j (rfl | rfl | rfl)
  ·exact sw.1
  ·exact sl.1
  ·exact sp.1
 ·exact { blk:=Blk.new _ _ _,wh:=own_zero (bw.alloc _) hcs hn,lo:=own_zero (bl.alloc _) hcs hn,pa:=own_zero (bp.alloc _) hcs hn,ed:=World.ownsRow_nil _ _ _ _,jo:=World.ownsRow_nil _ _ _ _,d1:=d1,d2:=d2,d3:=d3,j1:=by simp [Value.ownBlock],j2:=by simp [Value.ownBlock],j3:=by simp [Value.ownBlock],nE:=fun x hx=>by simp [Value.ownBlock] at hx,nJ:=fun x hx=>by simp [Value.ownBlock] at hx,nW:=hxf.size,chg:=(Chg.new (Ext.trans hxf (Ext.alloc _ _)) _) }
theorem Blk.new_ {w:World} {g:Nat} {t:TypeId} {cs:Array Value} (h:g=w.heap.size):Blk (w.alloc (.cells cs t)) g t cs:=by subst h;exact Blk.new _ _ _
theorem World.size_drew_ (w:World):w.drew.heap.size=w.heap.size:=rfl
theorem World.size_alloc_ (w:World) (o:Obj):(w.alloc o).heap.size=w.heap.size+1:=by simp
theorem blk_on {w w1:World} {g:Nat} {t:TypeId} {cs:Array Value} (h:Blk w g t cs) (hx:Ext w w1):Blk w1 g t cs:=h.chg (Chg.of_below hx) (by have:=h.lt;omega)
def wkV (G gw gl gp n cb:Nat):Array Value:=#[.slice (some ⟨G,0,none⟩) n cb,.slice (some ⟨gw,0,none⟩) n n,.slice (some ⟨gl,0,none⟩) n n,.slice (some ⟨gp,0,none⟩) n n,.int .i64 0,.slice none 0 0,.slice none 0 0]
section
variable {w W w1 wf:World} {n G:Nat} {N:Nat→List Nat} {l:List AK.Ed} {cs:Array Value} {p0 p1 p2 X:Nat}
theorem wd_perm (hcs:cs.toList=List.replicate n (.int .i64 0)) (hn:n≤60) (h:BesGot W w1 n l G N) (hxW:Ext w W) (hxf:Ext w1 wf) (hX:X=wf.heap.size)
  (h0:Blk wf p0 3 cs∧w.heap.size≤p0∧(p0 < W.heap.size∨w1.heap.size≤p0)) (h1:Blk wf p1 3 cs∧w.heap.size≤p1∧(p1 < W.heap.size∨w1.heap.size≤p1)) (h2:Blk wf p2 3 cs∧w.heap.size≤p2∧(p2 < W.heap.size∨w1.heap.size≤p2))
  (cb x y z:Nat) (hx:x=p0∨x=p1∨x=p2) (hy:y=p0∨y=p1∨y=p2) (hz:z=p0∨z=p1∨z=p2) (d1:x≠y) (d2:x≠z) (d3:y≠z):
  WdSt w w1 (wf.alloc (.cells (wkV G x y z n cb) 154)) n l ⟨X,x,y,z,.slice (some ⟨G,0,none⟩) n cb⟩ N G cb W.heap.size:=by
 have key:∀ x,(x=p0∨x=p1∨x=p2)→Blk wf x 3 cs∧w.heap.size≤x∧(x < W.heap.size∨w1.heap.size≤x):=by
  rintro x (rfl | rfl | rfl)
  ·exact h0
  ·exact h1
  ·exact h2
 exact wd_start hcs hn h hxW hxf hX (key x hx).1 (key y hy).1 (key z hz).1 (key x hx).2 (key y hy).2 (key z hz).2 d1 d2 d3
theorem wd_0 (hcs:cs.toList=List.replicate n (.int .i64 0)) (hn:n≤60) (h:BesGot w.drew w1 n l G N):∀ (cb x y z:Nat),(x=w1.heap.size∨x=w1.heap.size+1∨x=w1.heap.size+1+1)→(y=w1.heap.size∨y=w1.heap.size+1∨y=w1.heap.size+1+1)→(z=w1.heap.size∨z=w1.heap.size+1∨z=w1.heap.size+1+1)→x≠y→x≠z→y≠z→
  WdSt w w1 ((((w1.alloc (.cells cs 3)).alloc (.cells cs 3)).alloc (.cells cs 3)).alloc (.cells (wkV G x y z n cb) 154)) n l ⟨w1.heap.size+1+1+1,x,y,z,.slice (some ⟨G,0,none⟩) n cb⟩ N G cb w.drew.heap.size:=by
 have hs:w.heap.size≤w1.heap.size:=h.2.2.1.size
 refine wd_perm hcs hn h (Ext.drew _) (Ext.trans (Ext.trans (Ext.alloc _ _) (Ext.alloc _ _)) (Ext.alloc _ _)) (by simp) ⟨((Blk.new _ _ _).alloc _).alloc _,by omega,.inr (by omega)⟩ ⟨(Blk.new_ (by simp)).alloc _,by omega,.inr (by omega)⟩ ⟨Blk.new_ (by simp),by omega,.inr (by omega)⟩
theorem wd_1 (hcs:cs.toList=List.replicate n (.int .i64 0)) (hn:n≤60) (h:BesGot (w.alloc (.cells cs 3)).drew w1 n l G N):∀ (cb x y z:Nat),(x=w.heap.size∨x=w1.heap.size∨x=w1.heap.size+1)→(y=w.heap.size∨y=w1.heap.size∨y=w1.heap.size+1)→(z=w.heap.size∨z=w1.heap.size∨z=w1.heap.size+1)→x≠y→x≠z→y≠z→
  WdSt w w1 (((w1.alloc (.cells cs 3)).alloc (.cells cs 3)).alloc (.cells (wkV G x y z n cb) 154)) n l ⟨w1.heap.size+1+1,x,y,z,.slice (some ⟨G,0,none⟩) n cb⟩ N G cb (w.alloc (.cells cs 3)).drew.heap.size:=by
 have hs:w.heap.size+1≤w1.heap.size:=by have:=h.2.2.1.size;rw [World.size_drew_,World.size_alloc_] at this;exact this
 have hW:(w.alloc (.cells cs 3)).drew.heap.size=w.heap.size+1:=by rw [World.size_drew_,World.size_alloc_]
 refine wd_perm hcs hn h (Ext.trans (Ext.alloc _ _) (Ext.drew _)) (Ext.trans (Ext.alloc _ _) (Ext.alloc _ _)) (by simp) ⟨((blk_on ((Blk.new w 3 cs).drew) h.2.2.1).alloc _).alloc _,by omega,.inl (by omega)⟩ ⟨(Blk.new _ _ _).alloc _,by omega,.inr (by omega)⟩ ⟨Blk.new_ (by simp),by omega,.inr (by omega)⟩
theorem wd_2 (hcs:cs.toList=List.replicate n (.int .i64 0)) (hn:n≤60) (h:BesGot ((w.alloc (.cells cs 3)).alloc (.cells cs 3)).drew w1 n l G N):∀ (cb x y z:Nat),(x=w.heap.size∨x=w.heap.size+1∨x=w1.heap.size)→(y=w.heap.size∨y=w.heap.size+1∨y=w1.heap.size)→(z=w.heap.size∨z=w.heap.size+1∨z=w1.heap.size)→x≠y→x≠z→y≠z→
  WdSt w w1 ((w1.alloc (.cells cs 3)).alloc (.cells (wkV G x y z n cb) 154)) n l ⟨w1.heap.size+1,x,y,z,.slice (some ⟨G,0,none⟩) n cb⟩ N G cb ((w.alloc (.cells cs 3)).alloc (.cells cs 3)).drew.heap.size:=by
 have hW:((w.alloc (.cells cs 3)).alloc (.cells cs 3)).drew.heap.size=w.heap.size+1+1:=by rw [World.size_drew_,World.size_alloc_,World.size_alloc_]
 have hs:w.heap.size+1+1≤w1.heap.size:=by have:=h.2.2.1.size;rw [hW] at this;exact this
 refine wd_perm hcs hn h (Ext.trans (Ext.trans (Ext.alloc _ _) (Ext.alloc _ _)) (Ext.drew _)) (Ext.alloc _ _) (by simp) ⟨(blk_on (((Blk.new w 3 cs).alloc _).drew) h.2.2.1).alloc _,by omega,.inl (by omega)⟩ ⟨(blk_on ((Blk.new_ (by simp)).drew) h.2.2.1).alloc _,by omega,.inl (by omega)⟩ ⟨Blk.new _ _ _,by omega,.inr (by omega)⟩
theorem wd_3 (hcs:cs.toList=List.replicate n (.int .i64 0)) (hn:n≤60) (h:BesGot (((w.alloc (.cells cs 3)).alloc (.cells cs 3)).alloc (.cells cs 3)).drew w1 n l G N):∀ (cb x y z:Nat),(x=w.heap.size∨x=w.heap.size+1∨x=w.heap.size+1+1)→(y=w.heap.size∨y=w.heap.size+1∨y=w.heap.size+1+1)→(z=w.heap.size∨z=w.heap.size+1∨z=w.heap.size+1+1)→x≠y→x≠z→y≠z→
  WdSt w w1 (w1.alloc (.cells (wkV G x y z n cb) 154)) n l ⟨w1.heap.size,x,y,z,.slice (some ⟨G,0,none⟩) n cb⟩ N G cb (((w.alloc (.cells cs 3)).alloc (.cells cs 3)).alloc (.cells cs 3)).drew.heap.size:=by
 have hW:(((w.alloc (.cells cs 3)).alloc (.cells cs 3)).alloc (.cells cs 3)).drew.heap.size=w.heap.size+1+1+1:=by rw [World.size_drew_,World.size_alloc_,World.size_alloc_,World.size_alloc_]
 have hs:w.heap.size+1+1+1≤w1.heap.size:=by have:=h.2.2.1.size;rw [hW] at this;exact this
 refine wd_perm hcs hn h (Ext.trans (Ext.trans (Ext.trans (Ext.alloc _ _) (Ext.alloc _ _)) (Ext.alloc _ _)) (Ext.drew _)) (Ext.refl _) rfl ⟨blk_on ((((Blk.new w 3 cs).alloc _).alloc _).drew) h.2.2.1,by omega,.inl (by omega)⟩ ⟨blk_on (((Blk.new_ (by simp)).alloc _).drew) h.2.2.1,by omega,.inl (by omega)⟩ ⟨blk_on ((Blk.new_ (by simp)).drew) h.2.2.1,by omega,.inl (by omega)⟩
end
noncomputable def wd1:Code:=dFst (dSnd (dBody Tryz.f89))
set_option maxRecDepth 100000 in
theorem wd1_any {w:World} {n m c:Nat} {A:Option Addr} {l:List AK.Ed} (H:Hid (EdsAt w A l)) (HL:Hid (l.length=m)) (HF:Hid (Fine n l)) (hn0:0 < n) (hn:n≤60) (F:Func) (K:Act→World→Prop) (Post:Ending→World→Prop) {u2 u3 u4 u5 u6 u7 u8 u9 u10 u11 u12 u13 u14 u15 u16 u17 u18 u19 u20 u21 u22 u23 u24 u25 u26 u27 u28 u29 u30 u31 u32 u33 u34 u35 u36:Value}
  (hK:∀ (v7 v8 v9 v10 v11 v12 v13 v14 v15 v16 v17:Value) (w0 wr:World) (kk:Wkr) (N:Nat→List Nat) (G cb B:Nat),WdSt w w0 wr n l kk N G cb B→(Exit.then K (bodyPost Tryz.prog F Post)) .normal ⟨List.toArray (.int .i64 (n:Int)::.slice A m c::u2::u3::u4::.pointer (some ⟨kk.W,0,none⟩)::u6::v7::v8::v9::v10::v11::v12::v13::v14::v15::v16::v17::u18::u19::u20::u21::u22::u23::u24::u25::u26::u27::u28::u29::u30::u31::u32::u33::u34::u35::u36::[]),[]⟩ wr):
  Code.wp Tryz.prog wd1 (Exit.then K (bodyPost Tryz.prog F Post)) ⟨List.toArray (.int .i64 (n:Int)::.slice A m c::u2::u3::u4::u5::u6::u7::u8::u9::u10::u11::u12::u13::u14::u15::u16::u17::u18::u19::u20::u21::u22::u23::u24::u25::u26::u27::u28::u29::u30::u31::u32::u33::u34::u35::u36::[]),[]⟩ w:=by
 obtain ⟨cs,hcs,hmk⟩:=run_ints n (by omega)
 have HK:=Lib.hid hK
 have HCS:=Lib.hid hcs
 clear hK hcs
 simp only [wd1,dBody,dFst,dSnd,Tryz.f89]
 go_region_law (first
  | (refine step_callW (by rfl) 84 #[.tmp 7,.tmp 8] #[3,47] (by rfl) #[.int .i64 (n:Int),.slice A m c] (by kernel_rfl) (callsBeside _ _) (beside_in _ n A m c l HL.out (H.out.ext (show Ext w _ from by repeat (first | exact Ext.refl _ | refine Ext.trans ?_ (Ext.alloc _ _) | refine Ext.trans ?_ (Ext.drew _)))) HF.out hn0 hn) ?_;rintro e w1 ⟨G,cb,N,rfl,hb1,hb2,_,hb3,hb4⟩;refine ⟨_,rfl,?_⟩;have HG:=Lib.hid (show BesGot _ w1 n l G N from ⟨hb1,hb2,hb3,hb4⟩);clear hb1 hb2 hb3 hb4))
 all_goals
  refine HK.out _ _ _ _ _ _ _ _ _ _ _ w1 _ ⟨_,?_,?_,?_,?_⟩ N G cb ?_ ?_
  rotate_left 5
  first
  | refine wd_0 HCS.out hn HG.out cb _ _ _ ?_ ?_ ?_ ?_ ?_ ?_
  | refine wd_1 HCS.out hn HG.out cb _ _ _ ?_ ?_ ?_ ?_ ?_ ?_
  | refine wd_2 HCS.out hn HG.out cb _ _ _ ?_ ?_ ?_ ?_ ?_ ?_
  | refine wd_3 HCS.out hn HG.out cb _ _ _ ?_ ?_ ?_ ?_ ?_ ?_
 all_goals
  have hz:=HG.out.2.2.1.size
  simp only [World.size_drew_,World.size_alloc_] at hz
  omega
theorem fine_loop {n:Nat} {l:List AK.Ed} (hf:Fine n l) (u:Nat):¬ PD.adj l u u:=by
 intro h
 have:∀ x∈l,0≤x.1∧x.1 < x.2∧x.2 < n:=fun x hx=>by
  obtain ⟨i,hi⟩:=List.getElem?_of_mem hx
  exact hf.2 i x hi
 rcases h with h | h <;> (have:=this _ h;simp only at this;omega)
theorem fine_in {n:Nat} {l:List AK.Ed} (hf:Fine n l) (u v:Nat) (h:PD.adj l u v):v < n:=by
 have:∀ x∈l,0≤x.1∧x.1 < x.2∧x.2 < n:=fun x hx=>by
  obtain ⟨i,hi⟩:=List.getElem?_of_mem hx
  exact hf.2 i x hi
 rcases h with h | h <;> (have:=this _ h;simp only at this;omega)
def WdPost (w:World) (n:Nat) (l:List AK.Ed) (e:Ending) (w':World):Prop:=∃ (k:Wkr) (vE vJ:Value) (w0:World) (N:Nat→List Nat),e=.returned (.pointer (some ⟨k.W,0,none⟩))∧DF.Bes n l N∧WkAt w0 n k vE vJ (DF.walked N n n) w'∧Ext w w0∧(∀ j,k.S j→w.heap.size≤j)
set_option maxRecDepth 100000 in
theorem walked_any (w:World) (n:Nat) (A:Option Addr) (m c:Nat) (l:List AK.Ed) (hl:l.length=m) (h:EdsAt w A l) (hf:Fine n l) (hn0:0 < n) (hn:n≤60):
  Calls Tryz.prog 89 #[.int .i64 (n:Int),.slice A m c] w (WdPost w n l):=by
 have H:=Lib.hid h
 have HL:=Lib.hid hl
 have HF:=Lib.hid hf
 clear h hl hf
 go_enter Tryz.func89,Tryz.ntmps89
 go_upto_region 1 with fail
 refine wd1_any H HL HF hn0 hn _ _ _ ?_
 intro v7 v8 v9 v10 v11 v12 v13 v14 v15 v16 v17 w0 w1 kk N G cb B hst
 have HST:=Lib.hid hst
 have HW0:Hid (∃ vE vJ,WkAt w0 n kk vE vJ (DF.walked N n 0) w1):=⟨_,_,hst.at_⟩
 clear hst
 go_wp2
 go_loopw [19] (fun v wr=>∃ i:Nat,i≤n∧v=.int .i64 i∧Hid (∃ vE vJ,WkAt w0 n kk vE vJ (DF.walked N n i) wr)) (fun v _=>n - (intOf v).toNat)
 case atStart=>exact ⟨0,by omega,rfl,HW0.out⟩
 case round=>
  obtain ⟨i,hi,rfl,hR⟩:=hrel
  clear HW0
  by_cases hin:i < n
  ·have hin':(i:Int) < (n:Int):=by omega
   have hi0:(0:Int)≤(i:Int):=by omega
   obtain ⟨vE,vJ,hW⟩:=hR.out
   have hal:=DF.walked_all (l:=l) HST.out.of_ (fine_loop HF.out) (fine_in HF.out) i (by omega)
   have hbd:=DF.walked_bd (l:=l) HST.out.of_ (fine_loop HF.out) (fine_in HF.out) i (by omega)
   obtain ⟨s,hs⟩:∃ s,s=DF.walked N n i:=⟨_,rfl⟩
   have hs1:DF.walked N n (i+1)=if PD.g s.wh i=0 then DF.visit N i n i i s else s:=by rw [hs];rfl
   rw [←hs] at hal hbd hW
   have c1:wr.cell? ⟨kk.W,1,none⟩=some (.slice (some ⟨kk.gw,0,none⟩) n n):=hW.blk.cell 1
   obtain ⟨r1,g1⟩:=int_cell hW.wh hal.wl hin
   by_cases h0:PD.g s.wh i=0
   ·have h0':(PD.g s.wh i == 0)=true:=by simpa using h0
    have hv:¬ DF.V s i:=by unfold DF.V;omega
    have HC:=Lib.hid (walkB_any w0 n G cb l N kk HST.out.vB HST.out.bes B HST.out.inn HST.out.S HST.out.of_ (fine_loop HF.out) (fine_in HF.out) hn i n i i 0 0 s vE vJ wr (hal.pre hin hv) (PD.cnt_le _ _) hbd hW)
    have HS1:Hid (DF.walked N n (i+1)=DF.visit N i n i i s):=by rw [Hid,hs1,if_pos h0]
    clear hal hbd hW hs hs1 hv hR
    go_wp2_with fail
    refine HC.out.mono ?_
    rintro e w2 ⟨rfl,vE2,vJ2,hw2⟩
    have HN:Hid (∃ vE vJ,WkAt w0 n kk vE vJ (DF.walked N n (i+1)) w2):=⟨_,_,by rw [HS1.out];exact hw2⟩
    clear hw2 HC HS1
    go_wp2
    go_roundw
    case rel=>exact ⟨i+1,by omega,by go_num,HN.out⟩
    case measure=>simp [intOf];omega
   ·have h0':(PD.g s.wh i == 0)=false:=by simpa using h0
    have HN:Hid (∃ vE vJ,WkAt w0 n kk vE vJ (DF.walked N n (i+1)) wr):=⟨_,_,by rw [hs1,if_neg h0];exact hW⟩
    clear hal hbd hW hs hs1 hR
    go_wp2
    go_roundw
    case rel=>exact ⟨i+1,by omega,by go_num,HN.out⟩
    case measure=>simp [intOf];omega
  ·have e:i=n:=by omega
   subst e
   have HP:Hid (WdPost w i l (.returned (.pointer (some ⟨kk.W,0,none⟩))) wr):=by
    obtain ⟨vE,vJ,hW⟩:=hR.out
    exact ⟨kk,vE,vJ,w0,N,rfl,HST.out.of_,hW,HST.out.ext,HST.out.sS⟩
   clear hR HST
   go_wp2
   go_ret
   exact HP.out
open Go.Shelf Go.Sort Go.Lib
def cfPb (x y:Pr):Int:=((x.1.val:Int) - (y.1.val:Int)) * 60+(x.2.val:Int) - (y.2.val:Int)
theorem ltPb (x y:Pr):ltOf cfPb x y=decide (kyP x < kyP y):=by
 unfold ltOf cfPb kyP
 congr 1
 apply propext
 omega
theorem swoPb:SWO (ltOf cfPb) where
 irrefl x:=by rw [ltPb];simp
 trans x y z h1 h2:=by rw [ltPb] at *;simp at *;omega
 ntrans x y z h1 h2:=by rw [ltPb] at *;simp at *;omega
theorem totPb (x y:Pr) (h1:ltOf cfPb x y=false) (h2:ltOf cfPb y x=false):x=y:=by
 rw [ltPb] at h1 h2
 obtain ⟨a,b⟩:=x
 obtain ⟨c,d⟩:=y
 have:=a.isLt;have:=b.isLt;have:=c.isLt;have:=d.isLt
 have h1:¬ ((a.val:Int) * 60+(b.val:Int) < (c.val:Int) * 60+(d.val:Int)):=of_decide_eq_false h1
 have h2:¬ ((c.val:Int) * 60+(d.val:Int) < (a.val:Int) * 60+(b.val:Int)):=of_decide_eq_false h2
 have e1:a=c:=Fin.ext (by omega)
 have e2:b=d:=Fin.ext (by omega)
 rw [e1,e2]
theorem unpb_sort (d:List Pr):(d.mergeSort fun x y=>!(ltOf cfPb) y x).map unp=sortedE (d.map unp):=by
 unfold sortedE
 refine List.map_mergeSort fun a _ b _=>?_
 rw [ltPb]
 show (!decide (kyP b < kyP a))=decide (¬ (kyP b < kyP a))
 rw [decide_not]
theorem cmpb_any (x1 x2 y1 y2:Int) (h1:0≤x1∧x1 < 60) (h2:0≤x2∧x2 < 60) (h3:0≤y1∧y1 < 60) (h4:0≤y2∧y2 < 60) (W:World):
  Calls Tryz.prog 91 #[.agg #[.int .i64 x1,.int .i64 x2],.agg #[.int .i64 y1,.int .i64 y2]] W fun e w'=>e=.returned (.int .i64 ((x1 - y1) * 60+x2 - y2))∧∃ q os',w'=grow (W.drewN q) os':=by
 have e1:IntKind.i64.wrap (x1 - y1)=x1 - y1:=IntWalk.i64_in _ (by omega)
 have e2:IntKind.i64.wrap ((x1 - y1) * 60)=(x1 - y1) * 60:=IntWalk.i64_in _ (by omega)
 have e3:IntKind.i64.wrap ((x1 - y1) * 60+x2)=(x1 - y1) * 60+x2:=IntWalk.i64_in _ (by omega)
 have e4:IntKind.i64.wrap ((x1 - y1) * 60+x2 - y2)=(x1 - y1) * 60+x2 - y2:=IntWalk.i64_in _ (by omega)
 go_enter Tryz.func91,Tryz.ntmps91
 go_wp2
 go_ret
 exact ⟨rfl,0,_,by rw [alloc_eq_grow,alloc_eq_grow,grow_grow];rfl⟩
theorem cmpLaysPb (blk off size:Nat) (w:World):CmpLays Tryz.prog 91 #[] encP 2 cfPb blk off size w:=
 fun _ _ _ _ x y=>cmpb_any (x.1.val:Int) (x.2.val:Int) (y.1.val:Int) (y.2.val:Int) (by have:=x.1.isLt;omega) (by have:=x.2.isLt;omega) (by have:=y.1.isLt;omega) (by have:=y.2.isLt;omega) _
theorem sortEb_any (w:World) (v:Value) (l:List AK.Ed) (hf:∀ x∈l,0≤x.1∧x.1 < 60∧0≤x.2∧x.2 < 60) (hn:l.length≤100000) (h:DRow w v l):
  Calls Tryz.prog 90 #[v,.func (.func 91) #[] #[]] w fun e w'=>e=.returned (.tuple #[])∧DRow w' v (sortedE l)∧Chg (fun k=>v.ownBlock=some k) w w':=by
 obtain ⟨d,rfl⟩:=pairs_of hf
 unfold DRow at h ⊢
 rcases h.2 with ⟨rfl,h0⟩ | ⟨g,c,cur,rfl,hbase,hb,h1,h2,h3,h4⟩
 ·have hz:d=[]:=List.eq_nil_of_length_eq_zero (by simpa using h0)
  subst hz
  refine (AnyF.slices_SortFunc_none laysSf none 0 _ w).mono ?_
  rintro e w' ⟨rfl,rfl⟩
  exact ⟨rfl,by simpa [sortedE] using h,Chg.refl _ _⟩
 ·have hlt:g < w.heap.size:=(Array.getElem?_eq_some_iff.1 hb).1
  have hsz:(rowsOf edC (d.map unp)).length=(d.map unp).length * 2:=h.1
  have hH:HoldsK encP 2 w g 0 d.toArray:=by
   unfold HoldsK
   rw [flat_rows]
   exact holds_own hb (by rw [hsz];exact h4)
  have eg:∀ args w,(callFunc 91 args).run Tryz.prog w=.ok (.enter 91 args) w:=enters_of Tryz.func91 (by kernel_rfl) rfl
  have hds:d.toArray.size=(d.map unp).length:=by simp
  have hsm:d.toArray.size < 4611686018427387904:=by rw [hds];omega
  have hcon:=AnyQ.slices_SortFunc_total laysSf 2 Tryz.isAgg93 Tryz.sizeOf93 encP (fun _=>rfl) (fun x v hv=>by simp [encP,edC] at hv;rcases hv with rfl | rfl <;> rfl) cfPb swoPb 91 #[] g 0 c d.toArray w eg (cmpLaysPb g 0 _ w) hH hlt hsm totPb
  rw [hds] at hcon
  refine Calls.mono hcon ?_
  rintro e w' ⟨rfl,n,os,rfl⟩
  unfold sortWorldK putRowK
  rw [List.toList_toArray,flat_rows,unpb_sort]
  have hrl:(rowsOf edC (sortedE (d.map unp))).length=(rowsOf edC (d.map unp)).length:=by
   rw [rowsOf_len (f:=edC) (S:=2) (fun a _=>edC_len a),rowsOf_len (f:=edC) (S:=2) (fun a _=>edC_len a),sortedE_length]
  refine ⟨rfl,⟨by rw [hrl,hsz,sortedE_length],.inr ⟨g,c,_,by rw [sortedE_length],hbase,heap_laid _ hb,by rw [sortedE_length];exact h1,h2,by simp [putCells,h3],?_⟩⟩,(Chg.of_grown (grown_laid _)).mono (fun k _ hk=>by simp [Value.ownBlock];injection hk with hk;exact hk.symm)⟩
  rw [sortedE_length,←hsz,←hrl]
  refine take_laid cur _ ?_
  rw [hrl,hsz,h3]
  exact Nat.mul_le_mul_right _ h1
end Go.Proofs.YtkoajpeabicpdaaGreatDoor
namespace Go.Proofs.YtkoajpeabicpdaaGreatDoor
open Go
open Go.RowKit
def BrsOf (n:Nat) (l x:List AK.Ed):Prop:=DF.Brs l x∧x.Pairwise ltE∧∀ e∈x,0≤e.1∧e.1 < e.2∧e.2 < (n:Int)
theorem errOf_z:errOf 0=.nilIface:=rfl
theorem errOf_n {x:Int} (h:x≠0):errOf x=.iface 52 (.int .i64 x):=by simp [errOf,h]
def BrPost (w:World) (n:Int) (l:List AK.Ed) (e:Ending) (w':World):Prop:=Ext w w'∧(((edgF n l).2≠0∧e=.returned (.tuple #[.slice none 0 0,errOf (edgF n l).2]))∨((edgF n l).2=0∧∃ (k:Nat) (A:Option Addr) (c:Nat) (x:List AK.Ed),n=(k:Int)∧e=.returned (.tuple #[.slice A x.length c,.nilIface])∧EdsAt w' A x∧x.length≤c∧x.length≤60∧BrsOf k l x))
theorem fine_ok {n:Int} {l:List AK.Ed} (h:(edgF n l).2=0):∃ k:Nat,n=(k:Int)∧0 < k∧k≤60∧Fine k l:=by
 obtain ⟨h1,h2,h3,h4,_⟩:=edgF_iff.1 h
 obtain ⟨k,rfl⟩:=Int.eq_ofNat_of_zero_le (show 0≤n by omega)
 exact ⟨k,rfl,by omega,by omega,h3,fun i x hx=>h4 x (List.mem_of_getElem? hx)⟩
theorem WdPost.ext {w w':World} {k:Wkr} {vE vJ:Value} {w0:World} {n:Nat} {s:DF.Wk} (h:WkAt w0 n k vE vJ s w') (hx:Ext w w0) (hS:∀ j,k.S j→w.heap.size≤j):Ext w w':=
 ((Chg.of_below hx).trans h.chg (fun i _ hi=>hS i hi)).below (Nat.le_refl _) (fun _ _ h=>h)
theorem ek_fine {n c d:Nat} {l:List AK.Ed} (hf:Fine n l) (h:PD.adj l c d):0≤(DF.ek c d).1∧(DF.ek c d).1 < (DF.ek c d).2∧(DF.ek c d).2 < (n:Int):=by
 have h1:=fine_in hf _ _ h
 have h2:=fine_in hf _ _ (PD.adj_symm h)
 have h3:c≠d:=fun e=>fine_loop hf d (e ▸ h)
 unfold DF.ek
 simp only
 omega
theorem ltE_of_key {n:Nat} {x y:AK.Ed} (hn:n≤60) (hx:0≤x.1∧x.1 < x.2∧x.2 < (n:Int)) (hy:0≤y.1∧y.1 < y.2∧y.2 < (n:Int)) (h:x.1 * 60+x.2≤y.1 * 60+y.2) (hne:x≠y):ltE x y:=by
 obtain ⟨a,b⟩:=x
 obtain ⟨c,d⟩:=y
 unfold ltE
 simp only [ne_eq,Prod.mk.injEq] at *
 omega
def NewSl (w:World) (e:Ending):Prop:=∀ A m c v,e=.returned (.tuple #[.slice (some A) m c,v])→w.heap.size≤A.block
theorem newSl_own {w:World} {v x:Value} (h:∀ k,v.ownBlock=some k→w.heap.size≤k):NewSl w (.returned (.tuple #[v,x])):=fun A m c u he=>by
 simp only [Ending.returned.injEq,Value.tuple.injEq,Array.mk.injEq,List.cons.injEq] at he
 exact h _ (by rw [he.1];rfl)
theorem newSl_none {w:World} {x:Value}:NewSl w (.returned (.tuple #[.slice none 0 0,x])):=newSl_own (fun k hk=>by simp [Value.ownBlock] at hk)
theorem brs_sorted {n:Nat} {l:List AK.Ed} {s:DF.Wk} (hf:Fine n l) (hn:n≤60) (h:DF.All n l n s):BrsOf n l (sortedE s.ed):=by
 have hb:=(h.brs (fine_in hf)).perm (y:=sortedE s.ed) (fun e=>sortedE_mem)
 have hall:∀ e∈sortedE s.ed,0≤e.1∧e.1 < e.2∧e.2 < (n:Int):=fun e he=>by
  obtain ⟨c,d,rfl,hadj⟩:=hb.edm e he
  exact ek_fine hf hadj
 refine ⟨hb,?_,hall⟩
 have h1:=sortedE_rises s.ed
 have h2:(sortedE s.ed).Pairwise (·≠·):=sortedE_nodup h.edn
 exact List.Pairwise.imp_of_mem (fun {x y} hx hy q=>ltE_of_key hn (hall x hx) (hall y hy) q.1 q.2) (h1.and h2)
set_option maxRecDepth 100000 in
theorem bridges_new (w:World) (n:Int) (A:Option Addr) (m c:Nat) (l:List AK.Ed) (hl:l.length=m) (hlm:m≤9223372036854775807) (h:EdsAt w A l):
  Calls Tryz.prog 39 #[.int .i64 n,.slice A m c] w fun e w'=>BrPost w n l e w'∧NewSl w e:=by
 have H:=Lib.hid h
 have HL:=Lib.hid hl
 clear h hl
 go_enter Tryz.func39,Tryz.ntmps39
 go_wp2_with fail
 refine (check_any w n A m c l HL.out hlm H.out).mono ?_
 rintro e w1 ⟨rfl,hx1⟩
 have HX1:=Lib.hid hx1
 clear hx1
 by_cases h0:(edgF n l).2=0
 ·obtain ⟨k,rfl,hk0,hk60,hf⟩:=fine_ok h0
  have HF:=Lib.hid hf
  have H0:=Lib.hid h0
  rw [h0,errOf_z]
  clear hf h0
  go_wp2_with fail
  refine (walked_any w1 k A m c l HL.out (H.out.ext HX1.out) HF.out hk0 hk60).mono ?_
  rintro e w2 ⟨kk,vE,vJ,w0,N,rfl,hb,hat,hx,hS⟩
  have HX2:Hid (Ext w w2):=Ext.trans HX1.out (WdPost.ext hat hx hS)
  have hal:=DF.walked_all hb (fine_loop HF.out) (fine_in HF.out) k (Nat.le_refl _)
  have hbd:=DF.walked_bd hb (fine_loop HF.out) (fine_in HF.out) k (Nat.le_refl _)
  obtain ⟨s,hs⟩:∃ s,s=DF.walked N k k:=⟨_,rfl⟩
  rw [←hs] at hat hal hbd
  have HBR:=Lib.hid (brs_sorted HF.out hk60 hal)
  have hlen:s.ed.length≤60:=by have:=hbd.ed;have:=hbd.un;omega
  have c5:w2.cell? ⟨kk.W,5,none⟩=some vE:=hat.blk.cell 5
  have hed:=Lib.hid hat.ed
  have hnE:Hid (∀ x,vE.ownBlock=some x→w.heap.size≤x):=fun x hx'=>by have:=hat.nE x hx';have:=(Ext.trans HX1.out hx).size;omega
  have hall:Hid (∀ x∈s.ed,0≤x.1∧x.1 < 60∧0≤x.2∧x.2 < 60):=fun x hx'=>by
   have:=HBR.out.2.2 x (sortedE_mem.2 hx')
   omega
  have HLEN:Hid ((sortedE s.ed).length≤60):=by rw [Hid,sortedE_length];exact hlen
  clear hat hal hbd hs hx hS hb
  go_wp2_with fail
  refine (sortEb_any w2 vE s.ed hall.out (by omega) hed.out).mono ?_
  rintro e w3 ⟨rfl,hd,hc⟩
  have HX3:Hid (Ext w w3):=((Chg.of_below HX2.out).trans hc (fun i _ hi=>hnE.out i hi)).below (Nat.le_refl _) (fun _ _ h=>h)
  have HP:Hid (BrPost w k l (.returned (.tuple #[vE,.nilIface])) w3∧NewSl w (.returned (.tuple #[vE,.nilIface]))):=by
   refine ⟨?_,newSl_own hnE.out⟩
   unfold DRow at hd
   obtain ⟨A',c',rfl,hc'⟩:=own_slice3 hd
   exact ⟨HX3.out,.inr ⟨H0.out,k,A',c',sortedE s.ed,rfl,rfl,(DRow.eds hd rfl).1,hc',HLEN.out,HBR.out⟩⟩
  clear hd hc c5 hed hnE hall
  go_wp2
  go_ret2
  exact HP.out
 ·have HP:Hid (BrPost w n l (.returned (.tuple #[.slice none 0 0,errOf (edgF n l).2])) w1∧NewSl w (.returned (.tuple #[.slice none 0 0,errOf (edgF n l).2]))):=⟨⟨HX1.out,.inl ⟨h0,rfl⟩⟩,newSl_none⟩
  rw [errOf_n h0] at HP ⊢
  clear h0
  go_wp2
  go_ret2
  exact HP.out
theorem bridges_any (w:World) (n:Int) (A:Option Addr) (m c:Nat) (l:List AK.Ed) (hl:l.length=m) (hlm:m≤9223372036854775807) (h:EdsAt w A l):
  Calls Tryz.prog 39 #[.int .i64 n,.slice A m c] w (BrPost w n l):=(bridges_new w n A m c l hl hlm h).mono fun _ _ q=>q.1
def JtsOf (n:Nat) (l:List AK.Ed) (js:List Int):Prop:=js.Pairwise (fun x y=>x < y)∧∀ x:Int,x∈js↔∃ c:Nat,x=(c:Int)∧c < n∧DF.Jt l c
def JoPost (w:World) (n:Int) (l:List AK.Ed) (e:Ending) (w':World):Prop:=Ext w w'∧(((edgF n l).2≠0∧e=.returned (.tuple #[.slice none 0 0,errOf (edgF n l).2]))∨((edgF n l).2=0∧∃ (k:Nat) (A:Option Addr) (c:Nat) (x:List Int),n=(k:Int)∧e=.returned (.tuple #[.slice A x.length c,.nilIface])∧IntsAt w' A x∧x.length≤c∧x.length≤60∧JtsOf k l x))
theorem natsV_intsV (q:List Nat):natsV q=intsV (q.map fun (x:Nat)=>(x:Int)):=by simp [natsV,intsV]
theorem jts_sorted {n:Nat} {l:List AK.Ed} {s:DF.Wk} (h:DF.All n l n s) (hj:DF.AllJ l s) (hin:∀ u v,PD.adj l u v→v < n):JtsOf n l (sorted (s.jo.map fun (x:Nat)=>(x:Int))):=by
 refine ⟨?_,fun x=>?_⟩
 ·have h1:=sorted_rises (s.jo.map fun (x:Nat)=>(x:Int))
  have h2:(sorted (s.jo.map fun (x:Nat)=>(x:Int))).Pairwise (·≠·):=by
   have:(s.jo.map fun (x:Nat)=>(x:Int)).Nodup:=by
    refine List.Pairwise.map _ (fun a b hab=>?_) hj.nd
    intro e;exact hab (by omega)
   exact (List.mergeSort_perm _ _).nodup_iff.2 this
  exact (h1.and h2).imp fun q=>by omega
 ·rw [sorted_mem,List.mem_map]
  constructor
  ·rintro ⟨c,hc,rfl⟩
   have hv:=hj.jm c hc
   exact ⟨c,rfl,DF.V.lt h.wl hv,(hj.jj c hv).1 hc⟩
  ·rintro ⟨c,rfl,hc,hJ⟩
   exact ⟨c,(hj.jj c (h.all c hc hc)).2 hJ,rfl⟩
set_option maxRecDepth 100000 in
theorem joints_new (w:World) (n:Int) (A:Option Addr) (m c:Nat) (l:List AK.Ed) (hl:l.length=m) (hlm:m≤9223372036854775807) (h:EdsAt w A l):
  Calls Tryz.prog 42 #[.int .i64 n,.slice A m c] w fun e w'=>JoPost w n l e w'∧NewSl w e:=by
 have H:=Lib.hid h
 have HL:=Lib.hid hl
 clear h hl
 go_enter Tryz.func42,Tryz.ntmps42
 go_wp2_with fail
 refine (check_any w n A m c l HL.out hlm H.out).mono ?_
 rintro e w1 ⟨rfl,hx1⟩
 have HX1:=Lib.hid hx1
 clear hx1
 by_cases h0:(edgF n l).2=0
 ·obtain ⟨k,rfl,hk0,hk60,hf⟩:=fine_ok h0
  have HF:=Lib.hid hf
  have H0:=Lib.hid h0
  rw [h0,errOf_z]
  clear hf h0
  go_wp2_with fail
  refine (walked_any w1 k A m c l HL.out (H.out.ext HX1.out) HF.out hk0 hk60).mono ?_
  rintro e w2 ⟨kk,vE,vJ,w0,N,rfl,hb,hat,hx,hS⟩
  have HX2:Hid (Ext w w2):=Ext.trans HX1.out (WdPost.ext hat hx hS)
  have hal:=DF.walked_all hb (fine_loop HF.out) (fine_in HF.out) k (Nat.le_refl _)
  have hbd:=DF.walked_bd hb (fine_loop HF.out) (fine_in HF.out) k (Nat.le_refl _)
  have hjo:=DF.walked_jo hb (fine_loop HF.out) (fine_in HF.out) k (Nat.le_refl _)
  obtain ⟨s,hs⟩:∃ s,s=DF.walked N k k:=⟨_,rfl⟩
  rw [←hs] at hat hal hbd hjo
  have HJT:=Lib.hid (jts_sorted hal hjo (fine_in HF.out))
  have hlen:s.jo.length≤60:=by have:=hbd.jo;have:=hbd.un;omega
  have c6:w2.cell? ⟨kk.W,6,none⟩=some vJ:=hat.blk.cell 6
  have hjo2:=hat.jo
  rw [natsV_intsV] at hjo2
  have HJO:=Lib.hid hjo2
  have hnE:Hid (∀ x,vJ.ownBlock=some x→w.heap.size≤x):=fun x hx'=>by have:=hat.nJ x hx';have:=(Ext.trans HX1.out hx).size;omega
  have HLEN:Hid ((sorted (s.jo.map fun (x:Nat)=>(x:Int))).length=s.jo.length):=by rw [Hid,sorted_length,List.length_map]
  clear hat hal hbd hs hx hS hb hjo hjo2
  go_wp2_with fail
  refine (sort_any w2 vJ s.jo.length _ HJO.out (by omega)).mono ?_
  rintro e w3 ⟨rfl,hd,hc⟩
  have HX3:Hid (Ext w w3):=((Chg.of_below HX2.out).trans hc (fun i _ hi=>hnE.out i hi)).below (Nat.le_refl _) (fun _ _ h=>h)
  have HP:Hid (JoPost w k l (.returned (.tuple #[vJ,.nilIface])) w3∧NewSl w (.returned (.tuple #[vJ,.nilIface]))):=by
   refine ⟨?_,newSl_own hnE.out⟩
   obtain ⟨A',c',rfl,hc'⟩:=own_slice3 hd
   refine ⟨HX3.out,.inr ⟨H0.out,k,A',c',sorted (s.jo.map fun (x:Nat)=>(x:Int)),rfl,?_,(IntsAt.of_own hd).1,?_,?_,HJT.out⟩⟩
   ·rw [HLEN.out]
   ·rw [HLEN.out];exact hc'
   ·rw [HLEN.out];exact hlen
  clear hd hc c6 hnE
  go_wp2
  go_ret2
  exact HP.out
 ·have HP:Hid (JoPost w n l (.returned (.tuple #[.slice none 0 0,errOf (edgF n l).2])) w1∧NewSl w (.returned (.tuple #[.slice none 0 0,errOf (edgF n l).2]))):=⟨⟨HX1.out,.inl ⟨h0,rfl⟩⟩,newSl_none⟩
  rw [errOf_n h0] at HP ⊢
  clear h0
  go_wp2
  go_ret2
  exact HP.out
theorem joints_any (w:World) (n:Int) (A:Option Addr) (m c:Nat) (l:List AK.Ed) (hl:l.length=m) (hlm:m≤9223372036854775807) (h:EdsAt w A l):
  Calls Tryz.prog 42 #[.int .i64 n,.slice A m c] w (JoPost w n l):=(joints_new w n A m c l hl hlm h).mono fun _ _ q=>q.1
structure GwE (w:World) (d:List AK.Ed) (vO:Value) (wr:World):Prop where
 row:DRow wr vO d
 ext:Ext w wr
 new:∀ j,vO.ownBlock=some j→w.heap.size≤j
structure GwI (w:World) (d:List Int) (vO:Value) (wr:World):Prop where
 row:wr.ownsRow 0 3 1 vO d.length (intsV d)
 ext:Ext w wr
 new:∀ j,vO.ownBlock=some j→w.heap.size≤j
theorem snoc_len' {α:Type} (d:List α) (x:α):(d++[x]).length=d.length+1:=by rw [List.length_append];rfl
section
variable {w wr w':World} {d:List AK.Ed} {x:AK.Ed} {di:List Int} {y:Int} {vO:Value} {g c:Nat}
theorem GwE.nil (h:Ext w wr):GwE w [] (.slice none 0 0) wr:=⟨World.ownsRow_nil _ _ _ _,h,fun j hj=>by simp [Value.ownBlock] at hj⟩
theorem GwI.nil (h:Ext w wr):GwI w [] (.slice none 0 0) wr:=⟨World.ownsRow_nil _ _ _ _,h,fun j hj=>by simp [Value.ownBlock] at hj⟩
theorem GwE.moved (h:GwE w d vO wr) (hx:Ext wr w'):GwE w d vO w':=
 ⟨own_chg h.row (Chg.of_below hx) (fun k hk=>by have:=own_lt h.row hk;omega),Ext.trans h.ext hx,h.new⟩
theorem GwI.moved (h:GwI w di vO wr) (hx:Ext wr w'):GwI w di vO w':=
 ⟨own_chg h.row (Chg.of_below hx) (fun k hk=>by have:=own_lt h.row hk;omega),Ext.trans h.ext hx,h.new⟩
theorem GwE.push (h:GwE w d vO wr) (ho:w'.ownsRow 0 93 2 (.slice (some ⟨g,0,none⟩) (d.length+1) c) (d.length+1) (rowsOf edC d++edC x)) (hc:Chg (fun k=>vO.ownBlock=some k) wr w') (hat:vO.ownBlock=some g∨g=wr.heap.size):GwE w (d++[x]) (.slice (some ⟨g,0,none⟩) (d.length+1) c) w':=by
 refine ⟨?_,((Chg.of_below h.ext).trans hc (fun k _ hk=>h.new k hk)).below (Nat.le_refl _) (fun _ _ h=>h),fun j hj=>?_⟩
 ·unfold DRow
  rw [List.length_append,List.length_singleton,rowsOf_app]
  have:rowsOf edC [x]=edC x:=by simp [rowsOf]
  rw [this];exact ho
 ·simp [Value.ownBlock] at hj
  subst hj
  rcases hat with q | q
  ·exact h.new _ q
  ·have:=h.ext.size;omega
theorem GwI.push (h:GwI w di vO wr) (ho:w'.ownsRow 0 3 1 (.slice (some ⟨g,0,none⟩) (di.length+1) c) (di.length+1) (intsV di++[.int .i64 y])) (hc:Chg (fun k=>vO.ownBlock=some k) wr w') (hat:vO.ownBlock=some g∨g=wr.heap.size):GwI w (di++[y]) (.slice (some ⟨g,0,none⟩) (di.length+1) c) w':=by
 refine ⟨?_,((Chg.of_below h.ext).trans hc (fun k _ hk=>h.new k hk)).below (Nat.le_refl _) (fun _ _ h=>h),fun j hj=>?_⟩
 ·rw [List.length_append,List.length_singleton]
  have:intsV (di++[y])=intsV di++[.int .i64 y]:=by simp [intsV]
  rw [this];exact ho
 ·simp [Value.ownBlock] at hj
  subst hj
  rcases hat with q | q
  ·exact h.new _ q
  ·have:=h.ext.size;omega
theorem GwE.eds (h:GwE w d vO wr):∃ A c,vO=.slice A d.length c∧EdsAt wr A d∧d.length≤c∧c≤maxLen:=by
 have h3:=h.row
 unfold DRow at h3
 obtain ⟨A,c,rfl,hc⟩:=own_slice3 h3
 exact ⟨A,c,rfl,(DRow.eds h.row rfl).1,hc,own_capmax h3⟩
theorem GwI.ints (h:GwI w di vO wr):∃ A c,vO=.slice A di.length c∧IntsAt wr A di∧di.length≤c∧c≤maxLen:=by
 obtain ⟨A,c,rfl,hc⟩:=own_slice3 h.row
 exact ⟨A,c,rfl,(IntsAt.of_own h.row).1,hc,own_capmax h.row⟩
end
open PT
theorem inn_fine {n:Nat} {l:List AK.Ed} (h:∀ x∈l,0≤x.1∧x.1 < x.2∧x.2 < (n:Int)):Inn n l:=fun x hx=>by have:=h x hx;omega
theorem prs_iff {n:Nat} {l:List AK.Ed} (h:Inn n l) (x y:Nat):PD.adj l x y↔(x,y)∈prs l∨(y,x)∈prs l:=by
 have key:∀ x y:Nat,((x:Int),(y:Int))∈l↔(x,y)∈prs l:=fun x y=>by
  unfold prs
  rw [List.mem_map]
  constructor
  ·intro hm;exact ⟨_,hm,by simp⟩
  ·rintro ⟨⟨a,b⟩,hm,he⟩
   have:=h _ hm
   simp only [Prod.mk.injEq] at he this
   have e1:a=(x:Int):=by omega
   have e2:b=(y:Int):=by omega
   rw [←e1,←e2];exact hm
 unfold PD.adj
 rw [key,key]
theorem erase_mn {n:Nat} {l:List AK.Ed} (h:∀ x∈l,0≤x.1∧x.1 < x.2∧x.2 < (n:Int)) (hp:l.Pairwise ltE) {i u v:Nat} (hi:l[i]?=some ((u:Int),(v:Int))) (x y:Nat):PD.adj (l.eraseIdx i) x y↔DF.Mn (PD.adj l) u v x y:=by
 have hil:i < l.length:=(List.getElem?_eq_some_iff.1 hi).1
 have hnd:l.Nodup:=hp.imp fun {a b} q e=>by subst e;unfold ltE at q;omega
 have key:∀ z:AK.Ed,z∈l.eraseIdx i↔z∈l∧z≠((u:Int),(v:Int)):=fun z=>by
  rw [List.mem_eraseIdx_iff_getElem?]
  constructor
  ·rintro ⟨j,hj,hz⟩
   refine ⟨List.mem_of_getElem? hz,fun e=>?_⟩
   subst e
   obtain ⟨hjl,ej⟩:=List.getElem?_eq_some_iff.1 hz
   obtain ⟨_,ei⟩:=List.getElem?_eq_some_iff.1 hi
   exact hj ((List.getElem_inj hnd).1 (ej.trans ei.symm))
  ·rintro ⟨hz,hne⟩
   obtain ⟨j,hj⟩:=List.getElem?_of_mem hz
   refine ⟨j,fun e=>?_,hj⟩
   subst e
   rw [hi] at hj
   injection hj with hj
   exact hne hj.symm
 unfold DF.Mn PD.adj
 rw [key,key]
 have huv:=h _ (List.mem_of_getElem? hi)
 simp only at huv
 simp only [ne_eq,Prod.mk.injEq]
 constructor
 ·rintro (⟨h1,h2⟩ | ⟨h1,h2⟩)
  ·have:=h _ h1
   simp only at this
   exact ⟨.inl h1,by omega,by omega⟩
  ·have:=h _ h1
   simp only at this
   exact ⟨.inr h1,by omega,by omega⟩
 ·rintro ⟨h1 | h1,h2,h3⟩
  ·exact .inl ⟨h1,by omega⟩
  ·exact .inr ⟨h1,by omega⟩
noncomputable def brP (l:List AK.Ed) (e:AK.Ed):Bool:=by classical exact decide (¬ DF.Go2 l e.1.toNat e.2.toNat)
theorem brP_iff {l:List AK.Ed} {u v:Nat}:brP l ((u:Int),(v:Int))=true↔¬ DF.Go2 l u v:=by
 unfold brP
 simp
theorem brs_filter {n:Nat} {l:List AK.Ed} (h:∀ x∈l,0≤x.1∧x.1 < x.2∧x.2 < (n:Int)) (hp:l.Pairwise ltE):BrsOf n l (l.filter (brP l)):=by
 have nat:∀ x∈l,∃ c d:Nat,x=((c:Int),(d:Int))∧c < d:=fun x hx=>by
  obtain ⟨h1,h2,h3⟩:=h x hx
  obtain ⟨c,hc⟩:=Int.eq_ofNat_of_zero_le h1
  obtain ⟨d,hd⟩:=Int.eq_ofNat_of_zero_le (show 0≤x.2 by omega)
  exact ⟨c,d,Prod.ext hc hd,by omega⟩
 refine ⟨⟨fun e he=>?_,fun c d hadj=>?_⟩,hp.sublist List.filter_sublist,fun e he=>h e (List.mem_filter.1 he).1⟩
 ·obtain ⟨h1,h2⟩:=List.mem_filter.1 he
  obtain ⟨c,d,rfl,hcd⟩:=nat e h1
  refine ⟨c,d,?_,.inl h1⟩
  unfold DF.ek;rw [Nat.min_eq_left (by omega),Nat.max_eq_right (by omega)]
 ·rw [List.mem_filter]
  have key:∀ c d:Nat,((c:Int),(d:Int))∈l→(DF.ek c d∈l∧brP l (DF.ek c d)=true↔¬ DF.Go2 l c d):=fun c d hm=>by
   have:=h _ hm
   simp only at this
   have e:DF.ek c d=((c:Int),(d:Int)):=by unfold DF.ek;rw [Nat.min_eq_left (by omega),Nat.max_eq_right (by omega)]
   rw [e,brP_iff]
   exact ⟨fun w=>w.2,fun w=>⟨hm,w⟩⟩
  rcases hadj with hm | hm
  ·exact key c d hm
  ·rw [DF.ek_comm,key d c hm]
   exact ⟨fun w z=>w z.flip,fun w z=>w z.flip⟩
theorem BrsOf.uniq {n:Nat} {l x y:List AK.Ed} (hx:BrsOf n l x) (hy:BrsOf n l y):x=y:=
 rises_ext hx.2.1 hy.2.1 fun e=>by
  constructor
  ·intro he
   obtain ⟨c,d,rfl,hadj⟩:=hx.1.edm e he
   exact (hy.1.edb c d hadj).2 ((hx.1.edb c d hadj).1 he)
  ·intro he
   obtain ⟨c,d,rfl,hadj⟩:=hy.1.edm e he
   exact (hx.1.edb c d hadj).2 ((hy.1.edb c d hadj).1 he)
def RbPost (w:World) (n:Nat) (l:List AK.Ed) (e:Ending) (w':World):Prop:=∃ A c x,e=.returned (.slice A (x:List AK.Ed).length c)∧EdsAt w' A x∧x.length≤200∧Ext w w'∧BrsOf n l x
theorem take_filter {l:List AK.Ed} {P:AK.Ed→Bool} {i:Nat} {x:AK.Ed} (h:l[i]?=some x):(l.take (i+1)).filter P=(l.take i).filter P++if P x=true then [x] else []:=by
 rw [take_snoc' h,List.filter_append]
 congr 1
 by_cases q:P x=true
 ·rw [if_pos q,List.filter_cons_of_pos q];rfl
 ·rw [if_neg q,List.filter_cons_of_neg q];rfl
set_option maxRecDepth 100000 in
theorem bridgesOf_any (w:World) (n:Nat) (A:Option Addr) (m c:Nat) (l:List AK.Ed) (hl:l.length=m) (hm:m≤200) (hmc:m≤c) (hcm:c≤maxLen) (h:EdsAt w A l) (hn0:1≤n) (hn:n≤60) (hok:∀ x∈l,0≤x.1∧x.1 < x.2∧x.2 < (n:Int)) (hp:l.Pairwise ltE):
  Calls Tryz.prog 55 #[.int .i64 (n:Int),.slice A m c] w (RbPost w n l):=by
 have H:=Lib.hid h
 have HL:=Lib.hid hl
 have HOK:=Lib.hid hok
 have HP:=Lib.hid hp
 clear h hl hok hp
 go_enter Tryz.func55,Tryz.ntmps55
 go_wp2_with fail
 refine (parts_any w A n m c l HL.out hn0 (by omega) (by omega) H.out (inn_fine HOK.out)).mono ?_
 rintro e w1 ⟨p,gp,cp,rfl,hrow,hip,hb1,_⟩
 have HI1:=Lib.hid (natv_ints hrow)
 have HPP:=Lib.hid hip
 have HX1:Hid (Ext w w1):=hb1
 clear hrow hip hb1
 go_wp2_with fail
 refine (count_any w1 _ n cp p HI1.out.1 HI1.out.2 (by omega)).mono ?_
 rintro e w2 ⟨rfl,hb2⟩
 have HX2:Hid (Ext w w2):=Ext.trans HX1.out hb2
 obtain ⟨all,hall⟩:∃ t,cntP n p=t:=⟨_,rfl⟩
 rw [hall]
 have HALL:=Lib.hid hall
 have hall60:all≤60:=by rw [←hall];exact Nat.le_trans (PD.cnt_le _ _) hn
 clear HI1 HX1 hb2 hall
 go_wp2
 go_loopw [6,7] (fun v6 v7 wr=>∃ (i:Nat) (d:List AK.Ed),i≤m∧d.length≤i∧v7=.int .i64 i∧Hid (GwE w d v6 wr∧d=(l.take i).filter (brP l))) (fun _ v7 _=>m - (intOf v7).toNat)
 case atStart=>exact ⟨0,[],Nat.zero_le _,Nat.le_refl _,rfl,GwE.nil HX2.out,by simp⟩
 case round=>
  obtain ⟨i,d,hi,hd,rfl,hR⟩:=hrel
  rename_i u6
  by_cases hlt:i < m
  ·have hi0:(0:Int)≤(i:Int):=by omega
   have hi1:(i:Int) < (m:Int):=by omega
   obtain ⟨x,hx⟩:∃ x,l[i]?=some x:=⟨_,List.getElem?_eq_getElem (by rw [HL.out];exact hlt)⟩
   have hxo:=HOK.out x (List.mem_of_getElem? hx)
   obtain ⟨u,v,rfl,huv,hvn⟩:∃ u v:Nat,x=((u:Int),(v:Int))∧u < v∧v < n:=by
    obtain ⟨u,hu⟩:=Int.eq_ofNat_of_zero_le hxo.1
    obtain ⟨v,hv⟩:=Int.eq_ofNat_of_zero_le (show 0≤x.2 by omega)
    exact ⟨u,v,Prod.ext hu hv,by omega,by omega⟩
   have hmn:=erase_mn HOK.out HP.out hx
   have hokE:∀ z∈l.eraseIdx i,0≤z.1∧z.1 < z.2∧z.2 < (n:Int):=fun z hz=>HOK.out z (List.mem_of_mem_eraseIdx hz)
   have HBC:Hid (∀ q,IsParts n (prs (l.eraseIdx i)) q→(all < cntP n q↔¬ DF.Go2 l u v)):=fun q hq=>by
    rw [←HALL.out]
    exact DF.bridge_count (prs_iff (inn_fine HOK.out)) (prs_iff (inn_fine hokE)) HPP.out hq hmn (.inl (List.mem_of_getElem? hx)) (by omega) hvn
   have HLE:Hid ((l.eraseIdx i).length≤200):=by rw [Hid,List.length_eraseIdx];have:=HL.out;split <;> omega
   have HIE:Hid (Inn n (l.eraseIdx i)):=inn_fine hokE
   have HTF:=Lib.hid (take_filter (P:=brP l) hx)
   have HBI:=Lib.hid (brP_iff (l:=l) (u:=u) (v:=v))
   rcases H.out with h0 | ⟨bl,off,rfl,hbl,hev⟩
   ·rw [h0] at hx;simp at hx
   have HC:Hid (∀ w',Ext w w'→w'.cell? ⟨bl,off+i * 2,none⟩=some (.int .i64 (u:Int))∧w'.cell? ⟨bl,off+i * 2+1,none⟩=some (.int .i64 (v:Int))):=fun w' hw=>by
    obtain ⟨e1,e2⟩:=hev i _ hx
    exact ⟨(hw.cell (p:=⟨bl,_,none⟩) hbl).trans e1,(hw.cell (p:=⟨bl,_,none⟩) hbl).trans e2⟩
   have HRO:=Lib.hid (rout_any wr (some ⟨bl,off,none⟩) m c l i HL.out (by omega) hmc hcm hlt (H.out.ext hR.out.1.ext))
   have HG:=Lib.hid hR.out
   clear hmn hokE hx hev hR hxo
   go_wp2_with fail
   refine HRO.out.mono ?_
   rintro e w3 ⟨A3,c3,rfl,hr3,hb3,_⟩
   obtain ⟨le,hle⟩:∃ t,(l.eraseIdx i).length=t:=⟨_,rfl⟩
   have HE3:=Lib.hid (DRow.eds hr3 rfl).1
   rw [hle] at HLE ⊢
   have HLEE:=Lib.hid hle
   have HX3:Hid (Ext wr w3):=hb3
   clear hr3 hb3 hle HRO
   go_wp2_with fail
   refine (parts_any w3 A3 n le c3 (l.eraseIdx i) HLEE.out hn0 (by omega) (by have:=HLE.out;omega) HE3.out HIE.out).mono ?_
   rintro e w4 ⟨q,gq,cq,rfl,hrow,hiq,hb4,_⟩
   have HI4:=Lib.hid (natv_ints hrow)
   have HX4:Hid (Ext wr w4):=Ext.trans HX3.out hb4
   have hbc:=HBC.out q hiq
   clear hrow hiq hb4 HE3
   go_wp2_with fail
   refine (count_any w4 _ n cq q HI4.out.1 HI4.out.2 (by omega)).mono ?_
   rintro e w5 ⟨rfl,hb5⟩
   have HX5:Hid (Ext wr w5):=Ext.trans HX4.out hb5
   have HG5:=Lib.hid (HG.out.1.moved HX5.out)
   obtain ⟨cn,hcn⟩:∃ t,cntP n q=t:=⟨_,rfl⟩
   rw [hcn] at hbc ⊢
   clear hb5 hcn HI4 HX4 HX3
   obtain ⟨e1,e2⟩:=HC.out w5 HG5.out.ext
   by_cases hgo:DF.Go2 l u v
   ·have h1:¬ (all:Int) < (cn:Int):=by have:=(not_congr hbc).2 (fun z=>z hgo);omega
    have HD:Hid (d=(l.take (i+1)).filter (brP l)):=by
     rw [Hid,HTF.out,if_neg (fun z=>HBI.out.1 z hgo),←HG.out.2,List.append_nil]
    clear hbc hgo
    go_wp2
    go_roundw
    case rel=>exact ⟨i+1,d,by omega,by omega,by go_num,HG5.out,HD.out⟩
    case measure=>simp [intOf];omega
   ·have h1:(all:Int) < (cn:Int):=by have:=hbc.2 hgo;omega
    have HD:Hid (d++[((u:Int),(v:Int))]=(l.take (i+1)).filter (brP l)):=by
     rw [Hid,HTF.out,if_pos (HBI.out.2 hgo),←HG.out.2]
    clear hbc hgo
    go_wp2_with (at_builtin;refine wpList_pushS _ rfl (.tmp 26) (.tmp 31) 47 rfl 93 _ 2 16 Tryz.underlying47 infoEdge rfl (by decide) _ _ _ rfl (HG5.out.moved (Ext.alloc _ _)).row ⟨by omega,by omega⟩ (edC ((u:Int),(v:Int))) _ rfl rfl (news_cells rfl _ _) (by simp [edC,Value.oneCell']) ?_;intro g6 c6 w6 ho6 hc6 hat6 _;have HZ:=Lib.hid ((HG5.out.moved (Ext.alloc _ _)).push ho6 hc6 hat6);clear ho6 hc6 hat6)
    go_roundw
    case rel=>exact ⟨i+1,_,by omega,by rw [snoc_len'];omega,by go_num,HZ.out,HD.out⟩
    case measure=>simp [intOf];omega
  ·obtain rfl:m=i:=by omega
   have HZ:Hid (RbPost w n l (.returned u6) wr):=by
    obtain ⟨A',c',rfl,h1,_,_⟩:=hR.out.1.eds
    have e:d=l.filter (brP l):=by rw [hR.out.2,List.take_of_length_le (by rw [HL.out];exact Nat.le_refl _)]
    exact ⟨A',c',d,rfl,h1,by omega,hR.out.1.ext,by rw [e];exact brs_filter HOK.out HP.out⟩
   clear hR
   go_wp2
   go_ret
   exact HZ.out
def jnR (a:Nat) (e:AK.Ed):Bool:=decide (e.1≠(a:Int)) && decide (e.2≠(a:Int))
theorem jnR_no {l:List AK.Ed} {a:Nat} (x y:Nat):PD.adj (l.filter (jnR a)) x y↔DF.No l a x y:=by
 unfold DF.No PD.adj
 rw [List.mem_filter,List.mem_filter]
 simp only [jnR,Bool.and_eq_true,decide_eq_true_eq]
 constructor
 ·rintro (⟨h,h1,h2⟩ | ⟨h,h1,h2⟩)
  ·exact ⟨.inl h,by omega,by omega⟩
  ·exact ⟨.inr h,by omega,by omega⟩
 ·rintro ⟨h | h,h1,h2⟩
  ·exact .inl ⟨h,by omega,by omega⟩
  ·exact .inr ⟨h,by omega,by omega⟩
noncomputable def jtP (l:List AK.Ed) (a:Nat):Bool:=by classical exact decide (DF.Jt l a)
theorem jtP_iff {l:List AK.Ed} {a:Nat}:jtP l a=true↔DF.Jt l a:=by unfold jtP;simp
noncomputable def jtsL (l:List AK.Ed) (a:Nat):List Int:=((List.range a).filter (jtP l)).map fun (x:Nat)=>(x:Int)
theorem jtsL_succ (l:List AK.Ed) (a:Nat):jtsL l (a+1)=jtsL l a++if jtP l a=true then [(a:Int)] else []:=by
 unfold jtsL
 rw [List.range_succ,List.filter_append,List.map_append]
 congr 1
 by_cases q:jtP l a=true
 ·rw [if_pos q,List.filter_cons_of_pos q];rfl
 ·rw [if_neg q,List.filter_cons_of_neg q];rfl
theorem jtsL_of (n:Nat) (l:List AK.Ed):JtsOf n l (jtsL l n):=by
 refine ⟨?_,fun x=>?_⟩
 ·unfold jtsL
  refine List.Pairwise.map _ (fun a b hab=>?_) (List.Pairwise.filter _ (List.pairwise_lt_range (n:=n)))
  omega
 ·unfold jtsL
  rw [List.mem_map]
  constructor
  ·rintro ⟨c,hc,rfl⟩
   rw [List.mem_filter,List.mem_range,jtP_iff] at hc
   exact ⟨c,rfl,hc.1,hc.2⟩
  ·rintro ⟨c,rfl,hc,hJ⟩
   exact ⟨c,by rw [List.mem_filter,List.mem_range,jtP_iff];exact ⟨hc,hJ⟩,rfl⟩
theorem lt_ext {l m:List Int} (hl:l.Pairwise (fun x y=>x < y)) (hm:m.Pairwise (fun x y=>x < y)) (h:∀ x,x∈l↔x∈m):l=m:=by
 induction l generalizing m with
 | nil=>
  cases m with
  | nil=>rfl
  | cons y m=>exact absurd ((h y).2 (List.mem_cons_self ..)) (List.not_mem_nil)
 | cons x l ih=>
  cases m with
  | nil=>exact absurd ((h x).1 (List.mem_cons_self ..)) (List.not_mem_nil)
  | cons y m=>
   rw [List.pairwise_cons] at hl hm
   have e:x=y:=by
    rcases List.mem_cons.1 ((h x).1 (List.mem_cons_self ..)) with w | w
    ·exact w
    ·rcases List.mem_cons.1 ((h y).2 (List.mem_cons_self ..)) with z | z
     ·exact z.symm
     ·have:=hl.1 y z;have:=hm.1 x w;omega
   subst e
   congr 1
   refine ih hl.2 hm.2 fun z=>⟨fun w=>?_,fun w=>?_⟩
   ·rcases List.mem_cons.1 ((h z).1 (List.mem_cons_of_mem _ w)) with q | q
    ·subst q;have:=hl.1 z w;omega
    ·exact q
   ·rcases List.mem_cons.1 ((h z).2 (List.mem_cons_of_mem _ w)) with q | q
    ·subst q;have:=hm.1 z w;omega
    ·exact q
theorem JtsOf.uniq {n:Nat} {l:List AK.Ed} {x y:List Int} (hx:JtsOf n l x) (hy:JtsOf n l y):x=y:=
 lt_ext hx.1 hy.1 fun e=>(hx.2 e).trans (hy.2 e).symm
def RjPost (w:World) (n:Nat) (l:List AK.Ed) (e:Ending) (w':World):Prop:=∃ A c x,e=.returned (.slice A (x:List Int).length c)∧IntsAt w' A x∧x.length≤60∧Ext w w'∧JtsOf n l x
set_option maxRecDepth 100000 in
theorem jointsOf_any (w:World) (n:Nat) (A:Option Addr) (m c:Nat) (l:List AK.Ed) (hl:l.length=m) (hm:m≤200) (h:EdsAt w A l) (hn0:1≤n) (hn:n≤60) (hok:∀ x∈l,0≤x.1∧x.1 < x.2∧x.2 < (n:Int)):
  Calls Tryz.prog 56 #[.int .i64 (n:Int),.slice A m c] w (RjPost w n l):=by
 have H:=Lib.hid h
 have HL:=Lib.hid hl
 have HOK:=Lib.hid hok
 clear h hl hok
 go_enter Tryz.func56,Tryz.ntmps56
 go_wp2_with fail
 refine (parts_any w A n m c l HL.out hn0 (by omega) (by omega) H.out (inn_fine HOK.out)).mono ?_
 rintro e w1 ⟨p,gp,cp,rfl,hrow,hip,hb1,_⟩
 have HI1:=Lib.hid (natv_ints hrow)
 have HPP:=Lib.hid hip
 have HX1:Hid (Ext w w1):=hb1
 clear hrow hip hb1
 go_wp2_with fail
 refine (count_any w1 _ n cp p HI1.out.1 HI1.out.2 (by omega)).mono ?_
 rintro e w2 ⟨rfl,hb2⟩
 have HX2:Hid (Ext w w2):=Ext.trans HX1.out hb2
 obtain ⟨all,hall⟩:∃ t,cntP n p=t:=⟨_,rfl⟩
 rw [hall]
 have HALL:=Lib.hid hall
 have hall60:all≤60:=by rw [←hall];exact Nat.le_trans (PD.cnt_le _ _) hn
 clear HI1 HX1 hb2 hall
 go_wp2
 go_loopw [6,7] (fun v6 v7 wr=>∃ (a:Nat) (d:List Int),a≤n∧d.length≤a∧v7=.int .i64 a∧Hid (GwI w d v6 wr∧d=jtsL l a)) (fun _ v7 _=>n - (intOf v7).toNat)
 case atStart=>exact ⟨0,[],Nat.zero_le _,Nat.le_refl _,rfl,GwI.nil HX2.out,by simp [jtsL]⟩
 case round=>
  obtain ⟨a,d,ha,hd,rfl,hR⟩:=hrel
  rename_i u6
  by_cases hlt:a < n
  ·have ha0:(0:Int)≤(a:Int):=by omega
   have ha1:(a:Int) < (n:Int):=by omega
   obtain ⟨wo,rfl⟩:∃ wo:World,wo=wr:=⟨_,rfl⟩
   have HG:=Lib.hid hR.out
   have HJC:Hid (∀ q,IsParts n (prs (l.filter (jnR a))) q→(all+1 < cntP n q↔DF.Jt l a)):=fun q hq=>by
    rw [←HALL.out]
    exact DF.joint_count (prs_iff (inn_fine HOK.out)) (prs_iff (inn_fine fun z hz=>HOK.out z (List.mem_filter.1 hz).1)) HPP.out hq (fun x y=>jnR_no x y) hlt
     (fun u w=>by rcases w with w | w <;> (have:=HOK.out _ w;simp only at this;omega))
     (fun u v w=>by rcases w with w | w <;> (have:=HOK.out _ w;simp only at this;omega))
   clear hR
   go_wp2
   go_loopw [8,9] (fun v8 v9 wr=>∃ (j:Nat) (r:List AK.Ed),j≤m∧r.length≤j∧v9=.int .i64 j∧Hid (GwE wo r v8 wr∧r=(l.take j).filter (jnR a))) (fun _ v9 _=>m - (intOf v9).toNat)
   case atStart=>exact ⟨0,[],Nat.zero_le _,Nat.le_refl _,rfl,GwE.nil (Ext.refl _),by simp⟩
   case round=>
    obtain ⟨j,r,hj,hr,rfl,hR⟩:=hrel
    rename_i u8
    by_cases hjl:j < m
    ·have hj0:(0:Int)≤(j:Int):=by omega
     have hj1:(j:Int) < (m:Int):=by omega
     obtain ⟨bl,off,rfl,_,⟨x1,x2⟩,hx,e1,e2⟩:=eds_at (H.out.ext (Ext.trans HG.out.1.ext hR.out.1.ext)) (show j < l.length by rw [HL.out];exact hjl)
     simp only at e1 e2
     have HTF:=Lib.hid (take_filter (P:=jnR a) hx)
     have HGE:=Lib.hid hR.out
     clear hx hR
     by_cases q1:x1=(a:Int)
     ·have t1:(x1 != (a:Int))=false:=by simp [q1]
      have HD:Hid (r=(l.take (j+1)).filter (jnR a)):=by
       rw [Hid,HTF.out,if_neg (by simp [jnR,q1]),←HGE.out.2,List.append_nil]
      clear q1
      go_wp2
      go_roundw
      case rel=>exact ⟨j+1,r,by omega,by omega,by go_num,HGE.out.1,HD.out⟩
      case measure=>simp [intOf];omega
     ·have t1:(x1 != (a:Int))=true:=by simpa using q1
      by_cases q2:x2=(a:Int)
      ·have t2:(x2 != (a:Int))=false:=by simp [q2]
       have HD:Hid (r=(l.take (j+1)).filter (jnR a)):=by
        rw [Hid,HTF.out,if_neg (by simp [jnR,q2]),←HGE.out.2,List.append_nil]
       clear q1 q2
       go_wp2
       go_roundw
       case rel=>exact ⟨j+1,r,by omega,by omega,by go_num,HGE.out.1,HD.out⟩
       case measure=>simp [intOf];omega
      ·have t2:(x2 != (a:Int))=true:=by simpa using q2
       have HD:Hid (r++[(x1,x2)]=(l.take (j+1)).filter (jnR a)):=by
        rw [Hid,HTF.out,if_pos (by simp [jnR,q1,q2]),←HGE.out.2]
       clear q1 q2
       go_wp2_with (at_builtin;refine wpList_pushS _ rfl (.tmp 41) (.tmp 46) 47 rfl 93 _ 2 16 Tryz.underlying47 infoEdge rfl (by decide) _ _ _ rfl (HGE.out.1.moved (Ext.alloc _ _)).row ⟨by omega,by omega⟩ (edC (x1,x2)) _ rfl rfl (news_cells rfl _ _) (by simp [edC,Value.oneCell']) ?_;intro g6 c6 w6 ho6 hc6 hat6 _;have HZ:=Lib.hid ((HGE.out.1.moved (Ext.alloc _ _)).push ho6 hc6 hat6);clear ho6 hc6 hat6)
       go_roundw
       case rel=>exact ⟨j+1,_,by omega,by rw [snoc_len'];omega,by go_num,HZ.out,HD.out⟩
       case measure=>simp [intOf];omega
    ·obtain rfl:m=j:=by omega
     obtain ⟨hr1,hr2⟩:=hR.out
     obtain ⟨A3,c3,rfl,he3,_,_⟩:=hr1.eds
     rw [List.take_of_length_le (by rw [HL.out];exact Nat.le_refl _)] at hr2
     have HX3:=Lib.hid hr1.ext
     have HE3:=Lib.hid he3
     have HI3:Hid (Inn n r):=inn_fine fun z hz=>HOK.out z (List.mem_filter.1 (hr2 ▸ hz)).1
     rw [←hr2] at HJC
     obtain ⟨lr,hlr⟩:∃ t,r.length=t:=⟨_,rfl⟩
     rw [hlr] at hr ⊢
     have HLR:=Lib.hid hlr
     clear hr1 he3 hR hr2 hlr
     go_wp2_with fail
     refine (parts_any _ A3 n lr c3 r HLR.out hn0 (by omega) (by omega) HE3.out HI3.out).mono ?_
     rintro e w4 ⟨q,gq,cq,rfl,hrow,hiq,hb4,_⟩
     have HI4:=Lib.hid (natv_ints hrow)
     have HX4:Hid (Ext wo w4):=Ext.trans HX3.out hb4
     have hjc:=HJC.out q hiq
     clear hrow hiq hb4 HE3
     go_wp2_with fail
     refine (count_any w4 _ n cq q HI4.out.1 HI4.out.2 (by omega)).mono ?_
     rintro e w5 ⟨rfl,hb5⟩
     have HX5:Hid (Ext wo w5):=Ext.trans HX4.out hb5
     have HG5:=Lib.hid (HG.out.1.moved HX5.out)
     have hcq:cntP n q≤60:=Nat.le_trans (PD.cnt_le _ _) hn
     obtain ⟨cn,hcn⟩:∃ t,cntP n q=t:=⟨_,rfl⟩
     rw [hcn] at hjc hcq ⊢
     clear hb5 hcn HI4 HX4 HX3
     by_cases hJ:DF.Jt l a
     ·have h1:(all:Int) < (cn:Int) - 1:=by have:=hjc.2 hJ;omega
      have HD:Hid (d++[(a:Int)]=jtsL l (a+1)):=by rw [Hid,jtsL_succ,if_pos (jtP_iff.2 hJ),←HG.out.2]
      clear hjc hJ
      go_wp2_with (at_builtin;refine wpList_push _ rfl (.tmp 55) (.tmp 57) 79 rfl 3 (.int .i64 0) 8 Tryz.underlying79 infoI rfl _ _ _ rfl (HG5.out.moved (Ext.alloc _ _)).row ⟨by omega,by omega⟩ (.int .i64 (a:Int)) _ rfl (cell_new1 rfl _ _) rfl ?_;intro g6 c6 w6 ho6 hc6 hat6 _;have HZ:=Lib.hid ((HG5.out.moved (Ext.alloc _ _)).push ho6 hc6 hat6);clear ho6 hc6 hat6)
      go_roundw
      case rel=>exact ⟨a+1,_,by omega,by rw [snoc_len'];omega,by go_num,HZ.out,HD.out⟩
      case measure=>simp [intOf];omega
     ·have h1:¬ (all:Int) < (cn:Int) - 1:=by have:=(not_congr hjc).2 hJ;omega
      have HD:Hid (d=jtsL l (a+1)):=by rw [Hid,jtsL_succ,if_neg (fun z=>hJ (jtP_iff.1 z)),←HG.out.2,List.append_nil]
      clear hjc hJ
      go_wp2
      go_roundw
      case rel=>exact ⟨a+1,d,by omega,by omega,by go_num,HG5.out,HD.out⟩
      case measure=>simp [intOf];omega
  ·obtain rfl:n=a:=by omega
   have HZ:Hid (RjPost w n l (.returned u6) wr):=by
    obtain ⟨A',c',rfl,h1,_,_⟩:=hR.out.1.ints
    exact ⟨A',c',d,rfl,h1,by omega,hR.out.1.ext,by rw [hR.out.2];exact jtsL_of n l⟩
   clear hR
   go_wp2
   go_ret
   exact HZ.out
end Go.Proofs.YtkoajpeabicpdaaGreatDoor
namespace Go.Proofs.YtkoajpeabicpdaaGreatDoor
open Go Go.RowKit
theorem ckF_zero {n:Int} {l:List AK.Ed} {xs:List Int} (h:ckF n l xs=0):∃ k:Nat,n=(k:Int)∧0 < k∧k≤60∧Fine k l∧(edgF n l).2=0∧∀ x∈xs,∃ z:Nat,x=(z:Int)∧z < k:=by
 unfold ckF at h
 by_cases h0:(edgF n l).2=0
 ·rw [if_neg (by simpa using h0)] at h
  obtain ⟨h1,h2,h3,h4⟩:=fine_of h0
  obtain ⟨k,rfl⟩:=Int.eq_ofNat_of_zero_le (show 0≤n by omega)
  refine ⟨k,rfl,by omega,by omega,⟨h3,h4⟩,h0,fun x hx=>?_⟩
  by_cases hb:badN k x=true
  ·rw [if_pos (List.any_eq_true.2 ⟨x,hx,hb⟩)] at h;omega
  ·simp [badN] at hb
   obtain ⟨z,hz⟩:=Int.eq_ofNat_of_zero_le hb.1
   exact ⟨z,hz,by omega⟩
 ·rw [if_pos (by simpa using h0)] at h;exact absurd h h0
end Go.Proofs.YtkoajpeabicpdaaGreatDoor
