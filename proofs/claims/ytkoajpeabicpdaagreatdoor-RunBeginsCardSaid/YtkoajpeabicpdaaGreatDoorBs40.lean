/-
How far nodes of a graph are, by a queue; the first of the shortest ways, in plain Lean. No program in sight.
-/
import Derived.Test.YtkoajpeabicpdaaGreatDoorBs6
set_option linter.unusedVariables false
namespace Go.Proofs.YtkoajpeabicpdaaGreatDoor
open Go
namespace PD
structure Bq (n:Nat) (l:List Ed) (a:Nat) (h:Nat) (d:List Int) (q:List Nat):Prop extends Base n l a d where
 qv:∀ x,x∈q→x < n∧(h:Int)≤g d x
 top:∀ v,v < n→g d v≤h+1
 mono:q.Pairwise (fun x y=>g d x≤g d y)
 fin:∀ u,u < n→0≤g d u→u ∉ q→∀ v,v < n→adj l u v→0≤g d v∧g d v≤g d u+1
theorem Bq.start {n a:Nat} (l:List Ed) (ha:a < n):Bq n l a 0 ((List.replicate n (-1)).set a 0) [a]:=by
 have hl:a < (List.replicate n (-1:Int)).length:=by simpa using ha
 have hr:∀ v,g (List.replicate n (-1:Int)) v=-1:=fun v=>by
  simp only [g,List.getD_eq_getElem?_getD,List.getElem?_replicate];split <;> rfl
 refine ⟨Base.start l ha,fun x hx=>?_,fun v hv=>?_,by simp,fun u hu h1 h2=>?_⟩
 ·simp at hx;subst hx;exact ⟨ha,by rw [g_set_self hl];simp⟩
 ·by_cases e:a=v
  ·subst e;rw [g_set_self hl];omega
  ·rw [g_set_ne e,hr];omega
 ·have:a≠u:=by rintro rfl;simp at h2
  rw [g_set_ne this,hr] at h1;omega
theorem Bq.mark {n:Nat} {l:List Ed} {a h x b:Nat} {d:List Int} {q:List Nat} (hb:Bq n l a h d (x::q)) (hx:g d x=h) (hbn:b < n) (hadj:adj l x b) (h1:g d b < 0):Bq n l a h (d.set b (h+1)) (x::q++[b]):=by
 have hxn:=(hb.qv x (by simp)).1
 have hm:=hb.toBase.mark hxn hbn hadj (by omega) h1
 rw [hx] at hm
 have hvl:b < d.length:=by rw [hb.len];exact hbn
 have hnq:∀ y,y∈x::q→b≠y:=fun y hy=>by rintro rfl;have:=(hb.qv b hy).2;omega
 refine ⟨hm,fun y hy=>?_,fun v hv=>?_,?_,fun u hu q1 q2 v hv hadj2=>?_⟩
 ·rcases List.mem_append.1 hy with hy | hy
  ·rw [g_set_ne (hnq y hy)];exact hb.qv y hy
  ·simp at hy;subst hy;exact ⟨hbn,by rw [g_set_self hvl];omega⟩
 ·by_cases e:b=v
  ·subst e;rw [g_set_self hvl];omega
  ·rw [g_set_ne e];exact hb.top v hv
 ·rw [List.pairwise_append]
  refine ⟨?_,by simp,fun y hy z hz=>?_⟩
  ·refine List.Pairwise.imp_of_mem ?_ hb.mono
   intro y z hy hz hyz
   rw [g_set_ne (hnq y hy),g_set_ne (hnq z hz)];exact hyz
  ·simp at hz;subst hz
   rw [g_set_ne (hnq y hy),g_set_self hvl]
   exact hb.top y (hb.qv y hy).1
 ·have e:b≠u:=by rintro rfl;exact q2 (by simp)
  rw [g_set_ne e] at q1 ⊢
  have:=hb.fin u hu q1 (fun hm=>q2 (List.mem_append_left _ hm)) v hv hadj2
  rw [g_set_ne (by rintro rfl;omega)];exact this
theorem Bq.pop {n:Nat} {l:List Ed} {a h x:Nat} {d:List Int} {q:List Nat} (hb:Bq n l a h d (x::q)) (hx:g d x=h) (hall:∀ b,b < n→adj l x b→0≤g d b):(q=[]→IsDist n l a d)∧∀ y r,q=y::r→∃ h':Nat,g d y=(h':Int)∧Bq n l a h' d q:=by
 have hxn:=(hb.qv x (by simp)).1
 have hfin:∀ u,u < n→0≤g d u→u ∉ q→∀ v,v < n→adj l u v→0≤g d v∧g d v≤g d u+1:=fun u hu q1 q2 v hv hadj=>by
  by_cases e:u=x
  ·subst e
   exact ⟨hall v hv hadj,by have:=hb.top v hv;omega⟩
  ·exact hb.fin u hu q1 (by simp [e,q2]) v hv hadj
 refine ⟨fun hq=>⟨hb.toBase,fun u v hu hv hadj q1=>hfin u hu q1 (by rw [hq];simp) v hv hadj⟩,fun y r hq=>?_⟩
 have hy:=hb.qv y (by rw [hq];simp)
 obtain ⟨h',hh⟩:=Int.eq_ofNat_of_zero_le (show 0≤g d y by omega)
 refine ⟨h',hh,hb.toBase,fun z hz=>⟨(hb.qv z (by simp [hz])).1,?_⟩,fun v hv=>by have:=hb.top v hv;omega,(List.pairwise_cons.1 hb.mono).2,hfin⟩
 subst hq
 rcases List.mem_cons.1 hz with rfl | hz
 ·omega
 ·have:=(List.pairwise_cons.1 (List.pairwise_cons.1 hb.mono).2).1 z hz
  omega
def far0 (d:List Int) (n:Nat):Nat:=cnt (fun v=>decide (g d v < 0)) n
theorem far0_mark {n b:Nat} {d:List Int} {x:Int} (hl:d.length=n) (hb:b < n) (h1:g d b < 0) (hx:0≤x):far0 (d.set b x) n+1≤far0 d n:=by
 refine cnt_lt (u:=b) (fun i hi hp=>?_) hb (by simpa using h1) (by rw [g_set_self (by omega)];simp;omega)
 by_cases e:b=i
 ·subst e;rw [g_set_self (by omega)] at hp;simp at hp;omega
 ·rw [g_set_ne e] at hp;exact hp
theorem far0_le (d:List Int) (n:Nat):far0 d n≤n:=cnt_le _ n
structure Next (n:Nat) (l:List Ed) (d:List Int) (x c:Nat):Prop where
 lt:c < n
 adj:adj l x c
 val:g d c=g d x - 1
 least:∀ c',c' < c→PD.adj l x c'→g d c'≠g d x - 1
theorem Next.unique {n:Nat} {l:List Ed} {d:List Int} {x c c':Nat} (h:Next n l d x c) (k:Next n l d x c'):c=c':=by
 by_cases h1:c < c'
 ·exact absurd h.val (k.least c h1 h.adj)
 ·by_cases h2:c' < c
  ·exact absurd k.val (h.least c' h2 k.adj)
  ·omega
inductive Way (n:Nat) (l:List Ed) (d:List Int):Nat→List Nat→Prop
 | stop {x:Nat} (h:g d x=0):Way n l d x [x]
 | go {x c:Nat} {p:List Nat} (h:0 < g d x) (hn:Next n l d x c) (hw:Way n l d c p):Way n l d x (x::p)
theorem Way.unique {n:Nat} {l:List Ed} {d:List Int}:∀ {x:Nat} {p q:List Nat},Way n l d x p→Way n l d x q→p=q
 | _,_,_,.stop h,.stop _=>rfl
 | _,_,_,.stop h,.go h' _ _=>by omega
 | _,_,_,.go h _ _,.stop h'=>by omega
 | _,_,_,.go _ hn hw,.go _ hn' hw'=>by
  have:=hn.unique hn'
  subst this
  rw [Way.unique hw hw']
theorem IsDist.next {n:Nat} {l:List Ed} {a:Nat} {d:List Int} (h:IsDist n l a d) {x:Nat} (hx:x < n) (h0:0 < g d x):∃ c,c < n∧adj l x c∧g d c=g d x - 1:=by
 obtain ⟨u,h1,h2,h3⟩:=h.prev x hx h0
 exact ⟨u,h1,adj_symm h2,h3⟩
def On (n:Nat) (l:List Ed) (d:List Int) (x y:Nat) (out:List Nat):Prop:=∃ r,out=r++[y]∧∀ p,Way n l d y p→Way n l d x (r++p)
theorem On.start (n:Nat) (l:List Ed) (d:List Int) (x:Nat):On n l d x x [x]:=⟨[],rfl,fun _ h=>h⟩
theorem On.step {n:Nat} {l:List Ed} {d:List Int} {x y c:Nat} {out:List Nat} (h:On n l d x y out) (h0:0 < g d y) (hn:Next n l d y c):On n l d x c (out++[c]):=by
 obtain ⟨r,rfl,h2⟩:=h
 exact ⟨r++[y],rfl,fun p hp=>by simpa using h2 _ (.go h0 hn hp)⟩
theorem On.stop {n:Nat} {l:List Ed} {d:List Int} {x y:Nat} {out:List Nat} (h:On n l d x y out) (h0:g d y=0):Way n l d x out:=by
 obtain ⟨r,rfl,h2⟩:=h
 exact h2 _ (.stop h0)
end PD
end Go.Proofs.YtkoajpeabicpdaaGreatDoor
