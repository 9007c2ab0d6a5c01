/-
Parts of a graph, in plain Lean: of each node the least one that it is joined with, told on along edges as long as something changes. No program in sight.
-/
import Derived.Test.YtkoajpeabicpdaaGreatDoorBs1
import Derived.Test.YtkoajpeabicpdaaGreatDoorBs6
set_option linter.unusedVariables false
namespace Go.Proofs.YtkoajpeabicpdaaGreatDoor
namespace PT
open UF
theorem sum_set:∀ {p:List Nat} {b x y:Nat},p[b]?=some y→(p.set b x).sum+y=p.sum+x
 | [],b,x,y,h=>by simp at h
 | z::r,0,x,y,h=>by simp at h;subst h;simp;omega
 | z::r,b+1,x,y,h=>by
  have:=sum_set (p:=r) (x:=x) (by simpa using h:r[b]?=some y)
  simp;omega
structure PInv (n:Nat) (es:List (Nat × Nat)) (p:List Nat):Prop where
 len:p.length=n
 con:∀ x v,p[x]?=some v→v≤x∧Con es x v
theorem PInv.start (n:Nat) (es:List (Nat × Nat)):PInv n es (List.range n):=by
 refine ⟨by simp,fun x v h=>?_⟩
 have hx:x < n:=by have:=(List.getElem?_eq_some_iff.1 h).1;simpa using this
 rw [List.getElem?_range hx] at h
 injection h with h;subst h
 exact ⟨Nat.le_refl _,.refl _⟩
theorem PInv.set {n:Nat} {es:List (Nat × Nat)} {p:List Nat} {a b x y:Nat} (h:PInv n es p) (hab:(a,b)∈es∨(b,a)∈es) (ha:p[a]?=some x) (hb:p[b]?=some y) (hxy:x < y):PInv n es (p.set b x):=by
 refine ⟨by simp [h.len],fun z v hz=>?_⟩
 rw [List.getElem?_set] at hz
 split at hz
 ·rename_i e;subst e
  split at hz
  ·injection hz with hz;subst hz
   have h1:=h.con b y hb
   refine ⟨by omega,?_⟩
   have h2:Con es b a:=hab.elim (fun h=>.symm (.edge h)) (fun h=>.edge h)
   exact .trans h2 (h.con a x ha).2
  ·cases hz
 ·exact h.con z v hz
structure IsParts (n:Nat) (es:List (Nat × Nat)) (p:List Nat):Prop extends PInv n es p where
 ed:∀ x y,(x,y)∈es→p[x]?=p[y]?
theorem IsParts.rel {n:Nat} {es:List (Nat × Nat)} {p:List Nat} (h:IsParts n es p) {x y v u:Nat} (hx:p[x]?=some v) (hy:p[y]?=some u):v=u↔Con es x y:=by
 constructor
 ·rintro rfl
  exact .trans (h.con x v hx).2 (.symm (h.con y v hy).2)
 ·intro hc
  have:=hc.ind (f:=fun z=>p.getD z n) (fun a b hab=>by simp only [List.getD_eq_getElem?_getD,h.ed a b hab])
  simpa [List.getD_eq_getElem?_getD,hx,hy] using this
theorem IsParts.least {n:Nat} {es:List (Nat × Nat)} {p:List Nat} (h:IsParts n es p) {x v y:Nat} (hx:p[x]?=some v) (hy:y < n) (hc:Con es x y):v≤y:=by
 obtain ⟨u,hu⟩:∃ u,p[y]?=some u:=⟨_,List.getElem?_eq_getElem (by rw [h.len];exact hy)⟩
 have:=(h.rel hx hu).2 hc
 have:=(h.con y u hu).1
 omega
end PT
end Go.Proofs.YtkoajpeabicpdaaGreatDoor
namespace Go.Proofs.YtkoajpeabicpdaaGreatDoor
open Go
namespace DF
open PD (g adj Ed adj_symm g_set_self g_set_ne)
inductive Cn (E:Nat→Nat→Prop):Nat→Nat→Prop
 | refl (x:Nat):Cn E x x
 | edge {x y:Nat}:E x y→Cn E x y
 | symm {x y:Nat}:Cn E x y→Cn E y x
 | trans {x y z:Nat}:Cn E x y→Cn E y z→Cn E x z
theorem Cn.mono {E F:Nat→Nat→Prop} (h:∀ u v,E u v→F u v) {x y:Nat} (c:Cn E x y):Cn F x y:=by
 induction c with
 | refl x=>exact .refl x
 | edge e=>exact .edge (h _ _ e)
 | symm _ ih=>exact .symm ih
 | trans _ _ i1 i2=>exact .trans i1 i2
theorem Cn.keeps {E:Nat→Nat→Prop} {S:Nat→Prop} (h:∀ u v,E u v→(S u↔S v)) {x y:Nat} (c:Cn E x y):S x↔S y:=by
 induction c with
 | refl x=>exact Iff.rfl
 | edge e=>exact h _ _ e
 | symm _ ih=>exact ih.symm
 | trans _ _ i1 i2=>exact i1.trans i2
def Mn (E:Nat→Nat→Prop) (c d u v:Nat):Prop:=E u v∧¬ (u=c∧v=d)∧¬ (u=d∧v=c)
theorem Mn.flip {E:Nat→Nat→Prop} {c d u v:Nat} (h:Mn E c d u v):Mn E d c u v:=⟨h.1,h.2.2,h.2.1⟩
def In (l:List Ed) (S:Nat→Prop) (u v:Nat):Prop:=adj l u v∧S u∧S v
theorem In.mn {l:List Ed} {S:Nat→Prop} {c d:Nat} (h:¬ (S c∧S d)) {x y:Nat} (k:Cn (In l S) x y):Cn (Mn (adj l) c d) x y:=
 k.mono fun u v e=>⟨e.1,fun q=>by obtain ⟨rfl,rfl⟩:=q;exact h e.2,fun q=>by obtain ⟨rfl,rfl⟩:=q;exact h e.2.symm⟩
theorem In.mono {l:List Ed} {S S':Nat→Prop} (h:∀ v,S v→S' v) {x y:Nat} (k:Cn (In l S) x y):Cn (In l S') x y:=
 k.mono fun u v e=>⟨e.1,h _ e.2.1,h _ e.2.2⟩
def Go2 (l:List Ed) (c d:Nat):Prop:=Cn (Mn (adj l) c d) c d
theorem Go2.flip {l:List Ed} {c d:Nat} (h:Go2 l c d):Go2 l d c:=(Cn.symm h).mono fun _ _ e=>e.flip
def ek (c d:Nat):Ed:=(((min c d:Nat):Int),((max c d:Nat):Int))
theorem ek_comm (c d:Nat):ek c d=ek d c:=by unfold ek;rw [Nat.min_comm,Nat.max_comm]
theorem ek_inj {c d x y:Nat} (h:ek c d=ek x y):(c=x∧d=y)∨(c=y∧d=x):=by
 unfold ek at h;injection h with h1 h2;omega
structure Wk where
 wh:List Int
 lo:List Int
 pa:List Int
 tm:Nat
 ed:List Ed
 jo:List Nat
def start (a p:Nat) (s:Wk):Wk:={ s with tm:=s.tm+1,wh:=s.wh.set a ((s.tm+1:Nat):Int),lo:=s.lo.set a ((s.tm+1:Nat):Int),pa:=s.pa.set a (p:Int) }
def low (a:Nat) (x:Int) (s:Wk):Wk:={ s with lo:=s.lo.set a (min (g s.lo a) x) }
def tell (a b:Nat) (s:Wk):Wk:=if g s.wh a < g s.lo b then { s with ed:=s.ed++[ek a b] } else s
def kid (rec:Nat→Wk→Wk) (a fr:Nat) (q:Wk × Nat × Bool) (b:Nat):Wk × Nat × Bool:=
 if b=fr then q
 else if 0 < g q.1.wh b then (low a (g q.1.wh b) q.1,q.2)
 else
  let s:=rec b q.1
  let s:=low a (g s.lo b) s
  (tell a b s,q.2.1+1,q.2.2 || decide (g s.wh a≤g s.lo b))
def fin (a fr:Nat) (q:Wk × Nat × Bool):Wk:=if (fr≠a∧q.2.2=true)∨(fr=a∧1 < q.2.1) then { q.1 with jo:=q.1.jo++[a] } else q.1
def visit (N:Nat→List Nat) (p:Nat):Nat→Nat→Nat→Wk→Wk
 | 0,_,_,s=>s
 | f+1,a,fr,s=>fin a fr ((N a).foldl (kid (fun b s=>visit N p f b a s) a fr) (start a p s,0,false))
structure Ok (n:Nat) (s:Wk):Prop where
 wl:s.wh.length=n
 ll:s.lo.length=n
 pl:s.pa.length=n
 le:∀ v,v < n→g s.wh v≤(s.tm:Int)
 ge:∀ v,v < n→0≤g s.wh v
def V (s:Wk) (v:Nat):Prop:=0 < g s.wh v
structure Pre (n:Nat) (l:List Ed) (a fr:Nat) (s:Wk):Prop extends Ok n s where
 an:a < n
 av:¬ V s a
 fr1:fr≠a→V s fr∧adj l fr a
 bnd:∀ u v,V s u→adj l u v→v < n→¬ V s v→fr≠a∧Cn (In l (V s)) fr u
structure Mid (n:Nat) (l:List Ed) (a fr p:Nat) (s s':Wk) (T M:Nat→Prop) (E:List Ed):Prop extends Ok n s' where
 tm:s.tm+1≤s'.tm
 vis:∀ v,V s' v↔V s v∨T v
 old:∀ v,V s v→g s'.wh v=g s.wh v∧g s'.lo v=g s.lo v∧g s'.pa v=g s.pa v
 new:∀ v,T v→v < n∧¬ V s v∧((s.tm+1:Nat):Int)≤g s'.wh v∧g s'.pa v=(p:Int)
 ta:T a
 wa:g s'.wh a=((s.tm+1:Nat):Int)
 con:∀ v,T v→Cn (In l T) a v
 clo:∀ v u,T v→adj l v u→u < n→(v=a→M u)→T u∨V s u
 low1:g s'.lo a≤g s'.wh a
 low2:∀ v u,T v→adj l v u→u < n→(v=a→M u)→V s u→¬ (v=a∧u=fr)→g s'.lo a≤g s.wh u
 low3:g s'.lo a=g s'.wh a∨∃ v u,T v∧adj l v u∧u < n∧V s u∧¬ (v=a∧u=fr)∧g s'.lo a=g s.wh u
 ed:s'.ed=s.ed++E
 edm:∀ e∈E,∃ c d,e=ek c d∧T c∧T d∧adj l c d
 edn:E.Nodup
 edb:∀ c d,T c→T d→adj l c d→(ek c d∈E↔¬ Go2 l c d)
def Post (n:Nat) (l:List Ed) (a fr p:Nat) (s s':Wk):Prop:=∃ T E,Mid n l a fr p s s' T (fun _=>True) E
theorem V.lt {n:Nat} {s:Wk} (h:s.wh.length=n) {v:Nat} (k:V s v):v < n:=by
 by_cases hv:v < n
 ·exact hv
 ·have:g s.wh v=-1:=by unfold g;rw [List.getD_eq_getElem?_getD,List.getElem?_eq_none (by omega)];rfl
  unfold V at k;omega
theorem begun {n:Nat} {l:List Ed} {a fr p:Nat} {s:Wk} (h:Pre n l a fr s) (hl:∀ u,¬ adj l u u):Mid n l a fr p s (start a p s) (fun v=>v=a) (fun _=>False) []:=by
 have wa:g (start a p s).wh a=((s.tm+1:Nat):Int):=g_set_self (by rw [h.wl];exact h.an)
 have wn:∀ v,v≠a→g (start a p s).wh v=g s.wh v:=fun v hv=>g_set_ne (Ne.symm hv)
 have la:g (start a p s).lo a=((s.tm+1:Nat):Int):=g_set_self (by rw [h.ll];exact h.an)
 have ln:∀ v,v≠a→g (start a p s).lo v=g s.lo v:=fun v hv=>g_set_ne (Ne.symm hv)
 have pa':g (start a p s).pa a=(p:Int):=g_set_self (by rw [h.pl];exact h.an)
 have pn:∀ v,v≠a→g (start a p s).pa v=g s.pa v:=fun v hv=>g_set_ne (Ne.symm hv)
 have hne:∀ v,V s v→v≠a:=fun v hv e=>h.av (e ▸ hv)
 refine { wl:=by simp [start,h.wl],ll:=by simp [start,h.ll],pl:=by simp [start,h.pl],le:=fun v hv=>?_,ge:=fun v hv=>?_,tm:=Nat.le_refl _,vis:=fun v=>?_,old:=fun v hv=>⟨wn v (hne v hv),ln v (hne v hv),pn v (hne v hv)⟩,new:=fun v hv=>?_,ta:=rfl,wa:=wa,con:=fun v hv=>by subst hv;exact .refl _,clo:=fun v u hv hadj hu hm=>absurd (hm hv) id,low1:=by rw [la,wa];exact Int.le_refl _,low2:=fun v u hv _ _ hm=>absurd (hm hv) id,low3:=.inl (by rw [la,wa]),ed:=by simp [start],edm:=fun e he=>by simp at he,edn:=List.nodup_nil,edb:=fun c d hc hd hadj=>?_ }
 ·by_cases e:v=a
  ·subst e;rw [wa];simp [start]
  ·rw [wn v e];have:=h.le v hv;simp [start];omega
 ·by_cases e:v=a
  ·subst e;rw [wa];omega
  ·rw [wn v e];exact h.ge v hv
 ·by_cases e:v=a
  ·subst e;simp [V,wa]
  ·simp [V,wn v e,e]
 ·subst hv;exact ⟨h.an,h.av,by rw [wa];exact Int.le_refl _,pa'⟩
 ·subst hc;subst hd;exact absurd hadj (hl _)
end DF
end Go.Proofs.YtkoajpeabicpdaaGreatDoor
namespace Go.Proofs.YtkoajpeabicpdaaGreatDoor
open Go
namespace DF
open PD (g adj Ed adj_symm g_set_self g_set_ne)
theorem Mid.skip {n:Nat} {l:List Ed} {a fr p b:Nat} {s s':Wk} {T M:Nat→Prop} {E:List Ed} (h:Mid n l a fr p s s' T M E) (k:Pre n l a fr s) (hl:∀ u,¬ adj l u u) (hb:adj l a b) (e:b=fr):Mid n l a fr p s s' T (fun u=>M u∨u=b) E:=by
 have hne:fr≠a:=fun q=>by subst e;subst q;exact hl _ hb
 refine { h with clo:=fun v u hv hadj hu hm=>?_,low2:=fun v u hv hadj hu hm hV hn=>?_ }
 ·by_cases hva:v=a
  ·rcases hm hva with hm | hm
   ·exact h.clo v u hv hadj hu fun _=>hm
   ·rw [hm,e];exact .inr (k.fr1 hne).1
  ·exact h.clo v u hv hadj hu fun q=>absurd q hva
 ·by_cases hva:v=a
  ·rcases hm hva with hm | hm
   ·exact h.low2 v u hv hadj hu (fun _=>hm) hV hn
   ·exact absurd ⟨hva,hm.trans e⟩ hn
  ·exact h.low2 v u hv hadj hu (fun q=>absurd q hva) hV hn
theorem low_lo {a:Nat} {x:Int} {s:Wk} (h:a < s.lo.length):g (low a x s).lo a=min (g s.lo a) x:=g_set_self h
theorem low_ne {a v:Nat} {x:Int} {s:Wk} (h:v≠a):g (low a x s).lo v=g s.lo v:=g_set_ne (Ne.symm h)
theorem Mid.seen {n:Nat} {l:List Ed} {a fr p b:Nat} {s s':Wk} {T M:Nat→Prop} {E:List Ed} (h:Mid n l a fr p s s' T M E) (k:Pre n l a fr s) (hbn:b < n) (hb:adj l a b) (e:b≠fr) (hv:V s' b):Mid n l a fr p s (low a (g s'.wh b) s') T (fun u=>M u∨u=b) E:=by
 have hal:a < s'.lo.length:=by rw [h.ll];exact k.an
 have hne:∀ v,V s v→v≠a:=fun v hv e=>k.av (e ▸ hv)
 have hlo:g (low a (g s'.wh b) s').lo a=min (g s'.lo a) (g s'.wh b):=low_lo hal
 have hsb:V s b→g s'.wh b=g s.wh b:=fun q=>(h.old b q).1
 have htb:T b→g s'.lo a≤g s'.wh b:=fun q=>by
  have h1:=(h.new b q).2.2.1
  have h2:=h.low1
  rw [h.wa] at h2;omega
 have hcl:T b∨V s b:=((h.vis b).1 hv).symm
 refine { h with ll:=by simp [low,h.ll],old:=fun v q=>?_,clo:=fun v u hv hadj hu hm=>?_,low1:=?_,low2:=fun v u hv hadj hu hm hV hn=>?_,low3:=?_ }
 ·exact ⟨(h.old v q).1,by rw [low_ne (hne v q)];exact (h.old v q).2.1,(h.old v q).2.2⟩
 ·by_cases hva:v=a
  ·rcases hm hva with hm | hm
   ·exact h.clo v u hv hadj hu fun _=>hm
   ·rw [hm];exact hcl
  ·exact h.clo v u hv hadj hu fun q=>absurd q hva
 ·show g (low a (g s'.wh b) s').lo a≤g s'.wh a
  have:=h.low1
  rw [hlo];omega
 ·rw [hlo]
  by_cases hva:v=a
  ·rcases hm hva with hm | hm
   ·have:=h.low2 v u hv hadj hu (fun _=>hm) hV hn;omega
   ·subst hm;have:=hsb hV;omega
  ·have:=h.low2 v u hv hadj hu (fun q=>absurd q hva) hV hn;omega
 ·show g (low a (g s'.wh b) s').lo a=g s'.wh a∨_
  rw [hlo]
  by_cases hlt:g s'.wh b < g s'.lo a
  ·rcases hcl with q | q
   ·have:=htb q;omega
   ·exact .inr ⟨a,b,h.ta,hb,hbn,q,fun r=>e r.2,by rw [←hsb q];omega⟩
  ·rw [show min (g s'.lo a) (g s'.wh b)=g s'.lo a by omega]
   exact h.low3
theorem Mid.pre {n:Nat} {l:List Ed} {a fr p b:Nat} {s s':Wk} {T M:Nat→Prop} {E:List Ed} (h:Mid n l a fr p s s' T M E) (k:Pre n l a fr s) (hl:∀ u,¬ adj l u u) (hbn:b < n) (hb:adj l a b) (hv:¬ V s' b):Pre n l b a s':=by
 have hab:a≠b:=fun q=>by subst q;exact hl _ hb
 refine { wl:=h.wl,ll:=h.ll,pl:=h.pl,le:=h.le,ge:=h.ge,an:=hbn,av:=hv,fr1:=fun _=>⟨(h.vis a).2 (.inr h.ta),hb⟩,bnd:=fun u v hu hadj hvn hnv=>⟨hab,?_⟩ }
 have hns:¬ V s v:=fun q=>hnv ((h.vis v).2 (.inl q))
 rcases (h.vis u).1 hu with q | q
 ·obtain ⟨h1,h2⟩:=k.bnd u v q hadj hvn hns
  have h3:Cn (In l (V s')) fr u:=In.mono (fun v q=>(h.vis v).2 (.inl q)) h2
  obtain ⟨f1,f2⟩:=k.fr1 h1
  exact .trans (.symm (.edge ⟨f2,(h.vis fr).2 (.inl f1),(h.vis a).2 (.inr h.ta)⟩)) h3
 ·exact In.mono (fun v q=>(h.vis v).2 (.inr q)) (h.con u q)
end DF
end Go.Proofs.YtkoajpeabicpdaaGreatDoor
namespace Go.Proofs.YtkoajpeabicpdaaGreatDoor
open Go
namespace DF
open PD (g adj Ed adj_symm g_set_self g_set_ne)
structure Two (n:Nat) (l:List Ed) (a b:Nat) (s1 s2:Wk) (T Tb:Nat→Prop):Prop where
 ne:a≠b
 off:∀ v,Tb v→¬ V s1 v
 on:∀ v,T v→V s1 v
 via:∀ v u,T v→Tb u→adj l v u→v=a
 only:(∀ v u,Tb v→V s1 u→adj l v u→v=b∧u=a)↔¬ Go2 l a b
 test:g s2.wh a < g s2.lo b↔¬ Go2 l a b
theorem Mid.two {n:Nat} {l:List Ed} {a fr p b:Nat} {s s1 s2:Wk} {T M Tb:Nat→Prop} {E Eb:List Ed} (h:Mid n l a fr p s s1 T M E) (k:Pre n l a fr s) (hl:∀ u,¬ adj l u u) (hin:∀ u v,adj l u v→v < n) (hb:adj l a b) (hv:¬ V s1 b) (r:Mid n l b a p s1 s2 Tb (fun _=>True) Eb):Two n l a b s1 s2 T Tb:=by
 have hab:a≠b:=fun q=>by subst q;exact hl _ hb
 have hbn:=hin a b hb
 have off:∀ v,Tb v→¬ V s1 v:=fun v q=>(r.new v q).2.1
 have on:∀ v,T v→V s1 v:=fun v q=>(h.vis v).2 (.inr q)
 have va:V s1 a:=on a h.ta
 have via:∀ v u,T v→Tb u→adj l v u→v=a:=fun v u hT hTb hadj=>by
  apply Classical.byContradiction
  intro q
  have:=h.clo v u hT hadj (hin _ _ hadj) fun e=>absurd e q
  exact off u hTb ((h.vis u).2 this.symm)
 have ends:∀ v u,Tb v→V s1 u→adj l v u→V s u∨u=a:=fun v u hTb hV hadj=>by
  rcases (h.vis u).1 hV with q | q
  ·exact .inl q
  ·exact .inr (via u v q hTb (adj_symm hadj))
 have wle:∀ u,V s u∨u=a→g s1.wh u≤g s1.wh a:=fun u q=>by
  rcases q with q | q
  ·have h1:=(h.old u q).1
   have h2:=k.le u (V.lt k.wl q)
   rw [h1,h.wa];omega
  ·subst q;exact Int.le_refl _
 have wa2:g s2.wh a=g s1.wh a:=(r.old a va).1
 have only:(∀ v u,Tb v→V s1 u→adj l v u→v=b∧u=a)↔¬ Go2 l a b:=by
  constructor
  ·intro q hgo
   have hk:Tb a↔Tb b:=Cn.keeps (S:=Tb) (fun u v e=>by
    have go1:∀ u v,Mn (adj l) a b u v→Tb u→Tb v:=fun u v e hu=>by
     rcases r.clo u v hu e.1 (hin _ _ e.1) (fun _=>trivial) with w | w
     ·exact w
     ·exact absurd (q u v hu w e.1) (fun w=>e.2.2 ⟨w.1,w.2⟩)
    exact ⟨go1 u v e,go1 v u ⟨adj_symm e.1,fun w=>e.2.2 ⟨w.2,w.1⟩,fun w=>e.2.1 ⟨w.2,w.1⟩⟩⟩) hgo
   exact off a (hk.2 r.ta) va
  ·intro hno v u hTb hV hadj
   apply Classical.byContradiction
   intro q
   apply hno
   have hvn:v < n:=(r.new v hTb).1
   have c1:Cn (In l (V s1)) a u:=((h.pre k hl hbn hb hv).bnd u v hV (adj_symm hadj) hvn (off v hTb)).2
   have c2:Cn (Mn (adj l) a b) a u:=In.mn (fun w=>hv w.2) c1
   have c3:Cn (Mn (adj l) a b) u v:=.edge ⟨adj_symm hadj,fun w=>q ⟨w.2,w.1⟩,fun w=>hv (w.1 ▸ hV)⟩
   have c4:Cn (Mn (adj l) a b) b v:=In.mn (fun w=>off a w.1 va) (r.con v hTb)
   exact .trans (.trans c2 c3) (.symm c4)
 refine ⟨hab,off,on,via,only,?_⟩
 rw [←only]
 constructor
 ·intro q v u hTb hV hadj
  apply Classical.byContradiction
  intro w
  have h1:=r.low2 v u hTb hadj (V.lt h.wl hV) (fun _=>trivial) hV w
  have h2:=wle u (ends v u hTb hV hadj)
  omega
 ·intro q
  rcases r.low3 with w | ⟨v,u,h1,h2,_,h3,h4,_⟩
  ·rw [w,r.wa,wa2]
   have:=h.le a k.an
   omega
  ·exact absurd (q v u h1 h3 h2) h4
theorem Mid.come {n:Nat} {l:List Ed} {a fr p b:Nat} {s s1 s2:Wk} {T M:Nat→Prop} {E:List Ed} (h:Mid n l a fr p s s1 T M E) (k:Pre n l a fr s) (hl:∀ u,¬ adj l u u) (hin:∀ u v,adj l u v→v < n) (hb:adj l a b) (hv:¬ V s1 b) (hp:Post n l b a p s1 s2):
  ∃ T' E',Mid n l a fr p s (tell a b (low a (g s2.lo b) s2)) T' (fun u=>M u∨u=b) E':=by
 obtain ⟨Tb,Eb,r⟩:=hp
 have two:=h.two k hl hin hb hv r
 have hal:a < s2.lo.length:=by rw [r.ll];exact k.an
 have hlo:g (low a (g s2.lo b) s2).lo a=min (g s2.lo a) (g s2.lo b):=low_lo hal
 have hlb:g (low a (g s2.lo b) s2).lo b=g s2.lo b:=low_ne two.ne.symm
 obtain ⟨X,hX,hXm,hXn⟩:∃ X:List Ed,(tell a b (low a (g s2.lo b) s2)).ed=s2.ed++X∧(∀ e,e∈X↔e=ek a b∧¬ Go2 l a b)∧X.Nodup:=by
  by_cases q:g s2.wh a < g s2.lo b
  ·refine ⟨[ek a b],?_,fun e=>?_,by simp⟩
   ·unfold tell;rw [if_pos (by rw [hlb];exact q)];rfl
   ·simp [two.test.1 q]
  ·refine ⟨[],?_,fun e=>?_,by simp⟩
   ·unfold tell;rw [if_neg (by rw [hlb];exact q)];simp [low]
   ·simp;intro _;exact Classical.byContradiction fun w=>q (two.test.2 w)
 have e1:(tell a b (low a (g s2.lo b) s2)).wh=s2.wh:=by unfold tell;split <;> rfl
 have e2:(tell a b (low a (g s2.lo b) s2)).lo=(low a (g s2.lo b) s2).lo:=by unfold tell;split <;> rfl
 have e3:(tell a b (low a (g s2.lo b) s2)).pa=s2.pa:=by unfold tell;split <;> rfl
 have e4:(tell a b (low a (g s2.lo b) s2)).tm=s2.tm:=by unfold tell;split <;> rfl
 generalize tell a b (low a (g s2.lo b) s2)=s4 at *
 have hne:∀ v,V s v→v≠a:=fun v hv e=>k.av (e ▸ hv)
 have va:V s1 a:=two.on a h.ta
 have vs:∀ v,V s v→V s1 v:=fun v q=>(h.vis v).2 (.inl q)
 have wa2:g s2.wh a=g s1.wh a:=(r.old a va).1
 have la2:g s2.lo a=g s1.lo a:=(r.old a va).2.1
 have lb1:g s2.lo b≤g s2.wh b:=r.low1
 have tb:∀ v,Tb v→¬ T v:=fun v q w=>two.off v q (two.on v w)
 have l4:g s4.lo a=min (g s1.lo a) (g s2.lo b):=by rw [e2,hlo,la2]
 refine ⟨fun v=>T v∨Tb v,E++(Eb++X),{ wl:=by rw [e1,r.wl],ll:=by rw [e2];simp [low,r.ll],pl:=by rw [e3,r.pl],le:=fun v hv=>by rw [e1,e4];exact r.le v hv,ge:=fun v hv=>by rw [e1];exact r.ge v hv,tm:=by rw [e4];have:=h.tm;have:=r.tm;omega,vis:=fun v=>?_,old:=fun v q=>?_,new:=fun v q=>?_,ta:=.inl h.ta,wa:=by rw [e1,wa2,h.wa],con:=fun v q=>?_,clo:=fun v u q hadj hu hm=>?_,low1:=?_,low2:=fun v u q hadj hu hm hV hn=>?_,low3:=?_,ed:=by rw [hX,r.ed,h.ed];simp,edm:=fun e he=>?_,edn:=?_,edb:=fun c d hc hd hadj=>?_ }⟩
 ·show 0 < g s4.wh v↔_
  rw [e1]
  have q1:=r.vis v
  have q2:=h.vis v
  unfold V at *
  rw [q1,q2]
  exact ⟨fun w=>by rcases w with (w | w) | w;exact .inl w;exact .inr (.inl w);exact .inr (.inr w),fun w=>by rcases w with w | w | w;exact .inl (.inl w);exact .inl (.inr w);exact .inr w⟩
 ·have q1:=h.old v q
  have q2:=r.old v (vs v q)
  exact ⟨by rw [e1,q2.1,q1.1],by rw [e2,low_ne (hne v q),q2.2.1,q1.2.1],by rw [e3,q2.2.2,q1.2.2]⟩
 ·rcases q with q | q
  ·have q1:=h.new v q
   have q2:=r.old v (two.on v q)
   exact ⟨q1.1,q1.2.1,by rw [e1,q2.1];exact q1.2.2.1,by rw [e3,q2.2.2];exact q1.2.2.2⟩
  ·have q1:=r.new v q
   have:=h.tm
   exact ⟨q1.1,fun w=>q1.2.1 (vs v w),by rw [e1];have:=q1.2.2.1;omega,by rw [e3];exact q1.2.2.2⟩
 ·rcases q with q | q
  ·exact In.mono (fun v q=>.inl q) (h.con v q)
  ·exact .trans (.edge ⟨hb,.inl h.ta,.inr r.ta⟩) (In.mono (fun v q=>.inr q) (r.con v q))
 ·rcases q with q | q
  ·by_cases hva:v=a
   ·rcases hm hva with hm | hm
    ·rcases h.clo v u q hadj hu (fun _=>hm) with w | w
     ·exact .inl (.inl w)
     ·exact .inr w
    ·rw [hm];exact .inl (.inr r.ta)
   ·rcases h.clo v u q hadj hu (fun w=>absurd w hva) with w | w
    ·exact .inl (.inl w)
    ·exact .inr w
  ·rcases r.clo v u q hadj hu (fun _=>trivial) with w | w
   ·exact .inl (.inr w)
   ·rcases (h.vis u).1 w with w | w
    ·exact .inr w
    ·exact .inl (.inl w)
 ·rw [l4,e1,wa2]
  have:=h.low1
  omega
 ·rw [l4]
  rcases q with q | q
  ·by_cases hva:v=a
   ·rcases hm hva with hm | hm
    ·have:=h.low2 v u q hadj hu (fun _=>hm) hV hn;omega
    ·subst hm;exact absurd (vs _ hV) hv
   ·have:=h.low2 v u q hadj hu (fun w=>absurd w hva) hV hn;omega
  ·have h1:=r.low2 v u q hadj hu (fun _=>trivial) (vs u hV) (fun w=>hne u hV w.2)
   rw [(h.old u hV).1] at h1
   omega
 ·rw [l4,e1,wa2]
  by_cases hlt:g s2.lo b < g s1.lo a
  ·have hla:=h.low1
   rcases r.low3 with w | ⟨v,u,h1,h2,h3,h4,h5,h6⟩
   ·rw [r.wa] at w
    have:=h.le a k.an
    omega
   ·rcases (h.vis u).1 h4 with w | w
    ·refine .inr ⟨v,u,.inr h1,h2,h3,w,fun z=>two.off v h1 (z.1 ▸ va),?_⟩
     rw [←(h.old u w).1,←h6];omega
    ·have:u=a:=two.via u v w h1 (adj_symm h2)
     subst this
     omega
  ·rw [show min (g s1.lo a) (g s2.lo b)=g s1.lo a by omega]
   rcases h.low3 with w | ⟨v,u,h1,h2⟩
   ·exact .inl w
   ·exact .inr ⟨v,u,.inl h1,h2⟩
 ·simp only [List.mem_append] at he
  rcases he with he | he | he
  ·obtain ⟨c,d,h1,h2,h3,h4⟩:=h.edm e he
   exact ⟨c,d,h1,.inl h2,.inl h3,h4⟩
  ·obtain ⟨c,d,h1,h2,h3,h4⟩:=r.edm e he
   exact ⟨c,d,h1,.inr h2,.inr h3,h4⟩
  ·exact ⟨a,b,((hXm e).1 he).1,.inl h.ta,.inr r.ta,hb⟩
 ·have d1:∀ e∈E,e ∉ Eb:=fun e he hb'=>by
   obtain ⟨c,d,h1,h2,h3,_⟩:=h.edm e he
   obtain ⟨c',d',h1',h2',h3',_⟩:=r.edm e hb'
   rcases ek_inj (h1.symm.trans h1') with ⟨q,_⟩ | ⟨q,_⟩
   ·exact tb c' h2' (q ▸ h2)
   ·exact tb d' h3' (q ▸ h2)
  have d2:∀ e∈E,e ∉ X:=fun e he hx=>by
   obtain ⟨c,d,h1,h2,h3,_⟩:=h.edm e he
   rcases ek_inj (h1.symm.trans ((hXm e).1 hx).1) with ⟨_,q⟩ | ⟨q,_⟩
   ·exact tb b r.ta (q ▸ h3)
   ·exact tb b r.ta (q ▸ h2)
  have d3:∀ e∈Eb,e ∉ X:=fun e he hx=>by
   obtain ⟨c,d,h1,h2,h3,_⟩:=r.edm e he
   rcases ek_inj (h1.symm.trans ((hXm e).1 hx).1) with ⟨q,_⟩ | ⟨_,q⟩
   ·exact tb a (q ▸ h2) h.ta
   ·exact tb a (q ▸ h3) h.ta
  rw [List.nodup_append]
  refine ⟨h.edn,?_,fun e he e' he' q=>?_⟩
  ·rw [List.nodup_append]
   exact ⟨r.edn,hXn,fun e he e' he' q=>d3 e he (q ▸ he')⟩
  ·subst q
   rcases List.mem_append.1 he' with w | w
   ·exact d1 e he w
   ·exact d2 e he w
 ·have nE:∀ c d,Tb d→ek c d ∉ E:=fun c d hd hm=>by
   obtain ⟨c',d',h1,h2,h3,_⟩:=h.edm _ hm
   rcases ek_inj h1 with ⟨_,q⟩ | ⟨_,q⟩
   ·exact tb d hd (q ▸ h3)
   ·exact tb d hd (q ▸ h2)
  have nB:∀ c d,T c→ek c d ∉ Eb:=fun c d hc hm=>by
   obtain ⟨c',d',h1,h2,h3,_⟩:=r.edm _ hm
   rcases ek_inj h1 with ⟨q,_⟩ | ⟨q,_⟩
   ·exact tb c' h2 (q ▸ hc)
   ·exact tb d' h3 (q ▸ hc)
  have cross:∀ d,Tb d→adj l a d→(ek a d∈E++(Eb++X)↔¬ Go2 l a d):=fun d hd hadj=>by
   have q1:=nE a d hd
   have q2:=nB a d h.ta
   simp only [List.mem_append,q1,q2,false_or,hXm]
   by_cases hdb:d=b
   ·subst hdb;simp
   ·have hgo:Go2 l a d:=by
     have c1:Cn (Mn (adj l) a d) a b:=.edge ⟨hb,fun w=>hdb w.2.symm,fun w=>two.ne w.2.symm⟩
     exact .trans c1 (In.mn (fun w=>tb a w.1 h.ta) (r.con d hd))
    constructor
    ·rintro ⟨q,_⟩
     rcases ek_inj q with ⟨_,w⟩ | ⟨_,w⟩
     ·exact absurd w hdb
     ·exact absurd (w ▸ hd) (fun w=>tb a w h.ta)
    ·intro q;exact absurd hgo q
  rcases hc with hc | hc <;> rcases hd with hd | hd
  ·have q2:=nB c d hc
   have q3:ek c d ∉ X:=fun hm=>by
    rcases ek_inj ((hXm _).1 hm).1 with ⟨_,w⟩ | ⟨w,_⟩
    ·exact tb b r.ta (w ▸ hd)
    ·exact tb b r.ta (w ▸ hc)
   simp only [List.mem_append,q2,q3,or_false]
   exact h.edb c d hc hd hadj
  ·obtain rfl:=two.via c d hc hd hadj
   exact cross d hd hadj
  ·obtain rfl:=two.via d c hd hc (adj_symm hadj)
   rw [ek_comm,cross c hc (adj_symm hadj)]
   exact ⟨fun q w=>q w.flip,fun q w=>q w.flip⟩
  ·have q1:=nE c d hd
   have q3:ek c d ∉ X:=fun hm=>by
    rcases ek_inj ((hXm _).1 hm).1 with ⟨w,_⟩ | ⟨_,w⟩
    ·exact tb a (w ▸ hc) h.ta
    ·exact tb a (w ▸ hd) h.ta
   simp only [List.mem_append,q1,q3,or_false,false_or]
   exact r.edb c d hc hd hadj
end DF
end Go.Proofs.YtkoajpeabicpdaaGreatDoor
namespace Go.Proofs.YtkoajpeabicpdaaGreatDoor
open Go
namespace DF
open PD (g adj Ed adj_symm g_set_self g_set_ne cnt cnt_lt cnt_le)
def Bes (n:Nat) (l:List Ed) (N:Nat→List Nat):Prop:=∀ v,v < n→∀ x,x∈N v↔x < n∧adj l v x
def unv (n:Nat) (s:Wk):Nat:=cnt (fun v=>decide (¬ 0 < g s.wh v)) n
theorem Mid.fewer {n:Nat} {l:List Ed} {a fr p:Nat} {s s':Wk} {T M:Nat→Prop} {E:List Ed} (h:Mid n l a fr p s s' T M E) (k:Pre n l a fr s):unv n s'+1≤unv n s:=by
 refine cnt_lt (u:=a) (fun i _ hi=>?_) k.an ?_ ?_
 ·simp only [decide_eq_true_eq] at hi ⊢
  exact fun w=>hi ((h.vis i).2 (.inl w))
 ·simpa [V] using k.av
 ·have:=(h.vis a).2 (.inr h.ta)
  simpa [V] using this
theorem Mid.ends {n:Nat} {l:List Ed} {a fr p:Nat} {s:Wk} {q:Wk × Nat × Bool} {T M:Nat→Prop} {E:List Ed} (h:Mid n l a fr p s q.1 T M E):Mid n l a fr p s (fin a fr q) T M E:=by
 unfold fin
 split
 ·exact { h with }
 ·exact h
theorem Mid.more {n:Nat} {l:List Ed} {a fr p:Nat} {s s':Wk} {T M M':Nat→Prop} {E:List Ed} (h:Mid n l a fr p s s' T M E) (hm:∀ u,u < n→adj l a u→M' u→M u):Mid n l a fr p s s' T M' E:=
 { h with
  clo:=fun v u hv hadj hu q=>h.clo v u hv hadj hu fun e=>hm u hu (e ▸ hadj) (q e)
  low2:=fun v u hv hadj hu q=>h.low2 v u hv hadj hu fun e=>hm u hu (e ▸ hadj) (q e) }
theorem Mid.one {n:Nat} {l:List Ed} {a fr p b:Nat} {s:Wk} {q:Wk × Nat × Bool} {T M:Nat→Prop} {E:List Ed} {rec:Nat→Wk→Wk} (h:Mid n l a fr p s q.1 T M E) (k:Pre n l a fr s) (hl:∀ u,¬ adj l u u) (hin:∀ u v,adj l u v→v < n) (hb:adj l a b) (hrec:¬ V q.1 b→Post n l b a p q.1 (rec b q.1)):
  ∃ T' E',Mid n l a fr p s (kid rec a fr q b).1 T' (fun u=>M u∨u=b) E':=by
 unfold kid
 by_cases e:b=fr
 ·rw [if_pos e]
  exact ⟨T,E,h.skip k hl hb e⟩
 ·rw [if_neg e]
  by_cases hv:0 < g q.1.wh b
  ·rw [if_pos hv]
   exact ⟨T,E,h.seen k (hin _ _ hb) hb e hv⟩
  ·rw [if_neg hv]
   exact h.come k hl hin hb hv (hrec hv)
theorem Mid.runs {n:Nat} {l:List Ed} {a fr p f:Nat} {s:Wk} {rec:Nat→Wk→Wk} (k:Pre n l a fr s) (hl:∀ u,¬ adj l u u) (hin:∀ u v,adj l u v→v < n) (hf:unv n s≤f+1) (hrec:∀ b q,Pre n l b a q→unv n q≤f→Post n l b a p q (rec b q)):
  ∀ (xs:List Nat) (M:Nat→Prop) (q:Wk × Nat × Bool),(∃ T E,Mid n l a fr p s q.1 T M E)→(∀ x,x∈xs→adj l a x)→∃ T E,Mid n l a fr p s (xs.foldl (kid rec a fr) q).1 T (fun u=>M u∨u∈xs) E
 | [],M,q,⟨T,E,h⟩,_=>⟨T,E,h.more (fun u _ _ w=>by simpa using w)⟩
 | x::xs,M,q,⟨T,E,h⟩,hx=>by
  have hb:=hx x (List.mem_cons_self ..)
  have h1:=h.one (rec:=rec) k hl hin hb (fun hv=>hrec x q.1 (h.pre k hl (hin _ _ hb) hb hv) (by have:=h.fewer k;omega))
  obtain ⟨T',E',h2⟩:=Mid.runs k hl hin hf hrec xs (fun u=>M u∨u=x) (kid rec a fr q x) h1 (fun y hy=>hx y (List.mem_cons_of_mem _ hy))
  refine ⟨T',E',h2.more fun u _ _ w=>?_⟩
  rcases w with w | w
  ·exact .inl (.inl w)
  ·rcases List.mem_cons.1 w with w | w
   ·exact .inl (.inr w)
   ·exact .inr w
theorem visit_post {n:Nat} {l:List Ed} {N:Nat→List Nat} (hN:Bes n l N) (hl:∀ u,¬ adj l u u) (hin:∀ u v,adj l u v→v < n) (p:Nat):∀ (f a fr:Nat) (s:Wk),Pre n l a fr s→unv n s≤f→Post n l a fr p s (visit N p f a fr s)
 | 0,a,fr,s,k,hf=>by
  have:=(begun (p:=p) k hl).fewer k
  omega
 | f+1,a,fr,s,k,hf=>by
  obtain ⟨T,E,h⟩:=Mid.runs k hl hin hf (fun b q hq hf=>visit_post hN hl hin p f b a q hq hf) (N a) (fun _=>False) (start a p s,0,false) ⟨_,_,begun k hl⟩ (fun x hx=>((hN a k.an x).1 hx).2)
  exact ⟨T,E,(h.more fun u hu hadj _=>.inr ((hN a k.an u).2 ⟨hu,hadj⟩)).ends⟩
def zero (n:Nat):Wk:=⟨List.replicate n 0,List.replicate n 0,List.replicate n 0,0,[],[]⟩
def walked (N:Nat→List Nat) (n:Nat):Nat→Wk
 | 0=>zero n
 | k+1=>if g (walked N n k).wh k=0 then visit N k n k k (walked N n k) else walked N n k
structure All (n:Nat) (l:List Ed) (k:Nat) (s:Wk):Prop extends Ok n s where
 all:∀ v,v < k→v < n→V s v
 clo:∀ u v,V s u→adj l u v→V s v
 pa:∀ v,V s v→∃ r:Nat,g s.pa v=(r:Int)∧r≤v∧Cn (adj l) r v
 pe:∀ u v,V s u→adj l u v→g s.pa u=g s.pa v
 edm:∀ e∈s.ed,∃ c d,e=ek c d∧V s c∧V s d∧adj l c d
 edn:s.ed.Nodup
 edb:∀ c d,V s c→V s d→adj l c d→(ek c d∈s.ed↔¬ Go2 l c d)
theorem g_zero (n v:Nat):g (List.replicate n 0) v≤0∧(v < n→g (List.replicate n 0) v=0):=by
 unfold g
 rw [List.getD_eq_getElem?_getD,List.getElem?_replicate]
 split
 ·simp
 ·simp;omega
theorem All.start (n:Nat) (l:List Ed):All n l 0 (zero n):=by
 have hv:∀ v,¬ V (zero n) v:=fun v h=>by have:=(g_zero n v).1;unfold V zero at h;simp only at h;omega
 exact { wl:=by simp [zero],ll:=by simp [zero],pl:=by simp [zero],le:=fun v _=>(g_zero n v).1,ge:=fun v h=>by rw [show g (zero n).wh v=0 from (g_zero n v).2 h];exact Int.le_refl _,all:=fun v h=>absurd h (Nat.not_lt_zero _),clo:=fun u v h=>absurd h (hv u),pa:=fun v h=>absurd h (hv v),pe:=fun u v h=>absurd h (hv u),edm:=fun e he=>by simp [zero] at he,edn:=by simp [zero],edb:=fun c d h=>absurd h (hv c) }
theorem All.pre {n:Nat} {l:List Ed} {k:Nat} {s:Wk} (h:All n l k s) (hk:k < n) (h0:¬ V s k):Pre n l k k s:=
 { wl:=h.wl,ll:=h.ll,pl:=h.pl,le:=h.le,ge:=h.ge,an:=hk,av:=h0,fr1:=fun q=>absurd rfl q,bnd:=fun u v hu hadj _ hv=>absurd (h.clo u v hu hadj) hv }
theorem All.step {n:Nat} {l:List Ed} {k:Nat} {s s':Wk} (h:All n l k s) (hk:k < n) (h0:¬ V s k) (hin:∀ u v,adj l u v→v < n) (hp:Post n l k k k s s'):All n l (k+1) s':=by
 obtain ⟨T,E,r⟩:=hp
 have nT:∀ v,T v→¬ V s v:=fun v q=>(r.new v q).2.1
 have cT:∀ u v,T u→adj l u v→T v:=fun u v q hadj=>by
  rcases r.clo u v q hadj (hin _ _ hadj) (fun _=>trivial) with w | w
  ·exact w
  ·exact absurd (h.clo v u w (adj_symm hadj)) (nT u q)
 have tV:∀ v,T v→V s' v:=fun v q=>(r.vis v).2 (.inr q)
 have sV:∀ v,V s v→V s' v:=fun v q=>(r.vis v).2 (.inl q)
 refine { r.toOk with all:=fun v hv hn=>?_,clo:=fun u v hu hadj=>?_,pa:=fun v hv=>?_,pe:=fun u v hu hadj=>?_,edm:=fun e he=>?_,edn:=?_,edb:=fun c d hc hd hadj=>?_ }
 ·by_cases e:v=k
  ·subst e;exact tV _ r.ta
  ·exact sV v (h.all v (by omega) hn)
 ·rcases (r.vis u).1 hu with q | q
  ·exact sV v (h.clo u v q hadj)
  ·exact tV v (cT u v q hadj)
 ·rcases (r.vis v).1 hv with q | q
  ·rw [(r.old v q).2.2];exact h.pa v q
  ·refine ⟨k,(r.new v q).2.2.2,?_,(r.con v q).mono fun _ _ e=>e.1⟩
   apply Classical.byContradiction
   intro w
   exact nT v q (h.all v (by omega) (r.new v q).1)
 ·rcases (r.vis u).1 hu with q | q
  ·rw [(r.old u q).2.2,(r.old v (h.clo u v q hadj)).2.2];exact h.pe u v q hadj
  ·rw [(r.new u q).2.2.2,(r.new v (cT u v q hadj)).2.2.2]
 ·rw [r.ed] at he
  rcases List.mem_append.1 he with he | he
  ·obtain ⟨c,d,h1,h2,h3,h4⟩:=h.edm e he
   exact ⟨c,d,h1,sV c h2,sV d h3,h4⟩
  ·obtain ⟨c,d,h1,h2,h3,h4⟩:=r.edm e he
   exact ⟨c,d,h1,tV c h2,tV d h3,h4⟩
 ·rw [r.ed,List.nodup_append]
  refine ⟨h.edn,r.edn,fun e he e' he' q=>?_⟩
  subst q
  obtain ⟨c,d,h1,h2,h3,_⟩:=h.edm _ he
  obtain ⟨c',d',h1',h2',h3',_⟩:=r.edm _ he'
  rcases ek_inj (h1.symm.trans h1') with ⟨q,_⟩ | ⟨q,_⟩
  ·exact nT c' h2' (q ▸ h2)
  ·exact nT d' h3' (q ▸ h2)
 ·have nE:∀ c d,V s c→ek c d ∉ E:=fun c d hc hm=>by
   obtain ⟨c',d',h1,h2,h3,_⟩:=r.edm _ hm
   rcases ek_inj h1 with ⟨q,_⟩ | ⟨q,_⟩
   ·exact nT c' h2 (q ▸ hc)
   ·exact nT d' h3 (q ▸ hc)
  have nS:∀ c d,T c→ek c d ∉ s.ed:=fun c d hc hm=>by
   obtain ⟨c',d',h1,h2,h3,_⟩:=h.edm _ hm
   rcases ek_inj h1 with ⟨q,_⟩ | ⟨q,_⟩
   ·exact nT c hc (q ▸ h2)
   ·exact nT c hc (q ▸ h3)
  rw [r.ed,List.mem_append]
  rcases (r.vis c).1 hc with q | q
  ·have w:=nE c d q
   simp only [w,or_false]
   exact h.edb c d q (h.clo c d q hadj) hadj
  ·have w:=nS c d q
   simp only [w,false_or]
   exact r.edb c d q (cT c d q hadj) hadj
theorem walked_all {n:Nat} {l:List Ed} {N:Nat→List Nat} (hN:Bes n l N) (hl:∀ u,¬ adj l u u) (hin:∀ u v,adj l u v→v < n):∀ k,k≤n→All n l k (walked N n k)
 | 0,_=>All.start n l
 | k+1,hk=>by
  have h:=walked_all hN hl hin k (by omega)
  unfold walked
  by_cases h0:g (walked N n k).wh k=0
  ·rw [if_pos h0]
   have hv:¬ V (walked N n k) k:=by unfold V;omega
   exact h.step (by omega) hv hin (visit_post hN hl hin k n k k _ (h.pre (by omega) hv) (cnt_le _ _))
  ·rw [if_neg h0]
   have hv:V (walked N n k) k:=by have:=h.ge k (by omega);unfold V;omega
   exact { h with all:=fun v q hn=>by by_cases e:v=k;(· subst e;exact hv);(· exact h.all v (by omega) hn) }
end DF
end Go.Proofs.YtkoajpeabicpdaaGreatDoor
namespace Go.Proofs.YtkoajpeabicpdaaGreatDoor
open Go
namespace DF
open PD (g adj Ed adj_symm g_set_self g_set_ne cnt cnt_lt cnt_le)
structure Bd (n ke kj:Nat) (s:Wk):Prop where
 un:s.tm+unv n s≤n
 ed:s.ed.length+ke≤s.tm
 jo:s.jo.length+kj≤s.tm
theorem Bd.begun {n ke kj a fr p:Nat} {l:List Ed} {s:Wk} (h:Bd n ke kj s) (k:Pre n l a fr s) (hl:∀ u,¬ adj l u u):Bd n (ke+1) (kj+1) (start a p s):=by
 have h1:=(DF.begun (p:=p) k hl).fewer k
 have:=h.un
 have:=h.ed
 have:=h.jo
 refine ⟨?_,?_,?_⟩
 ·show s.tm+1+unv n (start a p s)≤n
  omega
 ·show s.ed.length+(ke+1)≤s.tm+1
  omega
 ·show s.jo.length+(kj+1)≤s.tm+1
  omega
theorem unv_tell (n a b:Nat) (s:Wk):unv n (tell a b s)=unv n s:=by
 unfold tell
 split <;> rfl
theorem Bd.one {n ke kj a fr b:Nat} {q:Wk × Nat × Bool} {rec:Nat→Wk→Wk} (h:Bd n ke kj q.1) (hr:b≠fr→¬ V q.1 b→Bd n (ke+1) kj (rec b q.1)):Bd n ke kj (kid rec a fr q b).1∧(kid rec a fr q b).2.1≤q.2.1+1:=by
 unfold kid
 by_cases e:b=fr
 ·rw [if_pos e];exact ⟨h,by omega⟩
 ·rw [if_neg e]
  by_cases hv:0 < g q.1.wh b
  ·rw [if_pos hv]
   exact ⟨⟨h.un,h.ed,h.jo⟩,by simp⟩
  ·rw [if_neg hv]
   have r:=hr e hv
   refine ⟨⟨?_,?_,?_⟩,Nat.le_refl _⟩
   ·simp only [unv_tell]
    have:=r.un
    unfold tell
    split <;> exact this
   ·have:=r.ed
    simp only [tell]
    split
    ·simp only [low,List.length_append,List.length_singleton];omega
    ·simp only [low];omega
   ·have:=r.jo
    simp only [tell]
    split <;> exact this
theorem Bd.runs {n:Nat} {l:List Ed} {a fr p f ke kj:Nat} {s:Wk} {rec:Nat→Wk→Wk} (k:Pre n l a fr s) (hl:∀ u,¬ adj l u u) (hin:∀ u v,adj l u v→v < n) (hf:unv n s≤f+1) (hrec:∀ b q,Pre n l b a q→unv n q≤f→Post n l b a p q (rec b q))
  (hbd:∀ b q,Pre n l b a q→unv n q≤f→Bd n ke kj q→Bd n (ke+1) kj (rec b q)):
  ∀ (xs:List Nat) (M:Nat→Prop) (q:Wk × Nat × Bool),(∃ T E,Mid n l a fr p s q.1 T M E)→Bd n ke kj q.1→(∀ x,x∈xs→adj l a x)→Bd n ke kj (xs.foldl (kid rec a fr) q).1∧(xs.foldl (kid rec a fr) q).2.1≤q.2.1+xs.length
 | [],M,q,_,hb,_=>⟨hb,Nat.le_refl _⟩
 | x::xs,M,q,⟨T,E,h⟩,hb,hx=>by
  have hadj:=hx x (List.mem_cons_self ..)
  have h1:=h.one (rec:=rec) k hl hin hadj (fun hv=>hrec x q.1 (h.pre k hl (hin _ _ hadj) hadj hv) (by have:=h.fewer k;omega))
  have h2:=hb.one (a:=a) (fr:=fr) (b:=x) (rec:=rec) fun _ hv=>hbd x q.1 (h.pre k hl (hin _ _ hadj) hadj hv) (by have:=h.fewer k;omega) hb
  have h3:=Bd.runs k hl hin hf hrec hbd xs (fun u=>M u∨u=x) (kid rec a fr q x) h1 h2.1 (fun y hy=>hx y (List.mem_cons_of_mem _ hy))
  refine ⟨h3.1,?_⟩
  have:=h3.2
  have:=h2.2
  rw [List.foldl_cons,List.length_cons]
  omega
def qa (N:Nat→List Nat) (p f a fr:Nat) (s:Wk) (i:Nat):Wk × Nat × Bool:=((N a).take i).foldl (kid (fun b s=>visit N p f b a s) a fr) (start a p s,0,false)
theorem qa_zero (N:Nat→List Nat) (p f a fr:Nat) (s:Wk):qa N p f a fr s 0=(start a p s,0,false):=by simp [qa]
theorem qa_succ {N:Nat→List Nat} {p f a fr i b:Nat} {s:Wk} (h:(N a)[i]?=some b):qa N p f a fr s (i+1)=kid (fun b s=>visit N p f b a s) a fr (qa N p f a fr s i) b:=by
 unfold qa
 rw [List.take_add_one,h,List.foldl_append]
 rfl
theorem qa_all (N:Nat→List Nat) (p f a fr:Nat) (s:Wk):visit N p (f+1) a fr s=fin a fr (qa N p f a fr s (N a).length):=by
 unfold qa
 rw [List.take_length]
 rfl
theorem fin_bd {n ke kj a fr:Nat} {q:Wk × Nat × Bool} (h:Bd n ke (kj+1) q.1):Bd n ke kj (fin a fr q):=by
 unfold fin
 split
 ·exact ⟨h.un,h.ed,by have:=h.jo;simp only [List.length_append,List.length_singleton];omega⟩
 ·exact ⟨h.un,h.ed,by have:=h.jo;omega⟩
theorem visit_bd {n:Nat} {l:List Ed} {N:Nat→List Nat} (hN:Bes n l N) (hl:∀ u,¬ adj l u u) (hin:∀ u v,adj l u v→v < n) (p:Nat):∀ (f a fr ke kj:Nat) (s:Wk),Pre n l a fr s→unv n s≤f→Bd n ke kj s→Bd n (ke+1) kj (visit N p f a fr s)
 | 0,a,fr,ke,kj,s,k,hf,hb=>by
  have:=(begun (p:=p) k hl).fewer k
  omega
 | f+1,a,fr,ke,kj,s,k,hf,hb=>by
  have h:=Bd.runs (ke:=ke+1) (kj:=kj+1) k hl hin hf (fun b q hq hf=>visit_post hN hl hin p f b a q hq hf) (fun b q hq hf hb=>visit_bd hN hl hin p f b a _ _ q hq hf hb) (N a) (fun _=>False) (start a p s,0,false) ⟨_,_,begun k hl⟩ (hb.begun k hl) (fun x hx=>((hN a k.an x).1 hx).2)
  exact fin_bd h.1
structure At (n:Nat) (l:List Ed) (a fr f ke kj:Nat) (s:Wk) (i:Nat) (q:Wk × Nat × Bool):Prop where
 ok:Ok n q.1
 bd:Bd n (ke+1) (kj+1) q.1
 kids:q.2.1≤i
 pre:∀ b,adj l a b→¬ V q.1 b→Pre n l b a q.1∧unv n q.1≤f
theorem qa_at {n:Nat} {l:List Ed} {N:Nat→List Nat} {p f a fr ke kj:Nat} {s:Wk} (hN:Bes n l N) (hl:∀ u,¬ adj l u u) (hin:∀ u v,adj l u v→v < n) (k:Pre n l a fr s) (hf:unv n s≤f+1) (hb:Bd n ke kj s) (i:Nat):At n l a fr f ke kj s i (qa N p f a fr s i):=by
 have hx:∀ x,x∈(N a).take i→adj l a x:=fun x hx=>((hN a k.an x).1 (List.mem_of_mem_take hx)).2
 have hr:∀ b q,Pre n l b a q→unv n q≤f→Post n l b a p q (visit N p f b a q):=fun b q hq hf=>visit_post hN hl hin p f b a q hq hf
 obtain ⟨T,E,h⟩:=Mid.runs (rec:=fun b s=>visit N p f b a s) k hl hin hf hr ((N a).take i) (fun _=>False) (start a p s,0,false) ⟨_,_,begun k hl⟩ hx
 have h2:=Bd.runs (rec:=fun b s=>visit N p f b a s) (ke:=ke+1) (kj:=kj+1) k hl hin hf hr (fun b q hq hf hb=>visit_bd hN hl hin p f b a _ _ q hq hf hb) ((N a).take i) (fun _=>False) (start a p s,0,false) ⟨_,_,begun k hl⟩ (hb.begun k hl) hx
 refine ⟨h.toOk,h2.1,?_,fun b hadj hv=>⟨h.pre k hl (hin _ _ hadj) hadj hv,?_⟩⟩
 ·have:=h2.2
  simp only [Nat.zero_add] at this
  exact Nat.le_trans this (by rw [List.length_take];omega)
 ·have:=h.fewer k
  show unv n (qa N p f a fr s i).1≤f
  unfold qa
  omega
theorem zero_bd (n:Nat):Bd n 0 0 (zero n):=⟨by have:unv n (zero n)≤n:=cnt_le _ _;simp [zero] at this ⊢;exact this,Nat.le_refl _,Nat.le_refl _⟩
theorem walked_bd {n:Nat} {l:List Ed} {N:Nat→List Nat} (hN:Bes n l N) (hl:∀ u,¬ adj l u u) (hin:∀ u v,adj l u v→v < n):∀ k,k≤n→Bd n 0 0 (walked N n k)
 | 0,_=>zero_bd n
 | k+1,hk=>by
  have h:=walked_bd hN hl hin k (by omega)
  unfold walked
  by_cases h0:g (walked N n k).wh k=0
  ·rw [if_pos h0]
   have hv:¬ V (walked N n k) k:=by unfold V;omega
   have:=visit_bd hN hl hin k n k k 0 0 _ ((walked_all hN hl hin k (by omega)).pre (by omega) hv) (cnt_le _ _) h
   exact ⟨this.un,by have:=this.ed;omega,this.jo⟩
  ·rw [if_neg h0];exact h
end DF
end Go.Proofs.YtkoajpeabicpdaaGreatDoor
namespace Go.Proofs.YtkoajpeabicpdaaGreatDoor
open Go
namespace DF
open PD (g adj Ed adj_symm g_set_self g_set_ne)
structure Pts (n:Nat) (l:List Ed) (p:List Int):Prop where
 len:p.length=n
 pa:∀ v,v < n→∃ r:Nat,g p v=(r:Int)∧r≤v∧Cn (adj l) r v
 pe:∀ u v,adj l u v→g p u=g p v
structure Brs (l:List Ed) (x:List Ed):Prop where
 edm:∀ e∈x,∃ c d,e=ek c d∧adj l c d
 edb:∀ c d,adj l c d→(ek c d∈x↔¬ Go2 l c d)
theorem All.brs {n:Nat} {l:List Ed} {s:Wk} (h:All n l n s) (hin:∀ u v,adj l u v→v < n):Brs l s.ed:=
 ⟨fun e he=>by obtain ⟨c,d,h1,_,_,h4⟩:=h.edm e he;exact ⟨c,d,h1,h4⟩,fun c d hadj=>h.edb c d (h.all c (hin _ _ (adj_symm hadj)) (hin _ _ (adj_symm hadj))) (h.all d (hin _ _ hadj) (hin _ _ hadj)) hadj⟩
theorem Brs.perm {l x y:List Ed} (h:Brs l x) (hp:∀ e,e∈y↔e∈x):Brs l y:=
 ⟨fun e he=>h.edm e ((hp e).1 he),fun c d hadj=>(hp _).trans (h.edb c d hadj)⟩
theorem Pts.same {n:Nat} {l:List Ed} {p:List Int} (h:Pts n l p) {u v:Nat} (c:Cn (adj l) u v):g p u=g p v:=by
 have:=c.keeps (S:=fun z=>g p z=g p u) (fun x y e=>by rw [h.pe x y e])
 exact (this.1 rfl).symm
theorem Pts.joined {n:Nat} {l:List Ed} {p:List Int} (h:Pts n l p) {u v:Nat} (hu:u < n) (hv:v < n):g p u=g p v↔Cn (adj l) u v:=by
 refine ⟨fun e=>?_,h.same⟩
 obtain ⟨r,h1,_,h3⟩:=h.pa u hu
 obtain ⟨r',h1',_,h3'⟩:=h.pa v hv
 have:r=r':=by omega
 subst this
 exact .trans (.symm h3) h3'
end DF
end Go.Proofs.YtkoajpeabicpdaaGreatDoor
namespace Go.Proofs.YtkoajpeabicpdaaGreatDoor
open Go
namespace DF
open PD (g adj Ed adj_symm g_set_self g_set_ne cnt_le)
def No (l:List Ed) (a u v:Nat):Prop:=adj l u v∧u≠a∧v≠a
def Jt (l:List Ed) (a:Nat):Prop:=∃ u v,adj l a u∧adj l a v∧¬ Cn (No l a) u v
theorem In.no {l:List Ed} {S:Nat→Prop} {a x y:Nat} (h:¬ S a) (k:Cn (In l S) x y):Cn (No l a) x y:=
 k.mono fun u v e=>⟨e.1,fun q=>h (q ▸ e.2.1),fun q=>h (q ▸ e.2.2)⟩
theorem reach {l:List Ed} {a v:Nat} (h:Cn (adj l) a v):v=a∨∃ b,adj l a b∧Cn (No l a) b v:=by
 have key:∀ u v,adj l u v→(u=a∨∃ b,adj l a b∧Cn (No l a) b u)→(v=a∨∃ b,adj l a b∧Cn (No l a) b v):=fun u v e q=>by
  by_cases hv:v=a
  ·exact .inl hv
  ·right
   rcases q with q | ⟨b,hb,hc⟩
   ·subst q;exact ⟨v,e,.refl _⟩
   ·by_cases hu:u=a
    ·subst hu;exact ⟨v,e,.refl _⟩
    ·exact ⟨b,hb,.trans hc (.edge ⟨e,hu,hv⟩)⟩
 exact (h.keeps (S:=fun x=>x=a∨∃ b,adj l a b∧Cn (No l a) b x) (fun u v e=>⟨key u v e,key v u (adj_symm e)⟩)).1 (.inl rfl)
def Nw (s s':Wk) (v:Nat):Prop:=V s' v∧¬ V s v
theorem Mid.nw {n:Nat} {l:List Ed} {a fr p:Nat} {s s':Wk} {T M:Nat→Prop} {E:List Ed} (h:Mid n l a fr p s s' T M E) (v:Nat):T v↔Nw s s' v:=
 ⟨fun q=>⟨(h.vis v).2 (.inr q),(h.new v q).2.1⟩,fun q=>((h.vis v).1 q.1).resolve_left q.2⟩
def JPost (l:List Ed) (s s':Wk):Prop:=∃ J,s'.jo=s.jo++J∧J.Nodup∧(∀ c∈J,Nw s s' c)∧(∀ c,Nw s s' c→(c∈J↔Jt l c))
structure JMid (l:List Ed) (a fr:Nat) (s:Wk) (q:Wk × Nat × Bool) (T:Nat→Prop) (J:List Nat):Prop where
 jo:q.1.jo=s.jo++J
 nd:J.Nodup
 jm:∀ c∈J,T c∧c≠a
 jj:∀ c,T c→c≠a→(c∈J↔Jt l c)
 r:fr≠a→(q.2.2=true↔∃ v,T v∧v≠a∧¬ Cn (No l a) v fr)
 z:fr=a→(q.2.1=0↔∀ v,T v→v=a)
 o:fr=a→(q.2.1≤1↔∀ x y,T x→T y→x≠a→y≠a→Cn (No l a) x y)
theorem JMid.congr {l:List Ed} {a fr:Nat} {s:Wk} {q:Wk × Nat × Bool} {T T':Nat→Prop} {J:List Nat} (h:JMid l a fr s q T J) (hT:∀ v,T v↔T' v):JMid l a fr s q T' J:=by
 have:T=T':=funext fun v=>propext (hT v)
 subst this
 exact h
theorem JMid.begun (l:List Ed) (a fr p:Nat) (s:Wk):JMid l a fr s (start a p s,0,false) (fun v=>v=a) []:=
 { jo:=by simp [start],nd:=List.nodup_nil,jm:=fun c h=>by simp at h,jj:=fun c h1 h2=>absurd h1 h2,r:=fun _=>⟨fun h=>by simp at h,fun ⟨v,h1,h2,_⟩=>absurd h1 h2⟩,z:=fun _=>⟨fun _ v h=>h,fun _=>rfl⟩,o:=fun _=>⟨fun _ x y h1 _ h2 _=>absurd h1 h2,fun _=>Nat.zero_le _⟩ }
theorem JMid.come {n:Nat} {l:List Ed} {a fr p b:Nat} {s s2:Wk} {q:Wk × Nat × Bool} {T M Tb:Nat→Prop} {E Eb:List Ed} {J:List Nat} (m:JMid l a fr s q T J) (h:Mid n l a fr p s q.1 T M E) (k:Pre n l a fr s) (hl:∀ u,¬ adj l u u) (hin:∀ u v,adj l u v→v < n) (hb:adj l a b) (hv:¬ V q.1 b) (r:Mid n l b a p q.1 s2 Tb (fun _=>True) Eb) (hj:JPost l q.1 s2):
  ∃ J',JMid l a fr s (tell a b (low a (g s2.lo b) s2),q.2.1+1,q.2.2 || decide (g (low a (g s2.lo b) s2).wh a≤g (low a (g s2.lo b) s2).lo b)) (fun v=>T v∨Tb v) J':=by
 have two:=h.two k hl hin hb hv r
 have hlb:g (low a (g s2.lo b) s2).lo b=g s2.lo b:=low_ne two.ne.symm
 have e1:(low a (g s2.lo b) s2).wh=s2.wh:=rfl
 have ejo:(tell a b (low a (g s2.lo b) s2)).jo=s2.jo:=by unfold tell;split <;> rfl
 have va:V q.1 a:=two.on a h.ta
 have nTa:¬ Tb a:=fun w=>two.off a w va
 have vs:∀ v,V s v→V q.1 v:=fun v w=>(h.vis v).2 (.inl w)
 have tb:∀ v,Tb v→¬ T v:=fun v w z=>two.off v w (two.on v z)
 have wa2:g s2.wh a=g q.1.wh a:=(r.old a va).1
 have tst:g s2.wh a≤g s2.lo b↔∀ v u,Tb v→adj l v u→¬ V s u:=by
  constructor
  ·intro w v u hTb hadj hu
   have h1:=r.low2 v u hTb hadj (hin _ _ hadj) (fun _=>trivial) (vs u hu) (fun z=>k.av (z.2 ▸ hu))
   rw [(h.old u hu).1] at h1
   have h2:=k.le u (hin _ _ hadj)
   rw [wa2,h.wa] at w
   omega
  ·intro w
   rcases r.low3 with h1 | ⟨v,u,h1,h2,_,h3,h4,h5⟩
   ·rw [h1,r.wa,wa2]
    have:=h.le a k.an
    omega
   ·rcases (h.vis u).1 h3 with h6 | h6
    ·exact absurd h6 (w v u h1 h2)
    ·have:u=a:=two.via u v h6 h1 (adj_symm h2)
     subst this
     rw [h5,wa2]
     exact Int.le_refl _
 have clos:(∀ v u,Tb v→adj l v u→¬ V s u)→∀ {x y:Nat},Cn (No l a) x y→(Tb x↔Tb y):=fun w x y c=>
  c.keeps (S:=Tb) fun u v e=>by
   have go1:∀ u v,No l a u v→Tb u→Tb v:=fun u v e hu=>by
    rcases r.clo u v hu e.1 (hin _ _ e.1) (fun _=>trivial) with z | z
    ·exact z
    ·rcases (h.vis v).1 z with z | z
     ·exact absurd z (w u v hu e.1)
     ·exact absurd (two.via v u z hu (adj_symm e.1)) e.2.2
   exact ⟨go1 u v e,go1 v u ⟨adj_symm e.1,e.2.2,e.2.1⟩⟩
 obtain ⟨Jb,j1,j2,j3,j4⟩:=hj
 refine ⟨J++Jb,{ jo:=by rw [ejo,j1,m.jo,List.append_assoc],nd:=?_,jm:=fun c hc=>?_,jj:=fun c hc hca=>?_,r:=fun hfr=>?_,z:=fun hfr=>?_,o:=fun hfr=>?_ }⟩
 ·rw [List.nodup_append]
  refine ⟨m.nd,j2,fun c hc c' hc' e=>?_⟩
  subst e
  exact tb c ((r.nw c).2 (j3 c hc')) (m.jm c hc).1
 ·rcases List.mem_append.1 hc with hc | hc
  ·exact ⟨.inl (m.jm c hc).1,(m.jm c hc).2⟩
  ·have hT:=(r.nw c).2 (j3 c hc)
   exact ⟨.inr hT,fun e=>nTa (e ▸ hT)⟩
 ·rw [List.mem_append]
  rcases hc with hc | hc
  ·have:c ∉ Jb:=fun w=>tb c ((r.nw c).2 (j3 c w)) hc
   simp only [this,or_false]
   exact m.jj c hc hca
  ·have:c ∉ J:=fun w=>tb c hc (m.jm c w).1
   simp only [this,false_or]
   exact j4 c ((r.nw c).1 hc)
 ·show (q.2.2 || decide (g (low a (g s2.lo b) s2).wh a≤g (low a (g s2.lo b) s2).lo b))=true↔_
  rw [Bool.or_eq_true,m.r hfr,decide_eq_true_eq,e1,hlb,tst]
  obtain ⟨f1,f2⟩:=k.fr1 hfr
  constructor
  ·rintro (⟨v,h1,h2,h3⟩ | w)
   ·exact ⟨v,.inl h1,h2,h3⟩
   ·refine ⟨b,.inr r.ta,two.ne.symm,fun c=>?_⟩
    exact two.off fr ((clos w c).1 r.ta) (vs fr f1)
  ·rintro ⟨v,h1 | h1,h2,h3⟩
   ·exact .inl ⟨v,h1,h2,h3⟩
   ·right
    intro v0 u0 k1 k2 k3
    apply h3
    have c1:Cn (No l a) v v0:=.trans (.symm (In.no nTa (r.con v h1))) (In.no nTa (r.con v0 k1))
    have c2:Cn (No l a) v0 u0:=.edge ⟨k2,fun e=>nTa (e ▸ k1),fun e=>k.av (e ▸ k3)⟩
    have c3:=(k.bnd u0 v0 k3 (adj_symm k2) (r.new v0 k1).1 (fun w=>two.off v0 k1 (vs v0 w))).2
    exact .trans (.trans c1 c2) (.symm (In.no k.av c3))
 ·show q.2.1+1=0↔_
  exact ⟨fun w=>by omega,fun w=>absurd (w b (.inr r.ta)) two.ne.symm⟩
 ·show q.2.1+1≤1↔_
  constructor
  ·intro w x y hx hy hxa hya
   have h0:=(m.z hfr).1 (by omega)
   rcases hx with hx | hx
   ·exact absurd (h0 x hx) hxa
   rcases hy with hy | hy
   ·exact absurd (h0 y hy) hya
   exact .trans (.symm (In.no nTa (r.con x hx))) (In.no nTa (r.con y hy))
  ·intro w
   suffices q.2.1=0 by omega
   refine (m.z hfr).2 fun x hx=>?_
   apply Classical.byContradiction
   intro hxa
   have c:=w x b (.inl hx) (.inr r.ta) hxa two.ne.symm
   have cl:=clos (fun v u h1 h2 h3=>(k.bnd u v h3 (adj_symm h2) (r.new v h1).1 (fun z=>two.off v h1 (vs v z))).1 hfr) c
   exact tb x (cl.2 r.ta) hx
theorem JMid.ends {n:Nat} {l:List Ed} {a fr p:Nat} {s:Wk} {q:Wk × Nat × Bool} {T:Nat→Prop} {E:List Ed} {J:List Nat} (m:JMid l a fr s q T J) (h:Mid n l a fr p s q.1 T (fun _=>True) E) (k:Pre n l a fr s) (hl:∀ u,¬ adj l u u) (hin:∀ u v,adj l u v→v < n):JPost l s (fin a fr q):=by
 have hne:∀ u,adj l a u→u≠a:=fun u w e=>hl a (e ▸ w)
 have side:∀ u,adj l a u→T u∨V s u:=fun u w=>h.clo a u h.ta w (hin _ _ w) (fun _=>trivial)
 have key:((fr≠a∧q.2.2=true)∨(fr=a∧1 < q.2.1))↔Jt l a:=by
  by_cases hfr:fr=a
  ·have e:((fr≠a∧q.2.2=true)∨(fr=a∧1 < q.2.1))↔¬ (q.2.1≤1):=by
    constructor
    ·rintro (w | w)
     ·exact absurd hfr w.1
     ·omega
    ·intro w;exact .inr ⟨hfr,by omega⟩
   rw [e,m.o hfr]
   constructor
   ·intro w
    apply Classical.byContradiction
    intro nj
    apply w
    intro x y hx hy hxa hya
    rcases reach ((h.con x hx).mono fun _ _ e=>e.1) with z | ⟨b,b1,b2⟩
    ·exact absurd z hxa
    rcases reach ((h.con y hy).mono fun _ _ e=>e.1) with z | ⟨c,c1,c2⟩
    ·exact absurd z hya
    have:Cn (No l a) b c:=Classical.byContradiction fun z=>nj ⟨b,c,b1,c1,z⟩
    exact .trans (.symm b2) (.trans this c2)
   ·rintro ⟨u,v,h1,h2,h3⟩ w
    have inT:∀ u,adj l a u→T u:=fun u z=>by
     rcases side u z with z' | z'
     ·exact z'
     ·exact absurd hfr (k.bnd u a z' (adj_symm z) k.an k.av).1
    exact h3 (w u v (inT u h1) (inT v h2) (hne u h1) (hne v h2))
  ·have e:((fr≠a∧q.2.2=true)∨(fr=a∧1 < q.2.1))↔q.2.2=true:=by
    constructor
    ·rintro (w | w)
     ·exact w.2
     ·exact absurd w.1 hfr
    ·intro w;exact .inl ⟨hfr,w⟩
   rw [e,m.r hfr]
   obtain ⟨f1,f2⟩:=k.fr1 hfr
   constructor
   ·rintro ⟨v,h1,h2,h3⟩
    rcases reach ((h.con v h1).mono fun _ _ e=>e.1) with z | ⟨b,b1,b2⟩
    ·exact absurd z h2
    exact ⟨b,fr,b1,adj_symm f2,fun c=>h3 (.trans (.symm b2) c)⟩
   ·rintro ⟨u,v,h1,h2,h3⟩
    apply Classical.byContradiction
    intro nx
    have all:∀ x,adj l a x→Cn (No l a) x fr:=fun x z=>by
     rcases side x z with z' | z'
     ·exact Classical.byContradiction fun w=>nx ⟨x,z',hne x z,w⟩
     ·exact .symm (In.no k.av (k.bnd x a z' (adj_symm z) k.an k.av).2)
    exact h3 (.trans (all u h1) (.symm (all v h2)))
 have hV:∀ v,Nw s (fin a fr q) v↔T v:=fun v=>by
  rw [h.nw v]
  unfold fin
  split <;> exact Iff.rfl
 unfold JPost
 simp only [hV]
 by_cases hc:(fr≠a∧q.2.2=true)∨(fr=a∧1 < q.2.1)
 ·refine ⟨J++[a],?_,?_,fun c hx=>?_,fun c hx=>?_⟩
  ·unfold fin;rw [if_pos hc];show q.1.jo++[a]=_;rw [m.jo,List.append_assoc]
  ·rw [List.nodup_append]
   refine ⟨m.nd,by simp,fun c h1 c' h2 e=>?_⟩
   simp at h2;subst h2;subst e
   exact (m.jm c h1).2 rfl
  ·rcases List.mem_append.1 hx with hx | hx
   ·exact (m.jm c hx).1
   ·simp at hx;subst hx;exact h.ta
  ·rw [List.mem_append,List.mem_singleton]
   by_cases e:c=a
   ·subst e;simp only [or_true,true_iff];exact key.1 hc
   ·simp only [e,or_false];exact m.jj c hx e
 ·refine ⟨J,?_,m.nd,fun c hx=>(m.jm c hx).1,fun c hx=>?_⟩
  ·unfold fin;rw [if_neg hc];exact m.jo
  ·by_cases e:c=a
   ·subst e
    exact ⟨fun w=>absurd rfl (m.jm c w).2,fun w=>absurd (key.2 w) hc⟩
   ·exact m.jj c hx e
theorem JMid.one {n:Nat} {l:List Ed} {a fr p b:Nat} {s:Wk} {q:Wk × Nat × Bool} {T M:Nat→Prop} {E:List Ed} {J:List Nat} {rec:Nat→Wk→Wk} (m:JMid l a fr s q T J) (h:Mid n l a fr p s q.1 T M E) (k:Pre n l a fr s) (hl:∀ u,¬ adj l u u) (hin:∀ u v,adj l u v→v < n) (hb:adj l a b) (hrec:¬ V q.1 b→Post n l b a p q.1 (rec b q.1)) (hrj:¬ V q.1 b→JPost l q.1 (rec b q.1)):
  ∃ T' E' J',Mid n l a fr p s (kid rec a fr q b).1 T' (fun u=>M u∨u=b) E'∧JMid l a fr s (kid rec a fr q b) T' J':=by
 obtain ⟨T',E',h'⟩:=h.one (rec:=rec) k hl hin hb hrec
 refine ⟨T',E',?_⟩
 have hT:∀ v,T' v↔Nw s (kid rec a fr q b).1 v:=h'.nw
 unfold kid at hT ⊢
 by_cases e:b=fr
 ·rw [if_pos e] at hT ⊢
  unfold kid at h'
  rw [if_pos e] at h'
  exact ⟨J,h',m.congr fun v=>(h.nw v).trans (hT v).symm⟩
 ·rw [if_neg e] at hT ⊢
  unfold kid at h'
  rw [if_neg e] at h'
  by_cases hv:0 < g q.1.wh b
  ·rw [if_pos hv] at hT h' ⊢
   have m':JMid l a fr s (low a (g q.1.wh b) q.1,q.2) T J:={ m with }
   exact ⟨J,h',m'.congr fun v=>(h.nw v).trans (hT v).symm⟩
  ·rw [if_neg hv] at hT h' ⊢
   obtain ⟨Tb,Eb,r⟩:=hrec hv
   obtain ⟨J',hj⟩:=m.come h k hl hin hb hv r (hrj hv)
   refine ⟨J',h',hj.congr fun v=>?_⟩
   rw [hT v]
   have ew:(tell a b (low a (g (rec b q.1).lo b) (rec b q.1))).wh=(rec b q.1).wh:=by unfold tell;split <;> rfl
   show T v∨Tb v↔(0 < g (tell a b (low a (g (rec b q.1).lo b) (rec b q.1))).wh v∧¬ V s v)
   rw [ew]
   have r1:=r.vis v
   have r2:=h.vis v
   unfold V at r1 r2 ⊢
   constructor
   ·rintro (w | w)
    ·exact ⟨r1.2 (.inl (r2.2 (.inr w))),(h.new v w).2.1⟩
    ·exact ⟨r1.2 (.inr w),fun z=>(r.new v w).2.1 (r2.2 (.inl z))⟩
   ·rintro ⟨w1,w2⟩
    rcases r1.1 w1 with w | w
    ·rcases r2.1 w with z | z
     ·exact absurd z w2
     ·exact .inl z
    ·exact .inr w
theorem JMid.runs {n:Nat} {l:List Ed} {a fr p f:Nat} {s:Wk} {rec:Nat→Wk→Wk} (k:Pre n l a fr s) (hl:∀ u,¬ adj l u u) (hin:∀ u v,adj l u v→v < n) (hf:unv n s≤f+1) (hrec:∀ b q,Pre n l b a q→unv n q≤f→Post n l b a p q (rec b q)) (hrj:∀ b q,Pre n l b a q→unv n q≤f→JPost l q (rec b q)):
  ∀ (xs:List Nat) (M:Nat→Prop) (q:Wk × Nat × Bool),(∃ T E J,Mid n l a fr p s q.1 T M E∧JMid l a fr s q T J)→(∀ x,x∈xs→adj l a x)→∃ T E J,Mid n l a fr p s (xs.foldl (kid rec a fr) q).1 T (fun u=>M u∨u∈xs) E∧JMid l a fr s (xs.foldl (kid rec a fr) q) T J
 | [],M,q,⟨T,E,J,h,m⟩,_=>⟨T,E,J,h.more (fun u _ _ w=>by simpa using w),m⟩
 | x::xs,M,q,⟨T,E,J,h,m⟩,hx=>by
  have hb:=hx x (List.mem_cons_self ..)
  have hp:¬ V q.1 x→Pre n l x a q.1∧unv n q.1≤f:=fun hv=>⟨h.pre k hl (hin _ _ hb) hb hv,by have:=h.fewer k;omega⟩
  have h1:=m.one (rec:=rec) h k hl hin hb (fun hv=>hrec x q.1 (hp hv).1 (hp hv).2) (fun hv=>hrj x q.1 (hp hv).1 (hp hv).2)
  obtain ⟨T',E',J',h2,m2⟩:=JMid.runs k hl hin hf hrec hrj xs (fun u=>M u∨u=x) (kid rec a fr q x) h1 (fun y hy=>hx y (List.mem_cons_of_mem _ hy))
  refine ⟨T',E',J',h2.more fun u _ _ w=>?_,m2⟩
  rcases w with w | w
  ·exact .inl (.inl w)
  ·rcases List.mem_cons.1 w with w | w
   ·exact .inl (.inr w)
   ·exact .inr w
theorem visit_jo {n:Nat} {l:List Ed} {N:Nat→List Nat} (hN:Bes n l N) (hl:∀ u,¬ adj l u u) (hin:∀ u v,adj l u v→v < n) (p:Nat):∀ (f a fr:Nat) (s:Wk),Pre n l a fr s→unv n s≤f→JPost l s (visit N p f a fr s)
 | 0,a,fr,s,k,hf=>by
  have:=(begun (p:=p) k hl).fewer k
  omega
 | f+1,a,fr,s,k,hf=>by
  obtain ⟨T,E,J,h,m⟩:=JMid.runs k hl hin hf (fun b q hq hf=>visit_post hN hl hin p f b a q hq hf) (fun b q hq hf=>visit_jo hN hl hin p f b a q hq hf) (N a) (fun _=>False) (start a p s,0,false) ⟨_,_,_,begun k hl,JMid.begun l a fr p s⟩ (fun x hx=>((hN a k.an x).1 hx).2)
  exact m.ends (h.more fun u hu hadj _=>.inr ((hN a k.an u).2 ⟨hu,hadj⟩)) k hl hin
structure AllJ (l:List Ed) (s:Wk):Prop where
 nd:s.jo.Nodup
 jm:∀ c∈s.jo,V s c
 jj:∀ c,V s c→(c∈s.jo↔Jt l c)
theorem AllJ.step {n p:Nat} {l:List Ed} {k:Nat} {s s':Wk} (h:AllJ l s) (hp:Post n l k k p s s') (hj:JPost l s s'):AllJ l s':=by
 obtain ⟨T,E,r⟩:=hp
 obtain ⟨J,j1,j2,j3,j4⟩:=hj
 have sV:∀ v,V s v→V s' v:=fun v q=>(r.vis v).2 (.inl q)
 refine ⟨?_,fun c hc=>?_,fun c hc=>?_⟩
 ·rw [j1,List.nodup_append]
  exact ⟨h.nd,j2,fun c h1 c' h2 e=>(j3 c' h2).2 (e ▸ h.jm c h1)⟩
 ·rw [j1] at hc
  rcases List.mem_append.1 hc with hc | hc
  ·exact sV c (h.jm c hc)
  ·exact (j3 c hc).1
 ·rw [j1,List.mem_append]
  by_cases q:V s c
  ·have:c ∉ J:=fun w=>(j3 c w).2 q
   simp only [this,or_false]
   exact h.jj c q
  ·have:c ∉ s.jo:=fun w=>q (h.jm c w)
   simp only [this,false_or]
   exact j4 c ⟨hc,q⟩
theorem walked_jo {n:Nat} {l:List Ed} {N:Nat→List Nat} (hN:Bes n l N) (hl:∀ u,¬ adj l u u) (hin:∀ u v,adj l u v→v < n):∀ k,k≤n→AllJ l (walked N n k)
 | 0,_=>by
  have hv:∀ v,¬ V (zero n) v:=fun v h=>by have:=(g_zero n v).1;unfold V zero at h;simp only at h;omega
  exact ⟨by simp [walked,zero],fun c hc=>by simp [walked,zero] at hc,fun c hc=>absurd hc (hv c)⟩
 | k+1,hk=>by
  have h:=walked_jo hN hl hin k (by omega)
  have ha:=walked_all hN hl hin k (by omega)
  unfold walked
  by_cases h0:g (walked N n k).wh k=0
  ·rw [if_pos h0]
   have hv:¬ V (walked N n k) k:=by unfold V;omega
   have hp:=ha.pre (by omega) hv
   exact h.step (visit_post hN hl hin k n k k _ hp (cnt_le _ _)) (visit_jo hN hl hin k n k k _ hp (cnt_le _ _))
  ·rw [if_neg h0];exact h
end DF
end Go.Proofs.YtkoajpeabicpdaaGreatDoor
namespace Go.Proofs.YtkoajpeabicpdaaGreatDoor
open Go
namespace PT
open UF
open PD (cnt_le cnt_mono cnt_lt)
def fx (p:List Nat) (i:Nat):Bool:=decide (p[i]?=some i)
def cntP (n:Nat) (p:List Nat):Nat:=PD.cnt (fx p) n
theorem IsParts.get {n:Nat} {es:List (Nat × Nat)} {p:List Nat} (h:IsParts n es p) {x:Nat} (hx:x < n):∃ v,p[x]?=some v∧v≤x∧Con es x v:=by
 obtain ⟨v,hv⟩:∃ v,p[x]?=some v:=⟨_,List.getElem?_eq_getElem (by rw [h.len];exact hx)⟩
 exact ⟨v,hv,h.con x v hv⟩
theorem IsParts.own {n:Nat} {es:List (Nat × Nat)} {p:List Nat} (h:IsParts n es p) {x v:Nat} (hx:x < n) (hv:p[x]?=some v):p[v]?=some v:=by
 have h1:=h.con x v hv
 obtain ⟨u,hu,h2,h3⟩:=h.get (x:=v) (by omega)
 have:=(h.rel hv hu).2 h1.2
 rw [hu,this]
theorem exists_parts (n:Nat) (es:List (Nat × Nat)) (hin:∀ x y,(x,y)∈es→x < n∧y < n):∃ p,IsParts n es p:=by
 classical
 have hex:∀ x,∃ v,Con es x v∧∀ y,Con es x y→v≤y:=fun x=>by
  have hx:∃ v,Con es x v:=⟨x,.refl x⟩
  have key:∀ k,(∃ v,v≤k∧Con es x v)→∃ v,Con es x v∧∀ y,Con es x y→v≤y:=by
   intro k
   induction k with
   | zero=>
    rintro ⟨v,h1,h2⟩
    exact ⟨v,h2,fun y _=>by omega⟩
   | succ k ih=>
    rintro ⟨v,h1,h2⟩
    by_cases h3:∃ v,v≤k∧Con es x v
    ·exact ih h3
    ·refine ⟨v,h2,fun y hy=>?_⟩
     apply Classical.byContradiction
     intro w
     exact h3 ⟨y,by omega,hy⟩
  exact key x ⟨x,Nat.le_refl _,.refl x⟩
 refine ⟨(List.range n).map fun x=>Classical.choose (hex x),?_⟩
 have hget:∀ x v,((List.range n).map fun x=>Classical.choose (hex x))[x]?=some v→x < n∧v=Classical.choose (hex x):=fun x v h=>by
  rw [List.getElem?_map] at h
  by_cases hx:x < n
  ·rw [List.getElem?_range hx] at h
   simp at h
   exact ⟨hx,h.symm⟩
  ·rw [List.getElem?_eq_none (by simp;omega)] at h
   simp at h
 refine { len:=by simp,con:=fun x v h=>?_,ed:=fun x y h=>?_ }
 ·obtain ⟨_,rfl⟩:=hget x v h
  have:=Classical.choose_spec (hex x)
  exact ⟨this.2 x (.refl x),this.1⟩
 ·obtain ⟨h1,h2⟩:=hin x y h
  rw [List.getElem?_map,List.getElem?_map,List.getElem?_range h1,List.getElem?_range h2]
  have a:=Classical.choose_spec (hex x)
  have b:=Classical.choose_spec (hex y)
  have e1:=a.2 _ (.trans (.edge h) b.1)
  have e2:=b.2 _ (.trans (.symm (.edge h)) a.1)
  simp only [Option.map_some]
  congr 1
  omega
theorem cnt_one {p q:Nat→Bool} {m:Nat}:∀ {n:Nat},(∀ i,i < n→(q i=true↔p i=true∨i=m))→m < n→p m=false→PD.cnt q n=PD.cnt p n+1
 | 0,_,h,_=>by omega
 | n+1,h,hm,hp=>by
  simp only [PD.cnt]
  by_cases e:m=n
  ·subst e
   have h1:PD.cnt q m=PD.cnt p m:=by
    refine Nat.le_antisymm (cnt_mono fun i hi=>?_) (cnt_mono fun i hi=>?_)
    ·intro w;exact ((h i (by omega)).1 w).resolve_right (by omega)
    ·intro w;exact (h i (by omega)).2 (.inl w)
   have h2:q m=true:=(h m (by omega)).2 (.inr rfl)
   rw [h1,h2,hp];simp
  ·have ih:=cnt_one (n:=n) (fun i hi=>h i (by omega)) (by omega) hp
   have h2:q n=true↔p n=true:=(h n (by omega)).trans ⟨fun w=>w.resolve_right (fun z=>e z.symm),.inl⟩
   rw [ih]
   by_cases w:p n=true
   ·rw [if_pos w,if_pos (h2.2 w)]
   ·rw [if_neg w,if_neg (fun z=>w (h2.1 z))]
theorem cnt_congr {p q:Nat→Bool} {n:Nat} (h:∀ i,i < n→(q i=true↔p i=true)):PD.cnt q n=PD.cnt p n:=
 Nat.le_antisymm (cnt_mono fun i hi w=>(h i hi).1 w) (cnt_mono fun i hi w=>(h i hi).2 w)
theorem fx_true {p:List Nat} {i:Nat}:fx p i=true↔p[i]?=some i:=by simp [fx]
theorem count_finer {n:Nat} {es fs:List (Nat × Nat)} {p q:List Nat} (hp:IsParts n es p) (hq:IsParts n fs q) (sub:∀ x y,Con fs x y→Con es x y):
  cntP n p≤cntP n q∧(cntP n p < cntP n q↔∃ x y,x < n∧y < n∧Con es x y∧¬ Con fs x y):=by
 have inc:∀ i,i < n→fx p i=true→fx q i=true:=fun i hi w=>by
  rw [fx_true] at w ⊢
  obtain ⟨v,hv,h1,h2⟩:=hq.get hi
  have:=hp.least w (y:=v) (by omega) (sub _ _ h2)
  have:v=i:=by omega
  rw [hv,this]
 refine ⟨cnt_mono inc,?_⟩
 constructor
 ·intro hlt
  apply Classical.byContradiction
  intro no
  have:cntP n q≤cntP n p:=cnt_mono fun i hi w=>by
   rw [fx_true] at w ⊢
   obtain ⟨v,hv,h1,h2⟩:=hp.get hi
   have hc:Con fs i v:=Classical.byContradiction fun z=>no ⟨i,v,hi,by omega,h2,z⟩
   have:=hq.least w (y:=v) (by omega) hc
   have:v=i:=by omega
   rw [hv,this]
  omega
 ·rintro ⟨x,y,hx,hy,h1,h2⟩
  obtain ⟨u,hu,u1,u2⟩:=hq.get hx
  obtain ⟨v,hv,v1,v2⟩:=hq.get hy
  have fu:=hq.own hx hu
  have fv:=hq.own hy hv
  have nuv:¬ (u=v):=fun e=>h2 (.trans u2 (.symm (e ▸ v2)))
  have cuv:Con es u v:=.trans (.symm (sub _ _ u2)) (.trans h1 (sub _ _ v2))
  by_cases w:p[u]?=some u
  ·have nv:¬ p[v]?=some v:=fun z=>nuv ((hp.rel w z).2 cuv)
   exact cnt_lt (u:=v) inc (by omega) (fx_true.2 fv) (by simpa [fx] using nv)
  ·exact cnt_lt (u:=u) inc (by omega) (fx_true.2 fu) (by simpa [fx] using w)
theorem count_add {n:Nat} {es:List (Nat × Nat)} {p q:List Nat} {x y:Nat} (hp:IsParts n (es++[(x,y)]) p) (hq:IsParts n es q) (hx:x < n) (hy:y < n):
  (Con es x y→cntP n q=cntP n p)∧(¬ Con es x y→cntP n q=cntP n p+1):=by
 have sub:∀ a b,Con es a b→Con (es++[(x,y)]) a b:=fun a b c=>Con.snoc.2 (.inl c)
 have fin:=count_finer hp hq sub
 constructor
 ·intro c
  have:¬ cntP n p < cntP n q:=fun w=>by
   obtain ⟨a,b,_,_,h1,h2⟩:=fin.2.1 w
   rcases Con.snoc.1 h1 with z | ⟨z1,z2⟩ | ⟨z1,z2⟩
   ·exact h2 z
   ·exact h2 (.trans z1 (.trans c (.symm z2)))
   ·exact h2 (.trans z1 (.trans (.symm c) (.symm z2)))
  have:=fin.1
  omega
 ·intro nc
  obtain ⟨u,hu,u1,u2⟩:=hq.get hx
  obtain ⟨v,hv,v1,v2⟩:=hq.get hy
  have fu:=hq.own hx hu
  have fv:=hq.own hy hv
  have nuv:u≠v:=fun e=>nc (.trans u2 (.symm (e ▸ v2)))
  have cuv:Con (es++[(x,y)]) u v:=.trans (.symm (sub _ _ u2)) (.trans (.edge (by simp)) (sub _ _ v2))
  obtain ⟨m,k,hm,hk,hmk,cmk,hor⟩:∃ m k,m < n∧q[m]?=some m∧k < m∧Con (es++[(x,y)]) m k∧((m=u∧k=v)∨(m=v∧k=u)):=by
   rcases Nat.lt_or_ge u v with h | h
   ·exact ⟨v,u,by omega,fv,h,.symm cuv,.inr ⟨rfl,rfl⟩⟩
   ·exact ⟨u,v,by omega,fu,by omega,cuv,.inl ⟨rfl,rfl⟩⟩
  refine cnt_one (m:=m) (fun i hi=>?_) hm ?_
  ·rw [fx_true,fx_true]
   constructor
   ·intro w
    by_cases e:i=m
    ·exact .inr e
    ·left
     obtain ⟨j,hj,h1,h2⟩:=hp.get hi
     by_cases e2:j=i
     ·rw [hj,e2]
     exfalso
     rcases Con.snoc.1 h2 with z | ⟨z1,z2⟩ | ⟨z1,z2⟩
     ·have:=hq.least w (y:=j) (by omega) z
      omega
     ·have e3:i=u:=(hq.rel w fu).2 (.trans z1 u2)
      have:=hq.least fv (y:=j) (by omega) (.trans (.symm v2) (.symm z2))
      omega
     ·have e3:i=v:=(hq.rel w fv).2 (.trans z1 v2)
      have:=hq.least fu (y:=j) (by omega) (.trans (.symm u2) (.symm z2))
      omega
   ·rintro (w | w)
    ·obtain ⟨j,hj,h1,h2⟩:=hq.get hi
     have:=hp.least w (y:=j) (by omega) (sub _ _ h2)
     have:j=i:=by omega
     rw [hj,this]
    ·subst w;exact hk
  ·rw [←Bool.not_eq_true,fx_true]
   intro w
   have:=hp.least w (y:=k) (by omega) cmk
   omega
end PT
namespace DF
open UF PT
open PD (g adj Ed adj_symm)
theorem con_iff {l:List Ed} {es:List (Nat × Nat)} (h:∀ x y,adj l x y↔(x,y)∈es∨(y,x)∈es) (x y:Nat):Con es x y↔Cn (adj l) x y:=by
 constructor
 ·intro c
  induction c with
  | refl x=>exact .refl x
  | edge hm=>exact .edge ((h _ _).2 (.inl hm))
  | symm _ ih=>exact .symm ih
  | trans _ _ i1 i2=>exact .trans i1 i2
 ·intro c
  induction c with
  | refl x=>exact .refl x
  | edge e=>
   rcases (h _ _).1 e with w | w
   ·exact .edge w
   ·exact .symm (.edge w)
  | symm _ ih=>exact .symm ih
  | trans _ _ i1 i2=>exact .trans i1 i2
theorem Cn.into {E R:Nat→Nat→Prop} (hr:∀ x,R x x) (he:∀ u v,E u v→R u v) (hs:∀ u v,R u v→R v u) (ht:∀ u v w,R u v→R v w→R u w) {x y:Nat} (c:Cn E x y):R x y:=by
 induction c with
 | refl x=>exact hr x
 | edge e=>exact he _ _ e
 | symm _ ih=>exact hs _ _ ih
 | trans _ _ i1 i2=>exact ht _ _ _ i1 i2
theorem cn_iff {E F:Nat→Nat→Prop} (h:∀ u v,E u v↔F u v) (x y:Nat):Cn E x y↔Cn F x y:=⟨fun c=>c.mono fun u v e=>(h u v).1 e,fun c=>c.mono fun u v e=>(h u v).2 e⟩
theorem bridge_count {n c d:Nat} {l m:List Ed} {es fs:List (Nat × Nat)} {p q:List Nat} (he:∀ x y,adj l x y↔(x,y)∈es∨(y,x)∈es) (hf:∀ x y,adj m x y↔(x,y)∈fs∨(y,x)∈fs) (hp:IsParts n es p) (hq:IsParts n fs q) (hm:∀ x y,adj m x y↔Mn (adj l) c d x y) (hcd:adj l c d) (hc:c < n) (hd:d < n):
  cntP n p < cntP n q↔¬ Go2 l c d:=by
 have sub:∀ x y,Con fs x y→Con es x y:=fun x y w=>(con_iff he x y).2 (((con_iff hf x y).1 w).mono fun u v e=>((hm u v).1 e).1)
 have cf:∀ x y,Con fs x y↔Cn (Mn (adj l) c d) x y:=fun x y=>(con_iff hf x y).trans (cn_iff hm x y)
 rw [(count_finer hp hq sub).2]
 constructor
 ·rintro ⟨x,y,_,_,h1,h2⟩ go
  apply h2
  rw [cf]
  refine Cn.into (R:=Cn (Mn (adj l) c d)) (fun x=>.refl x) (fun u v e=>?_) (fun _ _=>.symm) (fun _ _ _=>.trans) ((con_iff he x y).1 h1)
  by_cases w:(u=c∧v=d)
  ·obtain ⟨rfl,rfl⟩:=w;exact go
  ·by_cases z:(u=d∧v=c)
   ·obtain ⟨rfl,rfl⟩:=z;exact .symm go
   ·exact .edge ⟨e,w,z⟩
 ·intro no
  exact ⟨c,d,hc,hd,(con_iff he c d).2 (.edge hcd),fun w=>no ((cf c d).1 w)⟩
theorem joint_count {n a:Nat} {l m:List Ed} {es fs:List (Nat × Nat)} {p q:List Nat} (he:∀ x y,adj l x y↔(x,y)∈es∨(y,x)∈es) (hf:∀ x y,adj m x y↔(x,y)∈fs∨(y,x)∈fs) (hp:IsParts n es p) (hq:IsParts n fs q) (hm:∀ x y,adj m x y↔No l a x y) (ha:a < n) (hl:∀ u,¬ adj l u u) (hin:∀ u v,adj l u v→v < n):
  cntP n p+1 < cntP n q↔Jt l a:=by
 have cf:∀ x y,Con fs x y↔Cn (No l a) x y:=fun x y=>(con_iff hf x y).trans (cn_iff hm x y)
 have fin:∀ x y,(x,y)∈fs→x < n∧y < n:=fun x y w=>by
  have h1:=((hm x y).1 ((hf x y).2 (.inl w))).1
  exact ⟨hin _ _ (adj_symm h1),hin _ _ h1⟩
 by_cases hu:∃ u,adj l a u
 ·obtain ⟨u,hu⟩:=hu
  have hun:=hin _ _ hu
  have hua:u≠a:=fun e=>hl a (e ▸ hu)
  obtain ⟨r,hr⟩:=exists_parts n (fs++[(a,u)]) (fun x y w=>by
   rcases List.mem_append.1 w with w | w
   ·exact fin x y w
   ·simp at w;rw [w.1,w.2];exact ⟨ha,hun⟩)
  have iso:¬ Con fs a u:=fun w=>by
   have:=((cf a u).1 w).keeps (S:=fun z=>z=a) (fun x y e=>⟨fun z=>absurd z e.2.1,fun z=>absurd z e.2.2⟩)
   exact hua (this.1 rfl)
  have h1:=(count_add hr hq ha hun).2 iso
  have sub:∀ x y,Con (fs++[(a,u)]) x y→Con es x y:=fun x y w=>by
   refine Con.mono (fun x y w=>?_) w
   rcases List.mem_append.1 w with w | w
   ·exact (con_iff he x y).2 (.edge ((hm x y).1 ((hf x y).2 (.inl w))).1)
   ·simp at w;rw [w.1,w.2];exact (con_iff he a u).2 (.edge hu)
  have h2:=(count_finer hp hr sub).2
  have e:cntP n p+1 < cntP n q↔cntP n p < cntP n r:=by omega
  rw [e,h2]
  constructor
  ·rintro ⟨x,y,hx,hy,c1,c2⟩
   apply Classical.byContradiction
   intro nj
   have all:∀ v,adj l a v→Cn (No l a) u v:=fun v hv=>Classical.byContradiction fun z=>nj ⟨u,v,hu,hv,z⟩
   apply c2
   refine Cn.into (R:=Con (fs++[(a,u)])) (fun x=>.refl x) (fun s t e=>?_) (fun _ _=>.symm) (fun _ _ _=>.trans) ((con_iff he x y).1 c1)
   by_cases hs:s=a
   ·subst hs
    exact Con.snoc.2 (.inr (.inl ⟨.refl _,(cf _ _).2 (.symm (all t e))⟩))
   ·by_cases ht:t=a
    ·subst ht
     exact Con.snoc.2 (.inr (.inr ⟨(cf _ _).2 (.symm (all s (adj_symm e))),.refl _⟩))
    ·exact Con.snoc.2 (.inl ((cf _ _).2 (.edge ⟨e,hs,ht⟩)))
  ·rintro ⟨v,w,hv,hw,nc⟩
   by_cases c:Cn (No l a) u v
   ·refine ⟨a,w,ha,hin _ _ hw,(con_iff he a w).2 (.edge hw),fun z=>?_⟩
    rcases Con.snoc.1 z with z | ⟨z1,z2⟩ | ⟨z1,z2⟩
    ·have:=((cf a w).1 z).keeps (S:=fun z=>z=a) (fun x y e=>⟨fun z=>absurd z e.2.1,fun z=>absurd z e.2.2⟩)
     exact hl a (this.1 rfl ▸ hw)
    ·exact nc (.trans (.symm c) (.symm ((cf w u).1 z2)))
    ·exact iso z1
   ·refine ⟨a,v,ha,hin _ _ hv,(con_iff he a v).2 (.edge hv),fun z=>?_⟩
    rcases Con.snoc.1 z with z | ⟨z1,z2⟩ | ⟨z1,z2⟩
    ·have:=((cf a v).1 z).keeps (S:=fun z=>z=a) (fun x y e=>⟨fun z=>absurd z e.2.1,fun z=>absurd z e.2.2⟩)
     exact hl a (this.1 rfl ▸ hv)
    ·exact c (.symm ((cf v u).1 z2))
    ·exact iso z1
 ·have hno:∀ v,¬ adj l a v:=fun v w=>hu ⟨v,w⟩
  have eqv:∀ x y,Con fs x y↔Con es x y:=fun x y=>by
   rw [cf,con_iff he]
   refine cn_iff (fun s t=>⟨fun e=>e.1,fun e=>⟨e,fun z=>hno t (z ▸ e),fun z=>hno s (z ▸ adj_symm e)⟩⟩) x y
  have h1:=(count_finer hp hq fun x y=>(eqv x y).1).2
  have h2:¬ cntP n p < cntP n q:=fun w=>by
   obtain ⟨x,y,_,_,c1,c2⟩:=h1.1 w
   exact c2 ((eqv x y).2 c1)
  constructor
  ·intro w;omega
  ·rintro ⟨v,_,hv,_⟩;exact absurd hv (hno v)
end DF
end Go.Proofs.YtkoajpeabicpdaaGreatDoor
namespace Go.Proofs.YtkoajpeabicpdaaGreatDoor
namespace TR
open DF
def Fs (E:Nat→Nat→Prop):Prop:=∀ u v,E u v→¬ Cn (Mn E u v) u v
def Ad (E:Nat→Nat→Prop) (a b u v:Nat):Prop:=E u v∨(u=a∧v=b)∨(u=b∧v=a)
theorem cn_cut' {E F:Nat→Nat→Prop} {a b:Nat} (hE:∀ p q,E p q→F p q∨(p=a∧q=b)∨(p=b∧q=a)) {p q:Nat} (c:Cn E p q):Cn F p q∨(Cn F p a∧Cn F q b)∨(Cn F p b∧Cn F q a):=by
 induction c with
 | refl x=>exact .inl (.refl _)
 | edge h=>
  rcases hE _ _ h with h | ⟨rfl,rfl⟩ | ⟨rfl,rfl⟩
  ·exact .inl (.edge h)
  ·exact .inr (.inl ⟨.refl _,.refl _⟩)
  ·exact .inr (.inr ⟨.refl _,.refl _⟩)
 | symm _ ih=>
  rcases ih with h | ⟨h,k⟩ | ⟨h,k⟩
  ·exact .inl h.symm
  ·exact .inr (.inr ⟨k,h⟩)
  ·exact .inr (.inl ⟨k,h⟩)
 | trans _ _ ih1 ih2=>
  rcases ih1 with h | ⟨h,k⟩ | ⟨h,k⟩ <;> rcases ih2 with h' | ⟨h',k'⟩ | ⟨h',k'⟩
  ·exact .inl (h.trans h')
  ·exact .inr (.inl ⟨h.trans h',k'⟩)
  ·exact .inr (.inr ⟨h.trans h',k'⟩)
  ·exact .inr (.inl ⟨h,h'.symm.trans k⟩)
  ·exact .inr (.inl ⟨h,k'⟩)
  ·exact .inl (h.trans k'.symm)
  ·exact .inr (.inr ⟨h,h'.symm.trans k⟩)
  ·exact .inl (h.trans k'.symm)
  ·exact .inr (.inr ⟨h,k'⟩)
theorem Fs.ad {E:Nat→Nat→Prop} (h:Fs E) {a b:Nat} (hn:¬ Cn E a b):Fs (Ad E a b):=by
 intro u v huv c
 have hab:a≠b:=fun e=>hn (e ▸ .refl _)
 rcases huv with huv | ⟨rfl,rfl⟩ | ⟨rfl,rfl⟩
 ·have hE:∀ p q,Mn (Ad E a b) u v p q→Mn E u v p q∨(p=a∧q=b)∨(p=b∧q=a):=by
   rintro p q ⟨h1 | h1,h2⟩
   ·exact .inl ⟨h1,h2⟩
   ·exact .inr h1
  have up:∀ {x y},Cn (Mn E u v) x y→Cn E x y:=fun c=>c.mono fun _ _ e=>e.1
  rcases cn_cut' hE c with c | ⟨c,d⟩ | ⟨c,d⟩
  ·exact h u v huv c
  ·exact hn ((up c).symm.trans ((Cn.edge huv).trans (up d)))
  ·exact hn ((up d).symm.trans ((Cn.edge huv).symm.trans (up c)))
 ·refine hn (c.mono ?_)
  rintro p q ⟨h1 | h1 | h1,h2,h3⟩
  ·exact h1
  ·exact absurd h1 h2
  ·exact absurd h1 h3
 ·refine hn (Cn.symm (c.mono ?_))
  rintro p q ⟨h1 | h1 | h1,h2,h3⟩
  ·exact h1
  ·exact absurd h1 h3
  ·exact absurd h1 h2
theorem Fs.sub {E F:Nat→Nat→Prop} (h:Fs E) (hs:∀ u v,F u v→E u v):Fs F:=fun u v huv c=>
 h u v (hs _ _ huv) (c.mono fun p q e=>⟨hs _ _ e.1,e.2⟩)
def st (a b:Nat):Int:=((a:Int)+1) * 60+b
theorem st_inj {a b c d:Nat} (hb:b < 60) (hd:d < 60) (h:st a b=st c d):a=c∧b=d:=by unfold st at h;omega
theorem st_ge (a b:Nat):60≤st a b:=by unfold st;omega
inductive Go (E:Nat→Nat→Prop):Nat→List Int→Nat→Prop
 | nil (v):Go E v [] v
 | mark {v u l}:v < 60→Go E v l u→Go E v ((v:Int)::l) u
 | step {v c u l}:E v c→c < 60→Go E c l u→Go E v (st v c::l) u
section
variable {E F:Nat→Nat→Prop}
theorem Go.mono {v u:Nat} {l:List Int} (h:Go E v l u) (hs:∀ x y,st x y∈l→E x y→F x y):Go F v l u:=by
 induction h with
 | nil v=>exact .nil v
 | mark h1 _ ih=>exact .mark h1 (ih fun x y hm=>hs x y (List.mem_cons_of_mem _ hm))
 | step h1 h2 _ ih=>exact .step (hs _ _ (List.mem_cons_self ..) h1) h2 (ih fun x y hm=>hs x y (List.mem_cons_of_mem _ hm))
theorem Go.app {v u w:Nat} {l m:List Int} (h:Go E v l u) (k:Go E u m w):Go E v (l++m) w:=by
 induction h with
 | nil v=>exact k
 | mark h1 _ ih=>exact .mark h1 (ih k)
 | step h1 h2 _ ih=>exact .step h1 h2 (ih k)
theorem Go.split {v w:Nat} {m:List Int}:∀ {l:List Int},Go E v (l++m) w→∃ u,Go E v l u∧Go E u m w:=by
 intro l
 induction l generalizing v with
 | nil=>intro h;exact ⟨v,.nil v,h⟩
 | cons x l ih=>
  intro h
  cases h with
  | mark h1 h2=>obtain ⟨u,p,q⟩:=ih h2;exact ⟨u,.mark h1 p,q⟩
  | step h1 h2 h3=>obtain ⟨u,p,q⟩:=ih h3;exact ⟨u,.step h1 h2 p,q⟩
theorem Go.end_ {v u:Nat} {l:List Int} (h:Go E v l u):Cn E v u:=by
 induction h with
 | nil v=>exact .refl v
 | mark _ _ ih=>exact ih
 | step h1 _ _ ih=>exact (Cn.edge h1).trans ih
theorem Go.marks {v u x:Nat} {l:List Int} (h:Go E v l u) (hx:(x:Int)∈l) (h60:x < 60):Cn E v x:=by
 induction h with
 | nil v=>simp at hx
 | mark _ _ ih=>
  rcases List.mem_cons.1 hx with e | hx
  ·have:x=_:=Int.ofNat.inj e;subst this;exact .refl _
  ·exact ih hx
 | @step v c u l h1 _ _ ih=>
  rcases List.mem_cons.1 hx with e | hx
  ·have:=st_ge v c;omega
  ·exact (Cn.edge h1).trans (ih hx)
theorem Go.steps {v u x y:Nat} {l:List Int} (h:Go E v l u) (hx:st x y∈l) (h60:y < 60):E x y∧Cn E v x:=by
 induction h with
 | nil v=>simp at hx
 | mark h1 _ ih=>
  rcases List.mem_cons.1 hx with e | hx
  ·have:=st_ge x y;omega
  ·exact ih hx
 | step h1 h2 _ ih=>
  rcases List.mem_cons.1 hx with e | hx
  ·obtain ⟨rfl,rfl⟩:=st_inj h60 h2 e;exact ⟨h1,.refl _⟩
  ·obtain ⟨p,q⟩:=ih hx;exact ⟨p,(Cn.edge h1).trans q⟩
theorem Go.items {v u:Nat} {l:List Int} (h:Go E v l u) {z:Int} (hz:z∈l):(∃ x:Nat,x < 60∧z=x)∨∃ x y:Nat,y < 60∧E x y∧z=st x y:=by
 induction h with
 | nil v=>simp at hz
 | mark h1 _ ih=>
  rcases List.mem_cons.1 hz with e | hz
  ·exact .inl ⟨_,h1,e⟩
  ·exact ih hz
 | step h1 h2 _ ih=>
  rcases List.mem_cons.1 hz with e | hz
  ·exact .inr ⟨_,_,h2,h1,e⟩
  ·exact ih hz
theorem Go.at_mark {v u x:Nat} {l:List Int} (h60:x < 60) (h:Go E v ((x:Int)::l) u):v=x:=by
 generalize hz:(x:Int)::l=z at h
 cases h with
 | nil=>cases hz
 | mark _ _=>have:=(List.cons.inj hz).1;omega
 | @step _ c _ _ _ _ _=>have:=(List.cons.inj hz).1;have:=st_ge v c;omega
theorem Go.at_step {v u x y:Nat} {l:List Int} (h60:y < 60) (h:Go E v (st x y::l) u):v=x∧Go E y l u:=by
 generalize hz:st x y::l=z at h
 cases h with
 | nil=>cases hz
 | mark _ _=>have:=(List.cons.inj hz).1;have:=st_ge x y;omega
 | step h1 h2 h3=>obtain ⟨e1,e2⟩:=List.cons.inj hz;obtain ⟨rfl,rfl⟩:=st_inj h60 h2 e1;subst e2;exact ⟨rfl,h3⟩
structure Way (E:Nat→Nat→Prop) (r:Nat) (l:List Int):Prop where
 go:∃ v,Go E v l v
 mrk:∀ x:Nat,x < 60→((x:Int)∈l↔Cn E r x)
 st:∀ x y:Nat,E x y→Cn E r x→st x y∈l
 nd:l.Nodup
theorem Way.re {r s:Nat} {l:List Int} (h:Way E r l) (c:Cn E r s):Way E s l:=
 ⟨h.go,fun x hx=>(h.mrk x hx).trans ⟨fun d=>c.symm.trans d,fun d=>c.trans d⟩,fun x y e d=>h.st x y e (c.trans d),h.nd⟩
theorem Way.at {r v:Nat} {l:List Int} (h:Way E r l) (hr:r < 60) (k:Go E v l v):Cn E r v:=
 (k.marks ((h.mrk r hr).2 (.refl _)) hr).symm
theorem Way.one {r:Nat} (hr:r < 60) (hE:∀ x,¬ E r x) (hs:∀ x y,E x y→E y x):Way E r [(r:Int)]:=by
 have alone:∀ x,Cn E r x→x=r:=fun x c=>by
  have:=c.keeps (S:=fun z=>z=r) fun u v e=>⟨fun h=>absurd e (h ▸ hE v),fun h=>absurd (hs _ _ e) (h ▸ hE u)⟩
  exact this.1 rfl
 refine ⟨⟨r,.mark hr (.nil r)⟩,fun x hx=>⟨fun h=>?_,fun c=>?_⟩,fun x y e c=>?_,by simp⟩
 ·have h':(x:Int)=(r:Int):=by simpa using h
  have:x=r:=by omega
  subst this;exact .refl _
 ·rw [alone x c];simp
 ·rw [alone x c] at e;exact absurd e (hE y)
theorem Way.rot {r x:Nat} {l p q:List Int} (h:Way E r l) (hl:l=p++(x:Int)::q) (hx:x < 60):Go E x ((x:Int)::q++p) x∧Way E r ((x:Int)::q++p):=by
 obtain ⟨v,k⟩:=h.go
 subst hl
 obtain ⟨u,k1,k2⟩:=k.split
 obtain rfl:=k2.at_mark hx
 have hp:((u:Int)::q++p).Perm (p++(u:Int)::q):=List.perm_append_comm
 refine ⟨k2.app k1,⟨⟨_,k2.app k1⟩,fun y hy=>?_,fun a b e c=>?_,?_⟩⟩
 ·rw [hp.mem_iff];exact h.mrk y hy
 ·rw [hp.mem_iff];exact h.st a b e c
 ·exact hp.nodup_iff.2 h.nd
theorem Way.other {r:Nat} {l:List Int} (h:Way E r l) (hr:r < 60) (hEF:∀ x y,Cn E r x→(E x y↔F x y)) (hc:∀ x,Cn E r x↔Cn F r x):Way F r l:=by
 obtain ⟨v,k⟩:=h.go
 have cv:=h.at hr k
 refine ⟨⟨v,?_⟩,fun x hx=>(h.mrk x hx).trans (hc x),fun x y e c=>h.st x y ((hEF x y ((hc x).2 c)).2 e) ((hc x).2 c),h.nd⟩
 ·have:∀ {a b:Nat} {l:List Int},Go E a l b→Cn E r a→Go F a l b:=by
   intro a b l k
   induction k with
   | nil v=>intro _;exact .nil v
   | mark h1 _ ih=>intro c;exact .mark h1 (ih c)
   | step h1 h2 _ ih=>intro c;exact .step ((hEF _ _ c).1 h1) h2 (ih (c.trans (.edge h1)))
  exact this k cv
theorem Way.link {a b:Nat} {x y:List Int} (hs:∀ u v,E u v→E v u) (hin:∀ u v,E u v→v < 60) (ha:a < 60) (hb:b < 60) (hn:¬ Cn E a b) (hx:Way E a x) (hy:Way E b y) (kx:Go E a x a) (ky:Go E b y b):
  Way (Ad E a b) a (x++(TR.st a b::y)++[TR.st b a]):=by
 have up:∀ {p q},Cn E p q→Cn (Ad E a b) p q:=fun c=>c.mono fun _ _ e=>.inl e
 have hab:Cn (Ad E a b) a b:=.edge (.inr (.inl ⟨rfl,rfl⟩))
 have con:∀ z,Cn (Ad E a b) a z↔Cn E a z∨Cn E b z:=fun z=>by
  constructor
  ·intro c
   rcases cn_cut' (F:=E) (fun p q h=>h) c with c | ⟨c,d⟩ | ⟨c,d⟩
   ·exact .inl c
   ·exact .inr d.symm
   ·exact absurd c hn
  ·rintro (c | c)
   ·exact up c
   ·exact hab.trans (up c)
 have hsx:∀ u v:Nat,v < 60→TR.st u v∈x→E u v∧Cn E a u:=fun u v hv h=>kx.steps h hv
 have hsy:∀ u v:Nat,v < 60→TR.st u v∈y→E u v∧Cn E b u:=fun u v hv h=>ky.steps h hv
 have nab:¬ E a b:=fun e=>hn (.edge e)
 have nba:¬ E b a:=fun e=>hn (Cn.edge e).symm
 refine ⟨⟨a,?_⟩,fun z hz=>?_,fun u v e c=>?_,?_⟩
 ·have k1:Go (Ad E a b) a x a:=kx.mono fun _ _ _ e=>.inl e
  have k2:Go (Ad E a b) b y b:=ky.mono fun _ _ _ e=>.inl e
  exact (k1.app (.step (.inr (.inl ⟨rfl,rfl⟩)) hb k2)).app (.step (.inr (.inr ⟨rfl,rfl⟩)) ha (.nil a))
 ·rw [con z,←hx.mrk z hz,←hy.mrk z hz]
  have h1:=st_ge a b
  have h2:=st_ge b a
  simp only [List.mem_append,List.mem_cons,List.not_mem_nil,or_false]
  constructor
  ·rintro ((h | h | h) | h)
   ·exact .inl h
   ·omega
   ·exact .inr h
   ·omega
  ·rintro (h | h)
   ·exact .inl (.inl h)
   ·exact .inl (.inr (.inr h))
 ·simp only [List.mem_append,List.mem_cons,List.not_mem_nil,or_false]
  rcases e with e | ⟨rfl,rfl⟩ | ⟨rfl,rfl⟩
  ·rcases (con u).1 c with c | c
   ·exact .inl (.inl (hx.st u v e c))
   ·exact .inl (.inr (.inr (hy.st u v e c)))
  ·exact .inl (.inr (.inl rfl))
  ·exact .inr rfl
 ·have dis:∀ z,z∈x→z∈y→False:=by
   intro z h1 h2
   rcases kx.items h1 with ⟨u,hu,rfl⟩ | ⟨u,v,hv,_,rfl⟩
   ·exact hn (((hx.mrk u hu).1 h1).trans ((hy.mrk u hu).1 h2).symm)
   ·exact hn ((hsx u v hv h1).2.trans (hsy u v hv h2).2.symm)
  have n1:TR.st a b ∉ x:=fun h=>nab (hsx a b hb h).1
  have n2:TR.st a b ∉ y:=fun h=>nab (hsy a b hb h).1
  have n3:TR.st b a ∉ x:=fun h=>nba (hsx b a ha h).1
  have n4:TR.st b a ∉ y:=fun h=>nba (hsy b a ha h).1
  have n5:TR.st b a≠TR.st a b:=fun h=>by
   have:=(st_inj ha hb h).1
   exact hn (this ▸ .refl _)
  rw [List.nodup_append,List.nodup_append,List.nodup_cons]
  refine ⟨⟨hx.nd,⟨n2,hy.nd⟩,?_⟩,by simp,?_⟩
  ·intro p hp q hq e
   subst e
   rcases List.mem_cons.1 hq with rfl | hq
   ·exact n1 hp
   ·exact dis p hp hq
  ·intro p hp q hq e
   subst e
   have:p=TR.st b a:=by simpa using hq
   subst this
   rcases List.mem_append.1 hp with h | h
   ·exact n3 h
   ·rcases List.mem_cons.1 h with h | h
    ·exact n5 h
    ·exact n4 h
theorem Way.cut {u v:Nat} {low mid high:List Int} (hs:∀ x y,E x y→E y x) (hin:∀ x y,E x y→y < 60) (hu:u < 60) (hv:v < 60) (huv:E u v) (hn:¬ Cn (Mn E u v) u v) (h:Way E u (low++TR.st u v::mid++TR.st v u::high)):
  Way (Mn E u v) v mid∧Way (Mn E u v) u (low++high):=by
 have hne:u≠v:=fun e=>hn (e ▸ .refl _)
 obtain ⟨w,k⟩:=h.go
 obtain ⟨p,k12,k3⟩:=k.split
 obtain ⟨e3,k3'⟩:=k3.at_step hu
 obtain ⟨q,k1,k2⟩:=k12.split
 obtain ⟨e2,k2'⟩:=k2.at_step hv
 clear k3 k2
 subst e3
 subst e2
 have nd:=h.nd
 rw [List.nodup_append,List.nodup_append,List.nodup_cons,List.nodup_cons] at nd
 obtain ⟨⟨d1,⟨m1,d2⟩,m2⟩,⟨m3,d3⟩,m4⟩:=nd
 have a1:TR.st q p ∉ low:=fun hh=>m2 _ hh _ (List.mem_cons_self ..) rfl
 have a2:TR.st q p ∉ mid:=m1
 have a3:TR.st q p ∉ high:=fun hh=>m4 _ (List.mem_append.2 (.inr (List.mem_cons_self ..))) _ (List.mem_cons_of_mem _ hh) rfl
 have b1:TR.st p q ∉ low:=fun hh=>m4 _ (List.mem_append.2 (.inl hh)) _ (List.mem_cons_self ..) rfl
 have b2:TR.st p q ∉ mid:=fun hh=>m4 _ (List.mem_append.2 (.inr (List.mem_cons_of_mem _ hh))) _ (List.mem_cons_self ..) rfl
 have b3:TR.st p q ∉ high:=m3
 have keep:∀ {l:List Int},TR.st q p ∉ l→TR.st p q ∉ l→∀ x y,TR.st x y∈l→E x y→Mn E q p x y:=by
  intro l h1 h2 x y hm e
  refine ⟨e,?_,?_⟩
  ·rintro ⟨rfl,rfl⟩;exact h1 hm
  ·rintro ⟨rfl,rfl⟩;exact h2 hm
 have g1:Go (Mn E q p) w low q:=k1.mono (keep a1 b1)
 have g2:Go (Mn E q p) p mid p:=k2'.mono (keep a2 b2)
 have g3:Go (Mn E q p) q high w:=k3'.mono (keep a3 b3)
 have sub:∀ {x y},Cn (Mn E q p) x y→Cn E x y:=fun c=>c.mono fun _ _ e=>e.1
 have mem:∀ z,z∈low++TR.st q p::mid++TR.st p q::high↔z∈low∨z=TR.st q p∨z∈mid∨z=TR.st p q∨z∈high:=fun z=>by
  simp only [List.mem_append,List.mem_cons]
  constructor
  ·rintro ((h | h | h) | h | h) <;> simp [h]
  ·rintro (h | h | h | h | h) <;> simp [h]
 have outm:∀ x:Nat,x < 60→(x:Int)∈low++high→Cn (Mn E q p) q x:=fun x hx hm=>by
  rcases List.mem_append.1 hm with hm | hm
  ·exact g1.end_.symm.trans (g1.marks hm hx)
  ·exact g3.marks hm hx
 have outs:∀ x y:Nat,y < 60→TR.st x y∈low++high→Cn (Mn E q p) q x:=fun x y hx hm=>by
  rcases List.mem_append.1 hm with hm | hm
  ·exact g1.end_.symm.trans (g1.steps hm hx).2
  ·exact (g3.steps hm hx).2
 have hqp:Cn E q p:=.edge huv
 refine ⟨⟨⟨p,g2⟩,fun x hx=>⟨fun hm=>g2.marks hm hx,fun c=>?_⟩,fun x y e c=>?_,d2⟩,⟨⟨w,g1.app g3⟩,fun x hx=>⟨outm x hx,fun c=>?_⟩,fun x y e c=>?_,?_⟩⟩
 ·have:=(h.mrk x hx).2 (hqp.trans (sub c))
  have s1:=st_ge q p
  have s2:=st_ge p q
  rcases (mem _).1 this with hm | hm | hm | hm | hm
  ·exact absurd ((outm x hx (List.mem_append.2 (.inl hm))).trans c.symm) hn
  ·omega
  ·exact hm
  ·omega
  ·exact absurd ((outm x hx (List.mem_append.2 (.inr hm))).trans c.symm) hn
 ·have hy:=hin _ _ e.1
  have:=h.st x y e.1 (hqp.trans (sub c))
  rcases (mem _).1 this with hm | hm | hm | hm | hm
  ·exact absurd ((outs x y hy (List.mem_append.2 (.inl hm))).trans c.symm) hn
  ·exact absurd (st_inj hy hv hm) e.2.1
  ·exact hm
  ·exact absurd (st_inj hy hu hm) e.2.2
  ·exact absurd ((outs x y hy (List.mem_append.2 (.inr hm))).trans c.symm) hn
 ·have:=(h.mrk x hx).2 (sub c)
  have s1:=st_ge q p
  have s2:=st_ge p q
  rcases (mem _).1 this with hm | hm | hm | hm | hm
  ·exact List.mem_append.2 (.inl hm)
  ·omega
  ·exact absurd (c.trans (g2.marks hm hx).symm) hn
  ·omega
  ·exact List.mem_append.2 (.inr hm)
 ·have hy:=hin _ _ e.1
  have:=h.st x y e.1 (sub c)
  rcases (mem _).1 this with hm | hm | hm | hm | hm
  ·exact List.mem_append.2 (.inl hm)
  ·exact absurd (st_inj hy hv hm) e.2.1
  ·exact absurd (c.trans (g2.steps hm hy).2.symm) hn
  ·exact absurd (st_inj hy hu hm) e.2.2
  ·exact List.mem_append.2 (.inr hm)
 ·rw [List.nodup_append]
  refine ⟨d1,d3,fun x hx y hy e=>?_⟩
  exact m4 x (List.mem_append.2 (.inl hx)) y (List.mem_cons_of_mem _ hy) e
end
end TR
end Go.Proofs.YtkoajpeabicpdaaGreatDoor
namespace Go.Proofs.YtkoajpeabicpdaaGreatDoor
open Go
def ltE (x y:AK.Ed):Prop:=x.1 < y.1∨(x.1=y.1∧x.2 < y.2)
instance (x y:AK.Ed):Decidable (ltE x y):=by unfold ltE;infer_instance
def putE (e:AK.Ed):List AK.Ed→List AK.Ed
 | []=>[e]
 | x::r=>if ltE e x then e::x::r else x::putE e r
theorem putE_mem {e y:AK.Ed}:∀ {l:List AK.Ed},y∈putE e l↔y=e∨y∈l
 | []=>by simp [putE]
 | x::r=>by
  unfold putE
  split
  ·simp
  ·rw [List.mem_cons,putE_mem (l:=r),List.mem_cons]
   constructor
   ·rintro (h | h | h)
    ·exact .inr (.inl h)
    ·exact .inl h
    ·exact .inr (.inr h)
   ·rintro (h | h | h)
    ·exact .inr (.inl h)
    ·exact .inl h
    ·exact .inr (.inr h)
theorem putE_length (e:AK.Ed):∀ l:List AK.Ed,(putE e l).length=l.length+1
 | []=>rfl
 | x::r=>by
  unfold putE
  split
  ·simp
  ·rw [List.length_cons,putE_length e r,List.length_cons]
theorem ltE_trans {x y z:AK.Ed} (h:ltE x y) (k:ltE y z):ltE x z:=by unfold ltE at *;omega
theorem putE_rises {e:AK.Ed}:∀ {l:List AK.Ed},l.Pairwise ltE→e ∉ l→(putE e l).Pairwise ltE
 | [],_,_=>by simp [putE]
 | x::r,h,hn=>by
  rw [List.pairwise_cons] at h
  unfold putE
  split
  ·rename_i hlt
   rw [List.pairwise_cons]
   refine ⟨fun y hy=>?_,by rw [List.pairwise_cons];exact h⟩
   rcases List.mem_cons.1 hy with hy | hy
   ·subst hy;exact hlt
   ·exact ltE_trans hlt (h.1 y hy)
  ·rename_i hlt
   rw [List.pairwise_cons]
   refine ⟨fun y hy=>?_,putE_rises h.2 (fun w=>hn (List.mem_cons_of_mem _ w))⟩
   rcases putE_mem.1 hy with hy | hy
   ·subst hy
    have:y≠x:=fun w=>hn (w ▸ List.mem_cons_self ..)
    obtain ⟨a,b⟩:=x
    obtain ⟨c,d⟩:=y
    unfold ltE at *
    simp only [ne_eq,Prod.mk.injEq] at *
    omega
   ·exact h.1 y hy
theorem rises_ext {l m:List AK.Ed} (hl:l.Pairwise ltE) (hm:m.Pairwise ltE) (h:∀ x,x∈l↔x∈m):l=m:=by
 induction l generalizing m with
 | nil=>
  cases m with
  | nil=>rfl
  | cons y m=>exact absurd ((h y).2 (List.mem_cons_self ..)) (List.not_mem_nil)
 | cons x l ih=>
  cases m with
  | nil=>exact absurd ((h x).1 (List.mem_cons_self ..)) (List.not_mem_nil)
  | cons y m=>
   rw [List.pairwise_cons] at hl hm
   have irr:∀ z:AK.Ed,¬ ltE z z:=fun z w=>by unfold ltE at w;omega
   have e:x=y:=by
    rcases List.mem_cons.1 ((h x).1 (List.mem_cons_self ..)) with w | w
    ·exact w
    ·rcases List.mem_cons.1 ((h y).2 (List.mem_cons_self ..)) with z | z
     ·exact z.symm
     ·exact absurd (ltE_trans (hl.1 y z) (hm.1 x w)) (irr x)
   subst e
   congr 1
   refine ih hl.2 hm.2 fun z=>⟨fun w=>?_,fun w=>?_⟩
   ·rcases List.mem_cons.1 ((h z).1 (List.mem_cons_of_mem _ w)) with q | q
    ·subst q;exact absurd (hl.1 z w) (irr z)
    ·exact q
   ·rcases List.mem_cons.1 ((h z).2 (List.mem_cons_of_mem _ w)) with q | q
    ·subst q;exact absurd (hm.1 z w) (irr z)
    ·exact q
end Go.Proofs.YtkoajpeabicpdaaGreatDoor
namespace Go.Proofs.YtkoajpeabicpdaaGreatDoor
namespace TR
open DF PD PT
structure Fo (n:Nat) (E:List AK.Ed):Prop where
 ok:∀ x∈E,0≤x.1∧x.1 < x.2∧x.2 < (n:Int)
 up:E.Pairwise ltE
 fs:Fs (adj E)
theorem adj_in {n:Nat} {E:List AK.Ed} (h:∀ x∈E,0≤x.1∧x.1 < x.2∧x.2 < (n:Int)) {u v:Nat} (e:adj E u v):u < n∧v < n∧u≠v:=by
 rcases e with e | e
 ·have:=h _ e;simp only at this;omega
 ·have:=h _ e;simp only at this;omega
theorem rises_nodup {E:List AK.Ed} (h:E.Pairwise ltE):E.Nodup:=h.imp fun {a b} hl e=>by subst e;unfold ltE at hl;omega
theorem ek_eq (a b u v:Nat):((u:Int),(v:Int))=AK.ek a b↔(u=min a b∧v=max a b):=by
 unfold AK.ek
 rw [Prod.mk.injEq]
 omega
theorem adj_ek {E:List AK.Ed} {a b:Nat} (h:∀ x∈E,x.1 < x.2) (hab:a≠b):AK.ek a b∈E↔adj E a b:=by
 have e:AK.ek a b=(((min a b:Nat):Int),((max a b:Nat):Int)):=((ek_eq a b (min a b) (max a b)).2 ⟨rfl,rfl⟩).symm
 rw [e]
 unfold adj
 rcases Nat.lt_or_ge a b with hl | hl
 ·rw [Nat.min_eq_left (by omega),Nat.max_eq_right (by omega)]
  exact ⟨.inl,fun w=>w.elim id fun w=>by have:=h _ w;simp only at this;omega⟩
 ·rw [Nat.min_eq_right (by omega),Nat.max_eq_left (by omega)]
  exact ⟨.inr,fun w=>w.elim (fun w=>by have:=h _ w;simp only at this;omega) id⟩
theorem adj_put {E:List AK.Ed} {a b:Nat} (u v:Nat):adj (putE (AK.ek a b) E) u v↔Ad (adj E) a b u v:=by
 unfold adj Ad
 rw [putE_mem,putE_mem,ek_eq,ek_eq]
 constructor
 ·rintro ((h | h) | (h | h))
  ·exact .inr (by omega)
  ·exact .inl (.inl h)
  ·exact .inr (by omega)
  ·exact .inl (.inr h)
 ·rintro ((h | h) | h)
  ·exact .inl (.inr h)
  ·exact .inr (.inr h)
  ·rcases Nat.lt_or_ge u v with hl | hl
   ·exact .inl (.inl (by omega))
   ·exact .inr (.inl (by omega))
def cutE (x:AK.Ed) (E:List AK.Ed):List AK.Ed:=E.filter fun y=>decide (y≠x)
theorem cutE_mem {x y:AK.Ed} {E:List AK.Ed}:y∈cutE x E↔y∈E∧y≠x:=by simp [cutE]
theorem adj_cut {E:List AK.Ed} {a b:Nat} (h:∀ x∈E,x.1 < x.2) (u v:Nat):adj (cutE (AK.ek a b) E) u v↔Mn (adj E) a b u v:=by
 unfold adj Mn
 rw [cutE_mem,cutE_mem,Ne,ek_eq,Ne,ek_eq]
 constructor
 ·rintro (⟨h1,h2⟩ | ⟨h1,h2⟩)
  ·have:=h _ h1;simp only at this
   exact ⟨.inl h1,by omega,by omega⟩
  ·have:=h _ h1;simp only at this
   exact ⟨.inr h1,by omega,by omega⟩
 ·rintro ⟨h1 | h1,h2,h3⟩
  ·exact .inl ⟨h1,by omega⟩
  ·exact .inr ⟨h1,by omega⟩
theorem Fs.congr {E F:Nat→Nat→Prop} (h:Fs E) (he:∀ u v,F u v↔E u v):Fs F:=h.sub fun u v e=>(he u v).1 e
theorem Fo.put {n:Nat} {E:List AK.Ed} (h:Fo n E) {a b:Nat} (ha:a < n) (hb:b < n) (hn:¬ Cn (adj E) a b):Fo n (putE (AK.ek a b) E):=by
 have hab:a≠b:=fun e=>hn (e ▸ .refl _)
 refine ⟨fun x hx=>?_,putE_rises h.up fun hm=>hn (.edge ((adj_ek (fun x hx=>(h.ok x hx).2.1) hab).1 hm)),(h.fs.ad hn).congr fun u v=>adj_put u v⟩
 rcases putE_mem.1 hx with rfl | hx
 ·unfold AK.ek;simp only;omega
 ·exact h.ok x hx
theorem Fo.cut {n:Nat} {E:List AK.Ed} (h:Fo n E) (x:AK.Ed):Fo n (cutE x E):=
 ⟨fun y hy=>h.ok y (cutE_mem.1 hy).1,h.up.filter _,h.fs.sub fun u v e=>e.imp (fun e=>(cutE_mem.1 e).1) fun e=>(cutE_mem.1 e).1⟩
theorem Fo.nil (n:Nat):Fo n []:=⟨by simp,.nil,fun u v e=>by simp [adj] at e⟩
theorem Fo.lt {n:Nat} {E:List AK.Ed} (h:Fo n E):∀ x∈E,x.1 < x.2:=fun x hx=>(h.ok x hx).2.1
theorem cnt_all {n:Nat} {p:Nat→Bool} (h:∀ i,i < n→p i=true):PD.cnt p n=n:=by
 induction n with
 | zero=>rfl
 | succ n ih=>rw [PD.cnt,ih fun i hi=>h i (by omega),h n (by omega)];rfl
theorem cntP_same {n:Nat} {es fs:List (Nat × Nat)} {p q:List Nat} (hp:IsParts n es p) (hq:IsParts n fs q) (h:∀ x y,UF.Con es x y↔UF.Con fs x y):cntP n p=cntP n q:=by
 have h1:=(count_finer hp hq fun x y c=>(h x y).2 c).1
 have h2:=(count_finer hq hp fun x y c=>(h x y).1 c).1
 omega
theorem count_fs {n:Nat}:∀ {E:List AK.Ed},(∀ x∈E,0≤x.1∧x.1 < x.2∧x.2 < (n:Int))→E.Nodup→Fs (adj E)→∀ {es:List (Nat × Nat)} {p:List Nat},(∀ x y,adj E x y↔(x,y)∈es∨(y,x)∈es)→IsParts n es p→cntP n p+E.length=n
 | [],_,_,_,es,p,he,hp=>by
  have h0:∀ x y,UF.Con es x y→x=y:=fun x y c=>by
   have:=(con_iff he x y).1 c
   exact this.into (R:=fun x y=>x=y) (fun _=>rfl) (fun u v e=>by simp [adj] at e) (fun _ _ h=>h.symm) (fun _ _ _ h k=>h.trans k)
  rw [List.length_nil,Nat.add_zero]
  refine cnt_all fun i hi=>?_
  obtain ⟨v,h1,_,h3⟩:=hp.get hi
  rw [fx_true,h1,h0 _ _ h3]
 | e::E,hok,hnd,hf,es,p,he,hp=>by
  rw [List.nodup_cons] at hnd
  obtain ⟨u,v,rfl,huv,hvn⟩:∃ u v:Nat,e=((u:Int),(v:Int))∧u < v∧v < n:=by
   have:=hok e (List.mem_cons_self ..)
   exact ⟨e.1.toNat,e.2.toNat,by rw [Int.toNat_of_nonneg (by omega),Int.toNat_of_nonneg (by omega)],by omega,by omega⟩
  have hokE:∀ x∈E,0≤x.1∧x.1 < x.2∧x.2 < (n:Int):=fun x hx=>hok x (List.mem_cons_of_mem _ hx)
  have sub:∀ a b,adj E a b→adj (((u:Int),(v:Int))::E) a b:=fun a b w=>w.imp (List.mem_cons_of_mem _) (List.mem_cons_of_mem _)
  have hn:¬ Cn (adj E) u v:=fun c=>hf u v (.inl (List.mem_cons_self ..)) (c.mono fun a b w=>⟨sub a b w,fun q=>by
    obtain ⟨rfl,rfl⟩:=q
    rcases w with w | w
    ·exact hnd.1 w
    ·have:=hokE _ w;simp only at this;omega,fun q=>by
    obtain ⟨rfl,rfl⟩:=q
    rcases w with w | w
    ·have:=hokE _ w;simp only at this;omega
    ·exact hnd.1 w⟩)
  let fs:List (Nat × Nat):=E.map fun x=>(x.1.toNat,x.2.toNat)
  have hfs:∀ x y,adj E x y↔(x,y)∈fs∨(y,x)∈fs:=fun x y=>by
   have key:∀ x y:Nat,((x:Int),(y:Int))∈E↔(x,y)∈fs:=fun x y=>by
    simp only [fs,List.mem_map]
    constructor
    ·intro h;exact ⟨_,h,by simp⟩
    ·rintro ⟨z,hz,e⟩
     have:=hokE z hz
     have e1:=congrArg Prod.fst e
     have e2:=congrArg Prod.snd e
     simp only at e1 e2
     have:z=((x:Int),(y:Int)):=Prod.ext (by simp only;omega) (by simp only;omega)
     rwa [←this]
   unfold adj
   rw [key,key]
  have inn:∀ x y,(x,y)∈fs→x < n∧y < n:=fun x y h=>by
   have:=adj_in hokE ((hfs x y).2 (.inl h));exact ⟨this.1,this.2.1⟩
  obtain ⟨q,hq⟩:=exists_parts n fs inn
  obtain ⟨r,hr⟩:=exists_parts n (fs++[(u,v)]) (fun x y h=>by
   rcases List.mem_append.1 h with h | h
   ·exact inn x y h
   ·simp at h;omega)
  have ih:=count_fs hokE hnd.2 (hf.sub sub) hfs hq
  have h1:=(count_add hr hq (by omega) hvn).2 fun c=>hn ((con_iff hfs u v).1 c)
  have h2:cntP n p=cntP n r:=by
   refine cntP_same hp hr fun x y=>?_
   have hes:∀ x y,adj (((u:Int),(v:Int))::E) x y↔(x,y)∈fs++[(u,v)]∨(y,x)∈fs++[(u,v)]:=fun x y=>by
    have:=hfs x y
    unfold adj at this ⊢
    rw [List.mem_cons,List.mem_cons,List.mem_append,List.mem_append,List.mem_singleton,List.mem_singleton]
    have e1:((x:Int),(y:Int))=((u:Int),(v:Int))↔(x,y)=(u,v):=by rw [Prod.mk.injEq,Prod.mk.injEq];omega
    have e2:((y:Int),(x:Int))=((u:Int),(v:Int))↔(y,x)=(u,v):=by rw [Prod.mk.injEq,Prod.mk.injEq];omega
    rw [e1,e2]
    constructor
    ·rintro ((h | h) | (h | h))
     ·exact .inl (.inr h)
     ·rcases this.1 (.inl h) with h | h
      ·exact .inl (.inl h)
      ·exact .inr (.inl h)
     ·exact .inr (.inr h)
     ·rcases this.1 (.inr h) with h | h
      ·exact .inl (.inl h)
      ·exact .inr (.inl h)
    ·rintro ((h | h) | (h | h))
     ·rcases this.2 (.inl h) with h | h
      ·exact .inl (.inr h)
      ·exact .inr (.inr h)
     ·exact .inl (.inl h)
     ·rcases this.2 (.inr h) with h | h
      ·exact .inl (.inr h)
      ·exact .inr (.inr h)
     ·exact .inr (.inl h)
   rw [con_iff he,con_iff hes]
  rw [List.length_cons];omega
theorem Fo.len {n:Nat} {E:List AK.Ed} (h:Fo n E):E.length≤n:=by
 let es:List (Nat × Nat):=E.map fun x=>(x.1.toNat,x.2.toNat)
 have key:∀ x y:Nat,((x:Int),(y:Int))∈E↔(x,y)∈es:=fun x y=>by
  simp only [es,List.mem_map]
  constructor
  ·intro h;exact ⟨_,h,by simp⟩
  ·rintro ⟨z,hz,e⟩
   have:=h.ok z hz
   have e1:=congrArg Prod.fst e
   have e2:=congrArg Prod.snd e
   simp only at e1 e2
   have:z=((x:Int),(y:Int)):=Prod.ext (by simp only;omega) (by simp only;omega)
   rwa [←this]
 have he:∀ x y,adj E x y↔(x,y)∈es∨(y,x)∈es:=fun x y=>by unfold adj;rw [key,key]
 obtain ⟨p,hp⟩:=exists_parts n es fun x y w=>by have:=adj_in h.ok ((he x y).2 (.inl w));exact ⟨this.1,this.2.1⟩
 have:=count_fs h.ok (rises_nodup h.up) h.fs he hp
 omega
theorem nodup_le {α:Type} [DecidableEq α]:∀ {xs ys:List α},xs.Nodup→(∀ x∈xs,x∈ys)→xs.length≤ys.length
 | [],ys,_,_=>Nat.zero_le _
 | x::xs,ys,h,hs=>by
  rw [List.nodup_cons] at h
  have hx:=hs x (List.mem_cons_self ..)
  have:=nodup_le (ys:=ys.erase x) h.2 fun y hy=>by
   have hne:y≠x:=fun e=>h.1 (e ▸ hy)
   exact (List.mem_erase_of_ne hne).2 (hs y (List.mem_cons_of_mem _ hy))
  rw [List.length_erase_of_mem hx] at this
  have hp:=List.length_pos_of_mem hx
  rw [List.length_cons];omega
theorem Way.len {n r:Nat} {E:List AK.Ed} {l:List Int} (h:Way (adj E) r l) (hE:Fo n E) (hn:n≤60):l.length≤180:=by
 obtain ⟨v,k⟩:=h.go
 have h1:=nodup_le (ys:=(List.range 60).map (fun (x:Nat)=>(x:Int))++(E.map (fun x=>(x.1+1) * 60+x.2)++E.map (fun x=>(x.2+1) * 60+x.1))) h.nd fun z hz=>by
  rcases k.items hz with ⟨x,hx,rfl⟩ | ⟨x,y,hy,e,rfl⟩
  ·exact List.mem_append.2 (.inl (List.mem_map.2 ⟨x,List.mem_range.2 hx,rfl⟩))
  ·refine List.mem_append.2 (.inr (List.mem_append.2 ?_))
   rcases e with e | e
   ·exact .inl (List.mem_map.2 ⟨_,e,rfl⟩)
   ·exact .inr (List.mem_map.2 ⟨_,e,rfl⟩)
 have h2:=hE.len
 simp at h1
 omega
def mks (l:List Int):List Int:=l.filter fun x=>!decide (60≤x)
theorem mks_mem {l:List Int} {x:Int}:x∈mks l↔x∈l∧x < 60:=by simp [mks]
theorem Way.mks {n r:Nat} {E:List AK.Ed} {l:List Int} (h:Way (adj E) r l) (hr:r < n) (hE:Fo n E) (hn:n≤60):(TR.mks l).Nodup∧(∀ x∈TR.mks l,∃ v:Nat,x=v∧v < n∧Cn (adj E) r v)∧∀ v:Nat,v < n→Cn (adj E) r v→(v:Int)∈TR.mks l:=by
 obtain ⟨u,k⟩:=h.go
 have inn:∀ v,Cn (adj E) r v→v < n:=fun v c=>(c.keeps (S:=fun z=>z < n) fun a b e=>by have:=adj_in hE.ok e;omega).1 hr
 refine ⟨h.nd.filter _,fun x hx=>?_,fun v hv c=>mks_mem.2 ⟨(h.mrk v (by omega)).2 c,by omega⟩⟩
 obtain ⟨h1,h2⟩:=mks_mem.1 hx
 rcases k.items h1 with ⟨v,hv,rfl⟩ | ⟨a,b,_,_,rfl⟩
 ·have c:=(h.mrk v hv).1 h1
  exact ⟨v,rfl,inn v c,c⟩
 ·have:=st_ge a b;omega
theorem pts_of {n:Nat} {E:List AK.Ed} {p:List Int} (hok:∀ x∈E,0≤x.1∧x.1 < x.2∧x.2 < (n:Int)) (hl:p.length=n) (h:∀ v,v < n→∃ r:Nat,g p v=(r:Int)∧Cn (adj E) r v∧∀ u,u < n→Cn (adj E) v u→r≤u):Pts n E p:=by
 refine ⟨hl,fun v hv=>?_,fun u v e=>?_⟩
 ·obtain ⟨r,h1,h2,h3⟩:=h v hv
  exact ⟨r,h1,h3 v hv (.refl _),h2⟩
 ·obtain ⟨hu,hv,_⟩:=adj_in hok e
  obtain ⟨r,h1,h2,h3⟩:=h u hu
  obtain ⟨s,k1,k2,k3⟩:=h v hv
  have inn:∀ {x y},Cn (adj E) x y→x < n→y < n:=fun c hx=>(c.keeps (S:=fun z=>z < n) fun a b e=>by have:=adj_in hok e;omega).1 hx
  have a1:=h3 s (inn k2.symm hv) ((Cn.edge e).trans k2.symm)
  have a2:=k3 r (inn h2.symm hu) ((Cn.edge e).symm.trans h2.symm)
  rw [h1,k1]
  congr 1
  omega
theorem pts_least {n:Nat} {E:List AK.Ed} {p:List Int} (h:Pts n E p) {v u:Nat} (hu:u < n) (c:Cn (adj E) v u):g p v≤u:=by
 obtain ⟨r,h1,h2,_⟩:=h.pa u hu
 rw [h.same c,h1];omega
end TR
end Go.Proofs.YtkoajpeabicpdaaGreatDoor
