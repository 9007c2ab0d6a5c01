/-
How far nodes of a graph are, in plain Lean: what a row of distances is, that there is one alone; told on level by level; by a queue; the first of the shortest ways. No program in sight.
-/
import Derived.Test.YtkoajpeabicpdaaGreatDoorBs1
set_option linter.unusedVariables false
namespace Go.Proofs.YtkoajpeabicpdaaGreatDoor
open Go
namespace PD
abbrev Ed:=AK.Ed
def adj (l:List Ed) (u v:Nat):Prop:=((u:Int),(v:Int))∈l∨((v:Int),(u:Int))∈l
theorem adj_symm {l:List Ed} {u v:Nat} (h:adj l u v):adj l v u:=h.symm
def g (d:List Int) (v:Nat):Int:=d.getD v (-1)
theorem g_set_self {d:List Int} {v:Nat} {x:Int} (h:v < d.length):g (d.set v x) v=x:=by simp [g,List.getD_eq_getElem?_getD,h]
theorem g_set_ne {d:List Int} {u v:Nat} {x:Int} (h:v≠u):g (d.set v x) u=g d u:=by simp [g,List.getD_eq_getElem?_getD,List.getElem?_set_ne h]
structure Base (n:Nat) (l:List Ed) (a:Nat) (d:List Int):Prop where
 len:d.length=n
 an:a < n
 zero:g d a=0
 rng:∀ v,v < n→-1≤g d v
 src:∀ v,v < n→g d v=0→v=a
 prev:∀ v,v < n→0 < g d v→∃ u,u < n∧adj l u v∧g d u=g d v - 1
structure IsDist (n:Nat) (l:List Ed) (a:Nat) (d:List Int):Prop extends Base n l a d where
 edge:∀ u v,u < n→v < n→adj l u v→0≤g d u→0≤g d v∧g d v≤g d u+1
theorem dist_le {n:Nat} {l:List Ed} {a:Nat} {d e:List Int} (h:IsDist n l a d) (k:IsDist n l a e):∀ (t:Nat) (v:Nat),v < n→g e v=(t:Int)→0≤g d v∧g d v≤t
 | 0,v,hv,ht=>by
  have:=k.src v hv (by simpa using ht)
  subst this
  rw [h.zero];simp
 | t+1,v,hv,ht=>by
  obtain ⟨u,hu,hadj,he⟩:=k.prev v hv (by omega)
  have ih:=dist_le h k t u hu (by omega)
  have:=h.edge u v hu hv hadj ih.1
  exact ⟨this.1,by omega⟩
theorem dist_unique {n:Nat} {l:List Ed} {a:Nat} {d e:List Int} (h:IsDist n l a d) (k:IsDist n l a e):d=e:=by
 apply List.ext_getElem?
 intro v
 by_cases hv:v < n
 ·have e1:g d v=g e v:=by
   have r1:=h.rng v hv
   have r2:=k.rng v hv
   by_cases h1:0≤g e v
   ·obtain ⟨t,ht⟩:=Int.eq_ofNat_of_zero_le h1
    have q1:=dist_le h k t v hv ht
    obtain ⟨s,hs⟩:=Int.eq_ofNat_of_zero_le q1.1
    have q2:=dist_le k h s v hv hs
    omega
   ·by_cases h2:0≤g d v
    ·obtain ⟨s,hs⟩:=Int.eq_ofNat_of_zero_le h2
     have q2:=dist_le k h s v hv hs
     omega
    ·omega
  rw [List.getElem?_eq_getElem (by rw [h.len];exact hv),List.getElem?_eq_getElem (by rw [k.len];exact hv)]
  simp only [g,List.getD_eq_getElem?_getD] at e1
  rw [List.getElem?_eq_getElem (by rw [h.len];exact hv),List.getElem?_eq_getElem (by rw [k.len];exact hv)] at e1
  simpa using e1
 ·rw [List.getElem?_eq_none (by rw [h.len];omega),List.getElem?_eq_none (by rw [k.len];omega)]
theorem Base.mark {n:Nat} {l:List Ed} {a u v:Nat} {d:List Int} (h:Base n l a d) (hu:u < n) (hv:v < n) (hadj:adj l u v) (h0:0≤g d u) (h1:g d v < 0):Base n l a (d.set v (g d u+1)):=by
 have hvl:v < d.length:=by rw [h.len];exact hv
 have huv:v≠u:=by rintro rfl;omega
 have hva:v≠a:=by rintro rfl;rw [h.zero] at h1;omega
 refine ⟨by simpa using h.len,h.an,by rw [g_set_ne hva];exact h.zero,fun w hw=>?_,fun w hw h2=>?_,fun w hw h2=>?_⟩
 ·by_cases e:v=w
  ·subst e;rw [g_set_self hvl];omega
  ·rw [g_set_ne e];exact h.rng w hw
 ·by_cases e:v=w
  ·subst e;rw [g_set_self hvl] at h2;omega
  ·rw [g_set_ne e] at h2;exact h.src w hw h2
 ·by_cases e:v=w
  ·subst e
   exact ⟨u,hu,hadj,by rw [g_set_ne huv,g_set_self hvl];omega⟩
  ·rw [g_set_ne e] at h2 ⊢
   obtain ⟨x,hx,hxa,hxe⟩:=h.prev w hw h2
   exact ⟨x,hx,hxa,by rw [g_set_ne (by rintro rfl;omega)];exact hxe⟩
theorem Base.start {n a:Nat} (l:List Ed) (ha:a < n):Base n l a ((List.replicate n (-1)).set a 0):=by
 have hl:a < (List.replicate n (-1:Int)).length:=by simpa using ha
 have hr:∀ v,g (List.replicate n (-1:Int)) v=-1:=fun v=>by
  simp only [g,List.getD_eq_getElem?_getD,List.getElem?_replicate];split <;> rfl
 refine ⟨by simp,ha,g_set_self hl,fun v hv=>?_,fun v hv h=>?_,fun v hv h=>?_⟩
 ·by_cases e:a=v
  ·subst e;rw [g_set_self hl];omega
  ·rw [g_set_ne e,hr];omega
 ·by_cases e:a=v
  ·exact e.symm
  ·rw [g_set_ne e,hr] at h;omega
 ·by_cases e:a=v
  ·subst e;rw [g_set_self hl] at h;omega
  ·rw [g_set_ne e,hr] at h;omega
def cnt (p:Nat→Bool):Nat→Nat
 | 0=>0
 | n+1=>cnt p n+if p n=true then 1 else 0
theorem cnt_le (p:Nat→Bool):∀ n,cnt p n≤n
 | 0=>Nat.le_refl _
 | n+1=>by rw [cnt];have:=cnt_le p n;split <;> omega
theorem cnt_mono {p q:Nat→Bool}:∀ {n:Nat},(∀ i,i < n→p i=true→q i=true)→cnt p n≤cnt q n
 | 0,_=>Nat.le_refl _
 | n+1,h=>by
  have ih:=cnt_mono (n:=n) (fun i hi=>h i (by omega))
  have:=h n (by omega)
  simp only [cnt]
  by_cases hp:p n=true
  ·rw [if_pos hp,if_pos (this hp)];omega
  ·rw [if_neg hp];omega
theorem cnt_lt {p q:Nat→Bool} {u:Nat}:∀ {n:Nat},(∀ i,i < n→p i=true→q i=true)→u < n→q u=true→p u=false→cnt p n+1≤cnt q n
 | 0,_,hu,_,_=>by omega
 | n+1,h,hu,hq,hp=>by
  simp only [cnt]
  by_cases e:u=n
  ·subst e
   have:=cnt_mono (n:=u) (fun i hi=>h i (by omega))
   rw [hp,hq];simp;omega
  ·have ih:=cnt_lt (n:=n) (fun i hi=>h i (by omega)) (by omega) hq hp
   have:=h n (by omega)
   by_cases hp':p n=true
   ·rw [if_pos hp',if_pos (this hp')];omega
   ·rw [if_neg hp'];omega
theorem chain {n:Nat} {l:List Ed} {a:Nat} {d:List Int} (h:Base n l a d):∀ (t u:Nat),u < n→g d u=(t:Int)→t+1≤cnt (fun v=>decide (0≤g d v∧g d v≤(t:Int))) n
 | 0,u,hu,ht=>by
  have:=cnt_lt (p:=fun _=>false) (q:=fun v=>decide (0≤g d v∧g d v≤((0:Nat):Int))) (n:=n) (u:=u) (by simp) hu (by simp;omega) rfl
  omega
 | t+1,u,hu,ht=>by
  obtain ⟨x,hx,_,he⟩:=h.prev u hu (by omega)
  have ih:=chain h t x hx (by omega)
  have:=cnt_lt (p:=fun v=>decide (0≤g d v∧g d v≤(t:Int))) (q:=fun v=>decide (0≤g d v∧g d v≤((t+1:Nat):Int))) (n:=n) (u:=u) (fun i _ hi=>by simp at hi ⊢;omega) hu (by simp;omega) (by simp;omega)
  omega
theorem Base.below {n:Nat} {l:List Ed} {a:Nat} {d:List Int} (h:Base n l a d) {u:Nat} (hu:u < n):g d u < n:=by
 by_cases h0:0≤g d u
 ·obtain ⟨t,ht⟩:=Int.eq_ofNat_of_zero_le h0
  have h1:=chain h t u hu ht
  have h2:=cnt_le (fun v=>decide (0≤g d v∧g d v≤(t:Int))) n
  omega
 ·omega
structure Lv (n:Nat) (l:List Ed) (a:Nat) (k i:Nat) (d:List Int):Prop extends Base n l a d where
 top:∀ v,v < n→g d v≤k+1
 low:∀ u v,u < n→v < n→adj l u v→0≤g d u→g d u < k→0≤g d v∧g d v≤g d u+1
 half:∀ (j u v:Nat),j < i→l[j]?=some ((u:Int),(v:Int))→u < n→v < n→(g d u=k→0≤g d v)∧(g d v=k→0≤g d u)
theorem Lv.start {n a:Nat} (l:List Ed) (ha:a < n):Lv n l a 0 0 ((List.replicate n (-1)).set a 0):=by
 have hl:a < (List.replicate n (-1:Int)).length:=by simpa using ha
 have hr:∀ v,g (List.replicate n (-1:Int)) v=-1:=fun v=>by
  simp only [g,List.getD_eq_getElem?_getD,List.getElem?_replicate];split <;> rfl
 refine ⟨Base.start l ha,fun v hv=>?_,fun u v _ _ _ h1 h2=>by omega,fun j u v hj=>by omega⟩
 by_cases e:a=v
 ·subst e;rw [g_set_self hl];omega
 ·rw [g_set_ne e,hr];omega
theorem Lv.mark {n:Nat} {l:List Ed} {a k i u v:Nat} {d:List Int} (h:Lv n l a k i d) (hu:u < n) (hv:v < n) (hadj:adj l u v) (h0:g d u=k) (h1:g d v < 0):Lv n l a k i (d.set v (k+1)):=by
 have hb:=h.toBase.mark hu hv hadj (by omega) h1
 rw [h0] at hb
 have hvl:v < d.length:=by rw [h.len];exact hv
 refine ⟨hb,fun w hw=>?_,fun x y hx hy hxy q1 q2=>?_,fun j x y hj hl hx hy=>?_⟩
 ·by_cases e:v=w
  ·subst e;rw [g_set_self hvl];omega
  ·rw [g_set_ne e];exact h.top w hw
 ·by_cases e:v=x
  ·subst e;rw [g_set_self hvl] at q2;omega
  ·rw [g_set_ne e] at q1 q2 ⊢
   have:=h.low x y hx hy hxy q1 q2
   rw [g_set_ne (by rintro rfl;omega)];exact this
 ·have:=h.half j x y hj hl hx hy
  by_cases e:v=x
  ·subst e
   rw [g_set_self hvl]
   refine ⟨fun h=>by omega,fun _=>by omega⟩
  ·rw [g_set_ne e]
   by_cases e2:v=y
   ·subst e2
    rw [g_set_self hvl]
    exact ⟨fun _=>by omega,fun h=>by omega⟩
   ·rw [g_set_ne e2];exact this
theorem Lv.step {n:Nat} {l:List Ed} {a k i:Nat} {d:List Int} (h:Lv n l a k i d) {x y:Nat} (hl:l[i]?=some ((x:Int),(y:Int))) (h1:g d x=k→0≤g d y) (h2:g d y=k→0≤g d x):Lv n l a k (i+1) d:=
 ⟨h.toBase,h.top,h.low,fun j u v hj hlj hu hv=>by
  by_cases e:j=i
  ·subst e
   rw [hl] at hlj
   simp only [Option.some.injEq,Prod.mk.injEq] at hlj
   have e1:x=u:=by omega
   have e2:y=v:=by omega
   subst e1;subst e2
   exact ⟨h1,h2⟩
  ·exact h.half j u v (by omega) hlj hu hv⟩
theorem Lv.next {n:Nat} {l:List Ed} {a k:Nat} {d:List Int} (h:Lv n l a k l.length d):Lv n l a (k+1) 0 d:=by
 refine ⟨h.toBase,fun v hv=>by have:=h.top v hv;omega,fun u v hu hv hadj q1 q2=>?_,fun j u v hj=>by omega⟩
 by_cases e:g d u < k
 ·exact h.low u v hu hv hadj q1 e
 ·have e1:g d u=k:=by omega
  have ht:=h.top v hv
  rcases hadj with hm | hm
  ·obtain ⟨j,hj⟩:=List.getElem?_of_mem hm
   have:=(h.half j u v (List.getElem?_eq_some_iff.1 hj).1 hj hu hv).1 e1
   omega
  ·obtain ⟨j,hj⟩:=List.getElem?_of_mem hm
   have:=(h.half j v u (List.getElem?_eq_some_iff.1 hj).1 hj hv hu).2 e1
   omega
theorem Lv.done {n:Nat} {l:List Ed} {a:Nat} {d:List Int} (h:Lv n l a n 0 d):IsDist n l a d:=
 ⟨h.toBase,fun u v hu hv hadj q=>h.low u v hu hv hadj q (h.toBase.below hu)⟩
end PD
end Go.Proofs.YtkoajpeabicpdaaGreatDoor
