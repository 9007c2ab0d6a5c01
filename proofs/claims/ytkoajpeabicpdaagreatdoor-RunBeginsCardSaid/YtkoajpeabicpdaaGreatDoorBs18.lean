/-
Plain: edges with levels, some of them of the tree: what holds of them; an edge more, an edge less, mended level by level. No program here; no conditions.
-/
import Derived.Test.YtkoajpeabicpdaaGreatDoorBs14
set_option linter.unusedVariables false
namespace Go.Proofs.YtkoajpeabicpdaaGreatDoor
namespace GM
open DF PD PT TR
structure St where
 lv:Nat
 tr:Bool
def updS (f:AK.Ed→St) (x:AK.Ed) (s:St):AK.Ed→St:=fun y=>if y=x then s else f y
def lvl (f:AK.Ed→St) (A:List AK.Ed) (i:Nat):List AK.Ed:=A.filter fun x=>(f x).tr && decide (i≤(f x).lv)
theorem lvl_mem {f:AK.Ed→St} {A:List AK.Ed} {i:Nat} {x:AK.Ed}:x∈lvl f A i↔x∈A∧(f x).tr=true∧i≤(f x).lv:=by simp [lvl]
theorem lvl_adj {f:AK.Ed→St} {A:List AK.Ed} {i u v:Nat} (h:adj (lvl f A i) u v):adj A u v:=h.imp (fun h=>(lvl_mem.1 h).1) fun h=>(lvl_mem.1 h).1
theorem lvl_anti {f:AK.Ed→St} {A:List AK.Ed} {i j:Nat} (hij:i≤j) {u v:Nat} (h:adj (lvl f A j) u v):adj (lvl f A i) u v:=
 h.imp (fun h=>lvl_mem.2 ⟨(lvl_mem.1 h).1,(lvl_mem.1 h).2.1,Nat.le_trans hij (lvl_mem.1 h).2.2⟩) fun h=>lvl_mem.2 ⟨(lvl_mem.1 h).1,(lvl_mem.1 h).2.1,Nat.le_trans hij (lvl_mem.1 h).2.2⟩
noncomputable def sz (n:Nat) (E:Nat→Nat→Prop) (v:Nat):Nat:=PD.cnt (fun u=>by classical exact decide (Cn E v u)) n
theorem sz_mono {n:Nat} {E F:Nat→Nat→Prop} {v w:Nat} (h:∀ u,u < n→Cn E v u→Cn F w u):sz n E v≤sz n F w:=
 cnt_mono fun u hu e=>by simp at e ⊢;exact h u hu e
def Sm (n:Nat) (E:Nat→Nat→Prop) (i:Nat):Prop:=∀ v,v < n→sz n E v * 2 ^ i≤n∨∀ u,u < n→Cn E v u→u=v
structure Base (n t:Nat) (A:List AK.Ed) (f:AK.Ed→St):Prop where
 ok:∀ x∈A,0≤x.1∧x.1 < x.2∧x.2 < (n:Int)
 up:A.Pairwise ltE
 fs:Fs (adj (lvl f A 0))
 top:∀ x∈A,(f x).lv < t
structure GOk (n t:Nat) (A:List AK.Ed) (f:AK.Ed→St):Prop extends Base n t A f where
 con:∀ u v,adj A u v→Cn (adj (lvl f A (f (AK.ek u v)).lv)) u v
 sm:∀ i,Sm n (adj (lvl f A i)) i
structure BOk (n t:Nat) (A:List AK.Ed) (f:AK.Ed→St) (a b i:Nat):Prop extends Base n t A f where
 na:¬ Cn (adj (lvl f A 0)) a b
 hi:∀ u v,adj A u v→i < (f (AK.ek u v)).lv→Cn (adj (lvl f A (f (AK.ek u v)).lv)) u v
 lo:∀ u v,adj A u v→(f (AK.ek u v)).lv≤i→Cn (Ad (adj (lvl f A (f (AK.ek u v)).lv)) a b) u v
 smh:∀ j,i < j→Sm n (adj (lvl f A j)) j
 sml:∀ j,j≤i→Sm n (Ad (adj (lvl f A j)) a b) j
section
variable {n t:Nat} {A:List AK.Ed} {f:AK.Ed→St} {a b i:Nat}
theorem ek_comm' (u v:Nat):AK.ek (u:Int) v=AK.ek v u:=by unfold AK.ek;rw [Int.min_comm,Int.max_comm]
theorem Base.lt (h:Base n t A f):∀ x∈A,x.1 < x.2:=fun x hx=>(h.ok x hx).2.1
theorem Base.adj_ek (h:Base n t A f) {u v:Nat} (hne:u≠v):AK.ek u v∈A↔adj A u v:=TR.adj_ek h.lt hne
theorem Base.fo (h:Base n t A f) (i:Nat):Fo n (lvl f A i):=
 ⟨fun x hx=>h.ok x (lvl_mem.1 hx).1,h.up.filter _,h.fs.sub fun u v e=>lvl_anti (Nat.zero_le i) e⟩
theorem Base.lvl_ek (h:Base n t A f) {u v j:Nat} (hne:u≠v):adj (lvl f A j) u v↔adj A u v∧(f (AK.ek u v)).tr=true∧j≤(f (AK.ek u v)).lv:=by
 rw [←TR.adj_ek (fun x hx=>h.lt x (lvl_mem.1 hx).1) hne,lvl_mem,h.adj_ek hne]
theorem GOk.start (n:Nat) (f:AK.Ed→St):GOk n 1 [] f:=by
 have h0:∀ i u v,¬ adj (lvl f [] i) u v:=fun i u v h=>by simp [adj,lvl] at h
 refine ⟨⟨by simp,.nil,fun u v e=>absurd e (h0 0 u v),by simp⟩,fun u v e=>by simp [adj] at e,fun i v hv=>.inr fun u _ c=>?_⟩
 exact (c.into (R:=fun x y=>x=y) (fun _=>rfl) (fun u v e=>absurd e (h0 _ u v)) (fun _ _ h=>h.symm) (fun _ _ _ h k=>h.trans k)).symm
theorem GOk.joins (h:GOk n t A f) {u v:Nat}:Cn (adj A) u v↔Cn (adj (lvl f A 0)) u v:=
 ⟨fun c=>c.into (R:=Cn (adj (lvl f A 0))) .refl (fun u v e=>(h.con u v e).mono fun _ _ e=>lvl_anti (Nat.zero_le _) e) (fun _ _=>.symm) (fun _ _ _=>.trans),fun c=>c.mono fun _ _ e=>lvl_adj e⟩
theorem updS_same (f:AK.Ed→St) (x:AK.Ed) (s:St):updS f x s x=s:=if_pos rfl
theorem updS_ne {f:AK.Ed→St} {x y:AK.Ed} {s:St} (h:y≠x):updS f x s y=f y:=if_neg h
theorem GOk.add (h:GOk n t A f) (ht:1≤t) {u v:Nat} (hu:u < n) (hv:v < n) (hne:u≠v) (hn:AK.ek u v ∉ A) {s:Bool} (hs:s=true↔¬ Cn (adj (lvl f A 0)) u v):
  GOk n t (putE (AK.ek u v) A) (updS f (AK.ek u v) ⟨0,s⟩)∧lvl (updS f (AK.ek u v) ⟨0,s⟩) (putE (AK.ek u v) A) 0=(if s then putE (AK.ek u v) (lvl f A 0) else lvl f A 0)∧∀ i,0 < i→lvl (updS f (AK.ek u v) ⟨0,s⟩) (putE (AK.ek u v) A) i=lvl f A i:=by
 have hok:∀ x∈putE (AK.ek u v) A,0≤x.1∧x.1 < x.2∧x.2 < (n:Int):=fun x hx=>by
  rcases putE_mem.1 hx with rfl | hx
  ·unfold AK.ek;simp only;omega
  ·exact h.ok x hx
 have hup:=putE_rises h.up hn
 have mem:∀ i x,x∈lvl (updS f (AK.ek u v) ⟨0,s⟩) (putE (AK.ek u v) A) i↔(x=AK.ek u v∧s=true∧i=0)∨x∈lvl f A i:=fun i x=>by
  rw [lvl_mem,lvl_mem,putE_mem]
  by_cases e:x=AK.ek u v
  ·subst e;rw [updS_same];simp [hn]
  ·rw [updS_ne e];simp [e]
 have l0:lvl (updS f (AK.ek u v) ⟨0,s⟩) (putE (AK.ek u v) A) 0=(if s then putE (AK.ek u v) (lvl f A 0) else lvl f A 0):=by
  cases s with
  | true=>exact rises_ext (hup.filter _) (putE_rises (h.up.filter _) fun w=>hn (lvl_mem.1 w).1) fun x=>by rw [mem,if_pos rfl,putE_mem];simp
  | false=>exact rises_ext (hup.filter _) (h.up.filter _) fun x=>by rw [mem];simp
 have li:∀ i,0 < i→lvl (updS f (AK.ek u v) ⟨0,s⟩) (putE (AK.ek u v) A) i=lvl f A i:=fun i hi=>rises_ext (hup.filter _) (h.up.filter _) fun x=>by rw [mem];simp;omega
 have sub:∀ i x y,adj (lvl f A i) x y→adj (lvl (updS f (AK.ek u v) ⟨0,s⟩) (putE (AK.ek u v) A) i) x y:=fun i x y e=>e.imp (fun e=>(mem _ _).2 (.inr e)) fun e=>(mem _ _).2 (.inr e)
 refine ⟨⟨⟨hok,hup,?_,fun x hx=>?_⟩,fun x y e=>?_,fun i w hw=>?_⟩,l0,li⟩
 ·rw [l0]
  cases s with
  | true=>rw [if_pos rfl];exact ((h.fo 0).put hu hv (hs.1 rfl)).fs
  | false=>exact h.fs
 ·by_cases e:x=AK.ek u v
  ·subst e;rw [updS_same];exact ht
  ·rw [updS_ne e]
   rcases putE_mem.1 hx with w | w
   ·exact absurd w e
   ·exact h.top x w
 ·by_cases q:AK.ek x y=AK.ek u v
  ·rw [q,updS_same]
   have cuv:Cn (adj (lvl (updS f (AK.ek u v) ⟨0,s⟩) (putE (AK.ek u v) A) 0)) u v:=by
    cases hs':s with
    | true=>
     rw [←hs',l0,hs',if_pos rfl]
     exact .edge ((adj_put u v).2 (.inr (.inl ⟨rfl,rfl⟩)))
    | false=>
     have:Cn (adj (lvl f A 0)) u v:=by
      apply Classical.byContradiction
      intro w
      have:=hs.2 w
      rw [hs'] at this;cases this
     rw [←hs']
     exact this.mono (sub 0)
   have hxy:(x=u∧y=v)∨(x=v∧y=u):=by unfold AK.ek at q;rw [Prod.mk.injEq] at q;omega
   rcases hxy with ⟨rfl,rfl⟩ | ⟨rfl,rfl⟩
   ·exact cuv
   ·exact cuv.symm
  ·rw [updS_ne q]
   have e':adj A x y:=by
    rcases (adj_put x y).1 e with e | ⟨rfl,rfl⟩ | ⟨rfl,rfl⟩
    ·exact e
    ·exact absurd rfl q
    ·exact absurd (ek_comm' _ _) q
   exact (h.con x y e').mono (sub _)
 ·rcases Nat.eq_zero_or_pos i with rfl | hi
  ·left
   rw [Nat.pow_zero,Nat.mul_one]
   exact cnt_le _ n
  ·rw [li i hi];exact h.sm i w hw
theorem cut_lvl {x:AK.Ed} (hx:(f x).tr=false) (j:Nat):lvl f (cutE x A) j=lvl f A j:=by
 unfold lvl cutE
 rw [List.filter_filter]
 congr 1
 funext y
 by_cases e:y=x
 ·subst e;simp [hx]
 ·simp [e]
theorem cut_adj_sub {x:AK.Ed} {u v:Nat} (h:adj (cutE x A) u v):adj A u v:=h.imp (fun h=>(cutE_mem.1 h).1) fun h=>(cutE_mem.1 h).1
theorem GOk.less (h:GOk n t A f) {x:AK.Ed} (hx:(f x).tr=false):GOk n t (cutE x A) f:=
 ⟨⟨fun y hy=>h.ok y (cutE_mem.1 hy).1,h.up.filter _,by rw [cut_lvl hx];exact h.fs,fun y hy=>h.top y (cutE_mem.1 hy).1⟩,
  fun u v e=>by rw [cut_lvl hx];exact h.con u v (cut_adj_sub e),fun i=>by rw [cut_lvl hx];exact h.sm i⟩
theorem cut_lvl_hi {x:AK.Ed} {j:Nat} (hj:(f x).lv < j):lvl f (cutE x A) j=lvl f A j:=by
 unfold lvl cutE
 rw [List.filter_filter]
 congr 1
 funext y
 by_cases e:y=x
 ·subst e;simp [show ¬ j≤(f y).lv by omega]
 ·simp [e]
theorem lvl_cut (x:AK.Ed) (j:Nat):lvl f (cutE x A) j=cutE x (lvl f A j):=by
 unfold lvl cutE
 rw [List.filter_filter,List.filter_filter]
 congr 1
 funext y
 exact Bool.and_comm _ _
theorem GOk.torn (h:GOk n t A f) {u v:Nat} (hx:adj A u v) (ht:(f (AK.ek u v)).tr=true):BOk n t (cutE (AK.ek u v) A) f u v (f (AK.ek u v)).lv:=by
 have hne:u≠v:=(adj_in h.ok hx).2.2
 have sub:∀ j x y,adj (lvl f A j) x y→Ad (adj (lvl f (cutE (AK.ek u v) A) j)) u v x y:=fun j x y e=>by
  rw [lvl_cut]
  by_cases q:(x=u∧y=v)∨(x=v∧y=u)
  ·exact .inr q
  ·exact .inl ((adj_cut (fun z hz=>h.lt z (lvl_mem.1 hz).1) x y).2 ⟨e,fun w=>q (.inl w),fun w=>q (.inr w)⟩)
 refine ⟨⟨fun y hy=>h.ok y (cutE_mem.1 hy).1,h.up.filter _,?_,fun y hy=>h.top y (cutE_mem.1 hy).1⟩,?_,fun x y e hl=>?_,fun x y e hl=>?_,fun j hj=>?_,fun j hj w hw=>?_⟩
 ·rw [lvl_cut];exact ((h.fo 0).cut _).fs
 ·rw [lvl_cut]
  have e0:adj (lvl f A 0) u v:=(h.lvl_ek hne).2 ⟨hx,ht,Nat.zero_le _⟩
  exact fun c=>h.fs u v e0 (c.mono fun x y e=>(adj_cut (fun z hz=>h.lt z (lvl_mem.1 hz).1) x y).1 e)
 ·rw [cut_lvl_hi hl];exact h.con x y (cut_adj_sub e)
 ·exact (h.con x y (cut_adj_sub e)).mono (sub _)
 ·rw [cut_lvl_hi hj];exact h.sm j
 ·have eqv:∀ x y,Cn (Ad (adj (lvl f (cutE (AK.ek u v) A) j)) u v) x y→Cn (adj (lvl f A j)) x y:=fun x y c=>c.into (R:=Cn (adj (lvl f A j))) .refl (fun p q e=>by
    rcases e with e | ⟨rfl,rfl⟩ | ⟨rfl,rfl⟩
    ·rw [lvl_cut] at e
     exact .edge ((adj_cut (fun z hz=>h.lt z (lvl_mem.1 hz).1) p q).1 e).1
    ·exact .edge ((h.lvl_ek hne).2 ⟨hx,ht,hj⟩)
    ·exact .symm (.edge ((h.lvl_ek hne).2 ⟨hx,ht,hj⟩))) (fun _ _=>.symm) (fun _ _ _=>.trans)
  rcases h.sm j w hw with q | q
  ·left
   exact Nat.le_trans (Nat.mul_le_mul_right _ (sz_mono fun u _ c=>eqv _ _ c)) q
  ·right
   exact fun u hu c=>q u hu (eqv _ _ c)
theorem BOk.done (h:BOk n t A f a b 0) (h0:∀ u v,adj A u v→(f (AK.ek u v)).lv=0→Cn (adj (lvl f A 0)) u v) (hs:∀ j,Sm n (adj (lvl f A j)) j):GOk n t A f:=
 ⟨h.toBase,fun u v e=>by
  rcases Nat.eq_zero_or_pos (f (AK.ek u v)).lv with q | q
  ·rw [q];exact h0 u v e q
  ·exact h.hi u v e q,hs⟩
theorem Sm.ad {E:Nat→Nat→Prop} {j:Nat} (h:Sm n (Ad E a b) j):Sm n E j:=fun v hv=>by
 rcases h v hv with q | q
 ·exact .inl (Nat.le_trans (Nat.mul_le_mul_right _ (sz_mono fun u _ c=>c.mono fun _ _ e=>.inl e)) q)
 ·exact .inr fun u hu c=>q u hu (c.mono fun _ _ e=>.inl e)
theorem BOk.next (h:BOk n t A f a b i) {S:Nat→Prop} (hS:(∀ x,S x↔Cn (adj (lvl f A i)) a x)∨(∀ x,S x↔Cn (adj (lvl f A i)) b x)) (hno:∀ u v,adj A u v→(f (AK.ek u v)).lv=i→(f (AK.ek u v)).tr=false→¬ S u∧¬ S v):
  (∀ u v,adj A u v→(f (AK.ek u v)).lv=i→Cn (adj (lvl f A i)) u v)∧∀ j,j≤i→Sm n (adj (lvl f A j)) j:=by
 refine ⟨fun u v e hl=>?_,fun j hj=>(h.sml j hj).ad⟩
 have hne:u≠v:=(adj_in h.ok e).2.2
 cases ht:(f (AK.ek u v)).tr with
 | true=>exact .edge ((h.lvl_ek hne).2 ⟨e,ht,by omega⟩)
 | false=>
  obtain ⟨n1,n2⟩:=hno u v e hl ht
  have c:=h.lo u v e (by omega)
  rw [hl] at c
  rcases cn_cut' (F:=adj (lvl f A i)) (fun p q w=>w) c with c | ⟨c,d⟩ | ⟨c,d⟩
  ·exact c
  ·rcases hS with q | q
   ·exact absurd ((q u).2 c.symm) n1
   ·exact absurd ((q v).2 d.symm) n2
  ·rcases hS with q | q
   ·exact absurd ((q v).2 d.symm) n2
   ·exact absurd ((q u).2 c.symm) n1
theorem BOk.down (h:BOk n t A f a b (i+1)) (h0:∀ u v,adj A u v→(f (AK.ek u v)).lv=i+1→Cn (adj (lvl f A (i+1))) u v) (hs:Sm n (adj (lvl f A (i+1))) (i+1)):BOk n t A f a b i:=
 ⟨h.toBase,h.na,fun u v e hl=>by
  rcases Nat.lt_or_ge (i+1) (f (AK.ek u v)).lv with q | q
  ·exact h.hi u v e q
  ·have:(f (AK.ek u v)).lv=i+1:=by omega
   rw [this];exact h0 u v e this,fun u v e hl=>h.lo u v e (by omega),fun j hj=>by
  rcases Nat.lt_or_ge (i+1) j with q | q
  ·exact h.smh j q
  ·have:j=i+1:=by omega
   subst this;exact hs,fun j hj=>h.sml j (by omega)⟩
theorem lvl_up {g:AK.Ed→St} (hg:∀ x∈A,(f x).tr=true→(g x).tr=true∧(f x).lv≤(g x).lv) {j u v:Nat} (e:adj (lvl f A j) u v):adj (lvl g A j) u v:=
 e.imp (fun e=>by obtain ⟨h1,h2,h3⟩:=lvl_mem.1 e;exact lvl_mem.2 ⟨h1,(hg _ h1 h2).1,Nat.le_trans h3 (hg _ h1 h2).2⟩) fun e=>by obtain ⟨h1,h2,h3⟩:=lvl_mem.1 e;exact lvl_mem.2 ⟨h1,(hg _ h1 h2).1,Nat.le_trans h3 (hg _ h1 h2).2⟩
def upT (f:AK.Ed→St) (A:List AK.Ed) (i:Nat) (S:Nat→Bool):AK.Ed→St:=fun x=>if (f x).tr=true∧(f x).lv=i∧S x.1.toNat=true∧S x.2.toNat=true then ⟨i+1,true⟩ else f x
theorem upT_tr (f:AK.Ed→St) (A:List AK.Ed) (i:Nat) (S:Nat→Bool) (x:AK.Ed):(upT f A i S x).tr=(f x).tr:=by
 unfold upT;split
 ·rename_i h;rw [h.1]
 ·rfl
theorem upT_lv (f:AK.Ed→St) (A:List AK.Ed) (i:Nat) (S:Nat→Bool) (x:AK.Ed):(f x).lv≤(upT f A i S x).lv∧((upT f A i S x).lv=(f x).lv∨((f x).lv=i∧(upT f A i S x).lv=i+1)):=by
 unfold upT;split
 ·rename_i h;have h2:=h.2.1;exact ⟨by show (f x).lv≤i+1;omega,.inr ⟨h2,rfl⟩⟩
 ·exact ⟨Nat.le_refl _,.inl rfl⟩
theorem upT_low {j:Nat} (S:Nat→Bool) (hj:j≤i):lvl (upT f A i S) A j=lvl f A j:=by
 unfold lvl
 congr 1
 funext x
 rw [upT_tr]
 have:=upT_lv f A i S x
 congr 1
 rw [decide_eq_decide]
 omega
theorem upT_high {j:Nat} (S:Nat→Bool) (hj:i+1 < j):lvl (upT f A i S) A j=lvl f A j:=by
 unfold lvl
 congr 1
 funext x
 rw [upT_tr]
 have:=upT_lv f A i S x
 congr 1
 rw [decide_eq_decide]
 omega
theorem BOk.upT (h:BOk n t A f a b i) {S:Nat→Bool} {c:Nat} (hab:c=a∨c=b) (hc:c < n) (hS:∀ x,x < n→(S x=true↔Cn (adj (lvl f A i)) c x)) (hhalf:sz n (adj (lvl f A i)) c * 2≤sz n (Ad (adj (lvl f A i)) a b) c) (ht:i+1 < t):
  BOk n t A (GM.upT f A i S) a b i∧∀ x y,x < n→y < n→S x=true→S y=true→Cn (adj (lvl (GM.upT f A i S) A (i+1))) x y:=by
 have hup:∀ x∈A,(f x).tr=true→(GM.upT f A i S x).tr=true∧(f x).lv≤(GM.upT f A i S x).lv:=fun x _ hx=>⟨by rw [upT_tr];exact hx,(upT_lv f A i S x).1⟩
 have mono:∀ j x y,adj (lvl f A j) x y→adj (lvl (GM.upT f A i S) A j) x y:=fun j x y e=>lvl_up hup e
 have inn:∀ {j x y},Cn (adj (lvl f A j)) x y→x < n→y < n:=fun c hx=>(c.keeps (S:=fun z=>z < n) fun p q e=>by have:=adj_in h.ok (lvl_adj e);omega).1 hx
 have b0:Base n t A (GM.upT f A i S):=⟨h.ok,h.up,by rw [upT_low S (Nat.zero_le i)];exact h.fs,fun x hx=>by have:=upT_lv f A i S x;have:=h.top x hx;omega⟩
 have mem1:∀ x y,adj (lvl (GM.upT f A i S) A (i+1)) x y→adj (lvl f A (i+1)) x y∨(adj (lvl f A i) x y∧S x=true∧S y=true):=by
  intro x y e
  have hin:=adj_in h.ok (lvl_adj e)
  obtain ⟨e1,e2,e3⟩:=(b0.lvl_ek hin.2.2).1 e
  rw [upT_tr] at e2
  by_cases q:i+1≤(f (AK.ek x y)).lv
  ·exact .inl ((h.lvl_ek hin.2.2).2 ⟨e1,e2,q⟩)
  ·right
   have hl:=upT_lv f A i S (AK.ek x y)
   have hli:(f (AK.ek x y)).lv=i:=by omega
   refine ⟨(h.lvl_ek hin.2.2).2 ⟨e1,e2,by omega⟩,?_⟩
   by_cases w:(f (AK.ek x y)).tr=true∧(f (AK.ek x y)).lv=i∧S (AK.ek x y).1.toNat=true∧S (AK.ek x y).2.toNat=true
   ·have hmm:(AK.ek (x:Int) y).1.toNat=min x y∧(AK.ek (x:Int) y).2.toNat=max x y:=by unfold AK.ek;simp only;omega
    rw [hmm.1,hmm.2] at w
    rcases Nat.lt_or_ge x y with hl | hl
    ·rw [Nat.min_eq_left (by omega),Nat.max_eq_right (by omega)] at w;exact ⟨w.2.2.1,w.2.2.2⟩
    ·rw [Nat.min_eq_right (by omega),Nat.max_eq_left (by omega)] at w;exact ⟨w.2.2.2,w.2.2.1⟩
   ·unfold GM.upT at e3
    rw [if_neg w] at e3;omega
 have mem2:∀ x y,adj (lvl f A i) x y→S x=true→S y=true→adj (lvl (GM.upT f A i S) A (i+1)) x y:=by
  intro x y e hx hy
  have hin:=adj_in h.ok (lvl_adj e)
  obtain ⟨e1,e2,e3⟩:=(h.lvl_ek hin.2.2).1 e
  refine (b0.lvl_ek hin.2.2).2 ⟨e1,by rw [upT_tr];exact e2,?_⟩
  by_cases q:i+1≤(f (AK.ek x y)).lv
  ·exact Nat.le_trans q (upT_lv f A i S _).1
  ·have w:(f (AK.ek x y)).tr=true∧(f (AK.ek x y)).lv=i∧S (AK.ek x y).1.toNat=true∧S (AK.ek x y).2.toNat=true:=by
    have hmm:(AK.ek (x:Int) y).1.toNat=min x y∧(AK.ek (x:Int) y).2.toNat=max x y:=by unfold AK.ek;simp only;omega
    refine ⟨e2,by omega,?_⟩
    rw [hmm.1,hmm.2]
    rcases Nat.lt_or_ge x y with hl | hl
    ·rw [Nat.min_eq_left (by omega),Nat.max_eq_right (by omega)];exact ⟨hx,hy⟩
    ·rw [Nat.min_eq_right (by omega),Nat.max_eq_left (by omega)];exact ⟨hy,hx⟩
   unfold GM.upT
   rw [if_pos w]
   exact Nat.le_refl _
 have sep:∀ {x y},Cn (adj (lvl (GM.upT f A i S) A (i+1))) x y→Cn (adj (lvl f A i)) x y:=fun c=>c.mono fun p q e=>by
  rcases mem1 p q e with e | e
  ·exact lvl_anti (by omega) e
  ·exact e.1
 refine ⟨⟨b0,by rw [upT_low S (Nat.zero_le i)];exact h.na,fun u v e hl=>?_,fun u v e hl=>?_,fun j hj=>?_,fun j hj=>by rw [upT_low S hj];exact h.sml j hj⟩,?_⟩
 ·have hin:=adj_in h.ok e
  cases htr:(f (AK.ek u v)).tr with
  | true=>exact .edge ((b0.lvl_ek hin.2.2).2 ⟨e,by rw [upT_tr];exact htr,Nat.le_refl _⟩)
  | false=>
   have q:GM.upT f A i S (AK.ek u v)=f (AK.ek u v):=by unfold GM.upT;rw [if_neg fun w=>by rw [htr] at w;exact absurd w.1 (by simp)]
   rw [q] at hl ⊢
   exact (h.hi u v e hl).mono (mono _)
 ·have q:=upT_lv f A i S (AK.ek u v)
  have q2:(GM.upT f A i S (AK.ek u v)).lv=(f (AK.ek u v)).lv:=by omega
  rw [q2] at hl ⊢
  exact (h.lo u v e hl).mono fun x y e=>e.imp (mono _ x y) id
 ·rcases Nat.lt_or_ge (i+1) j with q | q
  ·rw [upT_high S q];exact h.smh j hj
  ·have:j=i+1:=by omega
   subst this
   intro v hv
   by_cases hSv:S v=true
   ·have cv:=(hS v hv).1 hSv
    have h1:sz n (adj (lvl (GM.upT f A i S) A (i+1))) v≤sz n (adj (lvl f A i)) c:=sz_mono fun u hu w=>cv.trans (sep w)
    rcases h.sml i (Nat.le_refl i) c hc with q | q
    ·left
     have h2:sz n (adj (lvl (GM.upT f A i S) A (i+1))) v * 2 ^ (i+1)≤sz n (adj (lvl f A i)) c * 2 * 2 ^ i:=by
      rw [Nat.pow_succ,Nat.mul_comm (2 ^ i) 2,←Nat.mul_assoc]
      exact Nat.mul_le_mul_right _ (Nat.mul_le_mul_right _ h1)
     exact Nat.le_trans h2 (Nat.le_trans (Nat.mul_le_mul_right _ hhalf) q)
    ·right
     intro u hu w
     have e1:=q v hv (cv.mono fun _ _ e=>.inl e)
     have e2:=q u hu ((cv.trans (sep w)).mono fun _ _ e=>.inl e)
     omega
   ·have out:∀ {x y},Cn (adj (lvl (GM.upT f A i S) A (i+1))) x y→x < n→S x≠true→Cn (adj (lvl f A (i+1))) x y:=by
     intro x y c hx hSx
     have:∀ z,Cn (adj (lvl f A i)) x z→¬ S z=true:=fun z cz hz=>hSx ((hS x hx).2 (((hS z (inn cz hx)).1 hz).trans cz.symm))
     have key:Cn (adj (lvl (GM.upT f A i S) A (i+1))) x y→Cn (fun p q=>adj (lvl f A (i+1)) p q∨(S p=true∧S q=true∧adj (lvl f A i) p q)) x y:=fun c=>c.mono fun p q e=>by
      rcases mem1 p q e with e | e
      ·exact .inl e
      ·exact .inr ⟨e.2.1,e.2.2,e.1⟩
     have kk:=key c
     have inv:(Cn (adj (lvl f A (i+1))) x x↔Cn (adj (lvl f A (i+1))) x y):=kk.keeps (S:=fun z=>Cn (adj (lvl f A (i+1))) x z) fun p q e=>by
      rcases e with e | ⟨e1,e2,e3⟩
      ·exact ⟨fun c=>c.trans (.edge e),fun c=>c.trans (Cn.edge e).symm⟩
      ·constructor
       ·intro c;exact absurd e1 (this p (c.mono fun _ _ e=>lvl_anti (by omega) e))
       ·intro c;exact absurd e2 (this q (c.mono fun _ _ e=>lvl_anti (by omega) e))
     exact inv.1 (.refl _)
    rcases h.smh (i+1) (by omega) v hv with q | q
    ·exact .inl (Nat.le_trans (Nat.mul_le_mul_right _ (sz_mono fun u hu w=>out w hv hSv)) q)
    ·exact .inr fun u hu w=>q u hu (out w hv hSv)
 ·intro x y hx hy sx sy
  have cx:=(hS x hx).1 sx
  have cy:=(hS y hy).1 sy
  have:∀ {z},Cn (adj (lvl f A i)) c z→Cn (adj (lvl (GM.upT f A i S) A (i+1))) c z:=by
   intro z cz
   have inv:(Cn (adj (lvl (GM.upT f A i S) A (i+1))) c c∧S c=true↔Cn (adj (lvl (GM.upT f A i S) A (i+1))) c z∧S z=true):=cz.keeps (S:=fun z=>Cn (adj (lvl (GM.upT f A i S) A (i+1))) c z∧S z=true) fun p q e=>by
    have hin:=adj_in h.ok (lvl_adj e)
    have spq:S p=true↔S q=true:=by
     rw [hS p hin.1,hS q hin.2.1]
     exact ⟨fun w=>w.trans (.edge e),fun w=>w.trans (Cn.edge e).symm⟩
    constructor
    ·rintro ⟨c1,s1⟩;exact ⟨c1.trans (.edge (mem2 p q e s1 (spq.1 s1))),spq.1 s1⟩
    ·rintro ⟨c1,s1⟩;exact ⟨c1.trans (Cn.edge (mem2 p q e (spq.2 s1) s1)).symm,spq.2 s1⟩
   exact (inv.1 ⟨.refl _,(hS c hc).2 (.refl _)⟩).1
  exact (this cx).symm.trans (this cy)
end
end GM
end Go.Proofs.YtkoajpeabicpdaaGreatDoor
namespace Go.Proofs.YtkoajpeabicpdaaGreatDoor
namespace GM
open DF PD PT TR
section
variable {n t:Nat} {A:List AK.Ed} {f:AK.Ed→St} {a b i:Nat}
theorem lvl_nt {x:AK.Ed} {s:St} (hx:(f x).tr=false) (hs:s.tr=false) (j:Nat):lvl (updS f x s) A j=lvl f A j:=by
 unfold lvl
 congr 1
 funext y
 by_cases e:y=x
 ·subst e;rw [updS_same];simp [hx,hs]
 ·rw [updS_ne e]
theorem ek_cases {u v x y:Nat} (q:AK.ek (x:Int) y=AK.ek (u:Int) v):(x=u∧y=v)∨(x=v∧y=u):=by
 unfold AK.ek at q;rw [Prod.mk.injEq] at q;omega
theorem BOk.rise (h:BOk n t A f a b i) {u v:Nat} (hx:adj A u v) (hnt:(f (AK.ek u v)).tr=false) (hc:Cn (adj (lvl f A (i+1))) u v) (ht:i+1 < t):BOk n t A (updS f (AK.ek u v) ⟨i+1,false⟩) a b i:=by
 have L:=lvl_nt (A:=A) (s:=⟨i+1,false⟩) hnt rfl
 refine ⟨⟨h.ok,h.up,by rw [L];exact h.fs,fun x hx=>?_⟩,by rw [L];exact h.na,fun x y e hl=>?_,fun x y e hl=>?_,fun j hj=>by rw [L];exact h.smh j hj,fun j hj=>by rw [L];exact h.sml j hj⟩
 ·by_cases e:x=AK.ek u v
  ·subst e;rw [updS_same];exact ht
  ·rw [updS_ne e];exact h.top x hx
 ·rw [L]
  by_cases q:AK.ek x y=AK.ek u v
  ·rw [q,updS_same]
   rcases ek_cases q with ⟨rfl,rfl⟩ | ⟨rfl,rfl⟩
   ·exact hc
   ·exact hc.symm
  ·rw [updS_ne q] at hl ⊢
   exact h.hi x y e hl
 ·rw [L]
  by_cases q:AK.ek x y=AK.ek u v
  ·rw [q,updS_same] at hl;exact absurd hl (by simp)
  ·rw [updS_ne q] at hl ⊢
   exact h.lo x y e hl
theorem BOk.found (h:BOk n t A f a b i) {S:Nat→Prop} (hS:(∀ x,S x↔Cn (adj (lvl f A i)) a x)∨(∀ x,S x↔Cn (adj (lvl f A i)) b x)) {u v:Nat} (hx:adj A u v) (hnt:(f (AK.ek u v)).tr=false) (hl:(f (AK.ek u v)).lv=i) (hs:¬ (S u↔S v)):
  GOk n t A (updS f (AK.ek u v) ⟨i,true⟩)∧(∀ j,j≤i→¬ Cn (adj (lvl f A j)) u v∧lvl (updS f (AK.ek u v) ⟨i,true⟩) A j=putE (AK.ek u v) (lvl f A j))∧(∀ j,i < j→lvl (updS f (AK.ek u v) ⟨i,true⟩) A j=lvl f A j):=by
 have hin:=adj_in h.ok hx
 have hmem:AK.ek u v∈A:=(h.adj_ek hin.2.2).2 hx
 have hnl:∀ j,AK.ek u v ∉ lvl f A j:=fun j w=>by have:=(lvl_mem.1 w).2.1;rw [hnt] at this;cases this
 have nuv:¬ Cn (adj (lvl f A i)) u v:=fun c=>hs (by
  rcases hS with q | q
  ·rw [q,q];exact ⟨fun w=>w.trans c,fun w=>w.trans c.symm⟩
  ·rw [q,q];exact ⟨fun w=>w.trans c,fun w=>w.trans c.symm⟩)
 have ends:(Cn (adj (lvl f A i)) u a∧Cn (adj (lvl f A i)) v b)∨(Cn (adj (lvl f A i)) u b∧Cn (adj (lvl f A i)) v a):=by
  have c:=h.lo u v hx (by omega)
  rw [hl] at c
  rcases cn_cut' (F:=adj (lvl f A i)) (fun p q w=>w) c with c | c | c
  ·exact absurd c nuv
  ·exact .inl c
  ·exact .inr c
 have dn:∀ {j x y},j≤i→Cn (adj (lvl f A i)) x y→Cn (adj (lvl f A j)) x y:=fun hj c=>c.mono fun _ _ e=>lvl_anti hj e
 have noj:∀ j,¬ Cn (adj (lvl f A j)) u v:=fun j c=>by
  have c0:Cn (adj (lvl f A 0)) u v:=c.mono fun _ _ e=>lvl_anti (Nat.zero_le _) e
  rcases ends with ⟨p,q⟩ | ⟨p,q⟩
  ·exact h.na ((dn (Nat.zero_le i) p).symm.trans (c0.trans (dn (Nat.zero_le i) q)))
  ·exact h.na ((dn (Nat.zero_le i) q).symm.trans (c0.symm.trans (dn (Nat.zero_le i) p)))
 have mem:∀ j x,x∈lvl (updS f (AK.ek u v) ⟨i,true⟩) A j↔(x=AK.ek u v∧j≤i)∨x∈lvl f A j:=fun j x=>by
  rw [lvl_mem,lvl_mem]
  by_cases e:x=AK.ek u v
  ·subst e;rw [updS_same];simp [hmem,hnt]
  ·rw [updS_ne e];simp [e]
 have low:∀ j,j≤i→lvl (updS f (AK.ek u v) ⟨i,true⟩) A j=putE (AK.ek u v) (lvl f A j):=fun j hj=>
  rises_ext (h.up.filter _) (putE_rises (h.up.filter _) (hnl j)) fun x=>by rw [mem,putE_mem];simp [hj]
 have high:∀ j,i < j→lvl (updS f (AK.ek u v) ⟨i,true⟩) A j=lvl f A j:=fun j hj=>
  rises_ext (h.up.filter _) (h.up.filter _) fun x=>by rw [mem];simp;omega
 have adl:∀ j,j≤i→∀ x y,adj (lvl (updS f (AK.ek u v) ⟨i,true⟩) A j) x y↔Ad (adj (lvl f A j)) u v x y:=fun j hj x y=>by rw [low j hj];exact adj_put x y
 have cab:∀ j,j≤i→Cn (adj (lvl (updS f (AK.ek u v) ⟨i,true⟩) A j)) a b:=fun j hj=>by
  have up:∀ {x y},Cn (adj (lvl f A i)) x y→Cn (adj (lvl (updS f (AK.ek u v) ⟨i,true⟩) A j)) x y:=fun c=>(dn hj c).mono fun x y e=>(adl j hj x y).2 (.inl e)
  have e:Cn (adj (lvl (updS f (AK.ek u v) ⟨i,true⟩) A j)) u v:=.edge ((adl j hj u v).2 (.inr (.inl ⟨rfl,rfl⟩)))
  rcases ends with ⟨p,q⟩ | ⟨p,q⟩
  ·exact (up p).symm.trans (e.trans (up q))
  ·exact (up q).symm.trans (e.symm.trans (up p))
 have back:∀ j,j≤i→∀ {x y},Cn (adj (lvl (updS f (AK.ek u v) ⟨i,true⟩) A j)) x y→Cn (Ad (adj (lvl f A j)) a b) x y:=fun j hj x y c=>by
  have up:∀ {x y},Cn (adj (lvl f A i)) x y→Cn (Ad (adj (lvl f A j)) a b) x y:=fun c=>(dn hj c).mono fun x y e=>.inl e
  have e:Cn (Ad (adj (lvl f A j)) a b) a b:=.edge (.inr (.inl ⟨rfl,rfl⟩))
  have cuv:Cn (Ad (adj (lvl f A j)) a b) u v:=by
   rcases ends with ⟨p,q⟩ | ⟨p,q⟩
   ·exact (up p).trans (e.trans (up q).symm)
   ·exact (up p).trans (e.symm.trans (up q).symm)
  refine c.into (R:=Cn (Ad (adj (lvl f A j)) a b)) .refl (fun p q w=>?_) (fun _ _=>.symm) (fun _ _ _=>.trans)
  rcases (adl j hj p q).1 w with w | ⟨rfl,rfl⟩ | ⟨rfl,rfl⟩
  ·exact .edge (.inl w)
  ·exact cuv
  ·exact cuv.symm
 refine ⟨⟨⟨h.ok,h.up,?_,fun x hx=>?_⟩,fun x y e=>?_,fun j=>?_⟩,fun j hj=>⟨noj j,low j hj⟩,high⟩
 ·exact (h.fs.ad (noj 0)).congr fun x y=>adl 0 (Nat.zero_le i) x y
 ·by_cases e:x=AK.ek u v
  ·subst e;rw [updS_same];have:=h.top _ hmem;simp only;omega
  ·rw [updS_ne e];exact h.top x hx
 ·by_cases q:AK.ek x y=AK.ek u v
  ·rw [q,updS_same]
   have:Cn (adj (lvl (updS f (AK.ek u v) ⟨i,true⟩) A i)) u v:=.edge ((adl i (Nat.le_refl i) u v).2 (.inr (.inl ⟨rfl,rfl⟩)))
   rcases ek_cases q with ⟨rfl,rfl⟩ | ⟨rfl,rfl⟩
   ·exact this
   ·exact this.symm
  ·rw [updS_ne q]
   rcases Nat.lt_or_ge i (f (AK.ek x y)).lv with w | w
   ·rw [high _ w];exact h.hi x y e w
   ·refine (h.lo x y e w).into (R:=Cn (adj (lvl (updS f (AK.ek u v) ⟨i,true⟩) A (f (AK.ek x y)).lv))) .refl (fun p q z=>?_) (fun _ _=>.symm) (fun _ _ _=>.trans)
    rcases z with z | ⟨rfl,rfl⟩ | ⟨rfl,rfl⟩
    ·exact .edge ((adl _ w p q).2 (.inl z))
    ·exact cab _ w
    ·exact (cab _ w).symm
 ·rcases Nat.lt_or_ge i j with w | w
  ·rw [high j w];exact h.smh j w
  ·intro v' hv'
   rcases h.sml j w v' hv' with q | q
   ·exact .inl (Nat.le_trans (Nat.mul_le_mul_right _ (sz_mono fun u _ c=>back j w c)) q)
   ·exact .inr fun u hu c=>q u hu (back j w c)
theorem level_le (h:Sm n (adj (lvl f A i)) i) (hn:n≤60) (ok:∀ x∈A,0≤x.1∧x.1 < x.2∧x.2 < (n:Int)) {u v:Nat} (hx:adj A u v) (hc:Cn (adj (lvl f A i)) u v):i≤4:=by
 have hin:=adj_in ok hx
 rcases h u hin.1 with q | q
 ·have h2:2≤sz n (adj (lvl f A i)) u:=by
   have h0:PD.cnt (fun z=>decide (z=u)) n+1≤sz n (adj (lvl f A i)) u:=cnt_lt (u:=v) (fun z _ e=>by simp at e ⊢;subst e;exact .refl _) hin.2.1 (by simpa using hc) (by simpa using (Ne.symm hin.2.2))
   have h1:PD.cnt (fun z=>decide (z < 0)) n+1≤PD.cnt (fun z=>decide (z=u)) n:=cnt_lt (u:=u) (fun z _ e=>by simp at e) hin.1 (by simp) (by simp)
   omega
  apply Classical.byContradiction
  intro w
  have h5:2 ^ 5≤2 ^ i:=Nat.pow_le_pow_right (by omega) (by omega)
  have:=Nat.mul_le_mul h2 h5
  omega
 ·exact absurd (q v hin.2.1 hc) (Ne.symm hin.2.2)
theorem GOk.lv_le (h:GOk n t A f) (hn:n≤60) {u v:Nat} (hx:adj A u v):(f (AK.ek u v)).lv≤4:=level_le (h.sm _) hn h.ok hx (h.con u v hx)
end
end GM
end Go.Proofs.YtkoajpeabicpdaaGreatDoor
