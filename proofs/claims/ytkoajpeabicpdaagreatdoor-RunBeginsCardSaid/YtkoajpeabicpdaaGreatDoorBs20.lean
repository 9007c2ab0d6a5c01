/-
Plain: mending a level edge by edge: the lesser tree goes up, then the other edges are looked at. No program here; no conditions.
-/
import Derived.Test.YtkoajpeabicpdaaGreatDoorBs18
set_option linter.unusedVariables false
namespace Go.Proofs.YtkoajpeabicpdaaGreatDoor
namespace GM
open DF PD PT TR
theorem ek_form {n:Nat} {x:AK.Ed} (h:0≤x.1∧x.1 < x.2∧x.2 < (n:Int)):∃ u v:Nat,u < v∧v < n∧x=((u:Int),(v:Int))∧AK.ek u v=x:=by
 obtain ⟨x1,x2⟩:=x
 simp only at h
 refine ⟨x1.toNat,x2.toNat,by omega,by omega,Prod.ext (by simp only;omega) (by simp only;omega),?_⟩
 unfold AK.ek
 exact Prod.ext (by simp only;omega) (by simp only;omega)
def upL (f:AK.Ed→St) (i:Nat) (S:Nat→Bool) (L:List AK.Ed):AK.Ed→St:=fun x=>if x∈L∧(f x).lv=i∧S x.1.toNat=true∧S x.2.toNat=true then ⟨i+1,true⟩ else f x
section
variable {n t:Nat} {A L:List AK.Ed} {f f1 fk:AK.Ed→St} {a b c i k:Nat} {S:Nat→Bool} {x:AK.Ed}
theorem upL_nil:upL f i S []=f:=by funext x;unfold upL;rw [if_neg (by simp)]
theorem upL_out (hx:x ∉ L):upL f i S L x=f x:=by unfold upL;rw [if_neg (fun w=>hx w.1)]
theorem upL_no (hx:¬ ((f x).lv=i∧S x.1.toNat=true∧S x.2.toNat=true)):upL f i S (L++[x])=upL f i S L:=by
 funext y
 unfold upL
 by_cases e:y=x
 ·subst e;rw [if_neg (fun w=>hx w.2),if_neg (fun w=>hx w.2)]
 ·simp [e]
theorem upL_yes (hx:(f x).lv=i∧S x.1.toNat=true∧S x.2.toNat=true):upL f i S (L++[x])=updS (upL f i S L) x ⟨i+1,true⟩:=by
 funext y
 by_cases e:y=x
 ·subst e;rw [updS_same];unfold upL;rw [if_pos ⟨by simp,hx⟩]
 ·rw [updS_ne e];unfold upL;simp [e]
theorem upL_tr (hL:∀ y∈L,(f y).tr=true) (y:AK.Ed):(upL f i S L y).tr=(f y).tr:=by
 unfold upL;split
 ·rename_i w;rw [hL y w.1]
 ·rfl
theorem upL_lv (y:AK.Ed):(f y).lv≤(upL f i S L y).lv∧((upL f i S L y).lv=(f y).lv∨((f y).lv=i∧(upL f i S L y).lv=i+1)):=by
 unfold upL;split
 ·rename_i h;have h2:=h.2.1;exact ⟨by show (f y).lv≤i+1;omega,.inr ⟨h2,rfl⟩⟩
 ·exact ⟨Nat.le_refl _,.inl rfl⟩
theorem lvl_congr {g:AK.Ed→St} (h:∀ x∈A,g x=f x) (j:Nat):lvl g A j=lvl f A j:=by
 unfold lvl
 exact List.filter_congr fun x hx=>by rw [h x hx]
theorem upL_all (y:AK.Ed) (hy:y∈A):upL f i S (lvl f A 0) y=upT f A i S y:=by
 unfold upL upT
 have:(y∈lvl f A 0∧(f y).lv=i∧S y.1.toNat=true∧S y.2.toNat=true)↔((f y).tr=true∧(f y).lv=i∧S y.1.toNat=true∧S y.2.toNat=true):=by
  rw [lvl_mem];simp [hy]
 simp only [this]
theorem lvl_upL_ne (hL:∀ y∈L,(f y).tr=true) {j:Nat} (hj:j≠i+1):lvl (upL f i S L) A j=lvl f A j:=by
 unfold lvl
 congr 1
 funext x
 rw [upL_tr hL]
 have:=@upL_lv L f i S x
 congr 1
 rw [decide_eq_decide]
 omega
theorem mem_lvl_upL (hL:∀ y∈L,(f y).tr=true) {j:Nat} {y:AK.Ed} (h:y∈lvl (upL f i S L) A j):y∈lvl f A 0:=by
 obtain ⟨h1,h2,_⟩:=lvl_mem.1 h
 rw [upL_tr hL] at h2
 exact lvl_mem.2 ⟨h1,h2,Nat.zero_le _⟩
theorem lvl_upL_snoc (h:A.Pairwise ltE) (hL:∀ y∈L,(f y).tr=true) (hxA:x∈A) (htr:(f x).tr=true) (hxL:x ∉ L) (hx:(f x).lv=i∧S x.1.toNat=true∧S x.2.toNat=true):
  lvl (upL f i S (L++[x])) A (i+1)=putE x (lvl (upL f i S L) A (i+1)):=by
 have hn:x ∉ lvl (upL f i S L) A (i+1):=fun w=>by
  have:=(lvl_mem.1 w).2.2
  rw [upL_out hxL] at this;omega
 refine rises_ext (h.filter _) (putE_rises (h.filter _) hn) fun y=>?_
 rw [upL_yes hx,putE_mem,lvl_mem,lvl_mem]
 by_cases e:y=x
 ·subst e;rw [updS_same];simp [hxA]
 ·rw [updS_ne e];simp [e]
theorem up_no (h:Base n t A f) (hL:∀ y∈L,(f y).tr=true) {u v:Nat} (huv:u≠v) (hx:AK.ek u v∈lvl f A 0) (hxL:AK.ek u v ∉ L) (hl:(f (AK.ek u v)).lv=i):¬ Cn (adj (lvl (upL f i S L) A (i+1))) u v:=by
 have hlt:∀ x∈lvl f A 0,x.1 < x.2:=fun x hx=>h.lt x (lvl_mem.1 hx).1
 have e0:adj (lvl f A 0) u v:=(TR.adj_ek hlt huv).1 hx
 intro c
 refine h.fs u v e0 (c.mono fun p q e=>?_)
 have e1:adj (lvl f A 0) p q:=e.imp (mem_lvl_upL hL) (mem_lvl_upL hL)
 have hpq:=(adj_in h.ok (lvl_adj e1)).2.2
 have hm:AK.ek p q∈lvl (upL f i S L) A (i+1):=(TR.adj_ek (fun x hx=>hlt x (mem_lvl_upL hL hx)) hpq).2 e
 have key:AK.ek (p:Int) q≠AK.ek u v:=fun w=>by
  rw [w] at hm
  have:=(lvl_mem.1 hm).2.2
  rw [upL_out hxL,hl] at this;omega
 exact ⟨e1,fun w=>key (by rw [w.1,w.2]),fun w=>key (by rw [w.1,w.2];exact ek_comm' _ _)⟩
structure M2 (n t:Nat) (A:List AK.Ed) (f1:AK.Ed→St) (a b i:Nat) (S:Nat→Bool) (k:Nat) (fk:AK.Ed→St):Prop where
 ok:BOk n t A fk a b i
 l:∀ j,lvl fk A j=lvl f1 A j
 rest:∀ j x,k≤j→A[j]?=some x→fk x=f1 x
 done:∀ j x,j < k→A[j]?=some x→(fk x).tr=false→(fk x).lv=i→S x.1.toNat=false∧S x.2.toNat=false
 up:∀ x∈A,(f1 x).lv≤(fk x).lv
theorem M2.start (h:BOk n t A f1 a b i):M2 n t A f1 a b i S 0 f1:=⟨h,fun _=>rfl,fun _ _ _ _=>rfl,fun _ _ h=>absurd h (Nat.not_lt_zero _),fun _ _=>Nat.le_refl _⟩
theorem M2.skip (h:M2 n t A f1 a b i S k fk) (hx:A[k]?=some x) (hs:(fk x).tr=true∨(fk x).lv≠i∨(S x.1.toNat=false∧S x.2.toNat=false)):M2 n t A f1 a b i S (k+1) fk:=
 ⟨h.ok,h.l,fun j y hj hy=>h.rest j y (by omega) hy,fun j y hj hy ht hl=>by
  rcases Nat.lt_or_ge j k with q | q
  ·exact h.done j y q hy ht hl
  ·have:j=k:=by omega
   subst this
   rw [hx] at hy
   obtain rfl:=Option.some.inj hy
   rcases hs with w | w | w
   ·rw [ht] at w;cases w
   ·exact absurd hl w
   ·exact w,h.up⟩
theorem idx_inj {A:List AK.Ed} (h:A.Pairwise ltE) {j k:Nat} {x:AK.Ed} (hj:A[j]?=some x) (hk:A[k]?=some x):j=k:=by
 obtain ⟨j1,j2⟩:=List.getElem?_eq_some_iff.1 hj
 obtain ⟨k1,k2⟩:=List.getElem?_eq_some_iff.1 hk
 have irr:∀ y,¬ ltE y y:=fun y w=>by unfold ltE at w;omega
 rcases Nat.lt_trichotomy j k with q | q | q
 ·have:=List.pairwise_iff_getElem.1 h j k j1 k1 q
  rw [j2,k2] at this;exact absurd this (irr _)
 ·exact q
 ·have:=List.pairwise_iff_getElem.1 h k j k1 j1 q
  rw [j2,k2] at this;exact absurd this (irr _)
theorem M2.rise (h:M2 n t A f1 a b i S k fk) (hx:A[k]?=some x) (ht:(fk x).tr=false) (hl:(fk x).lv=i) (hs:S x.1.toNat=true∧S x.2.toNat=true)
  (hin:∀ x y,x < n→y < n→S x=true→S y=true→Cn (adj (lvl f1 A (i+1))) x y) (hti:i+1 < t):M2 n t A f1 a b i S (k+1) (updS fk x ⟨i+1,false⟩):=by
 have hxA:=List.mem_of_getElem? hx
 obtain ⟨u,v,huv,hv,rfl,he⟩:=ek_form (h.ok.ok _ hxA)
 simp only [Int.toNat_natCast] at hs
 have hadj:adj A u v:=.inl hxA
 have hb:=h.ok.rise hadj (by rw [he];exact ht) (by rw [h.l];exact hin u v (by omega) hv hs.1 hs.2) hti
 rw [he] at hb
 refine ⟨hb,fun j=>by rw [lvl_nt ht rfl];exact h.l j,fun j y hj hy=>?_,fun j y hj hy=>?_,fun y hy=>?_⟩
 ·have hne:y≠((u:Int),(v:Int)):=fun w=>by subst w;have:=idx_inj h.ok.up hy hx;omega
  rw [updS_ne hne];exact h.rest j y (by omega) hy
 ·by_cases e:y=((u:Int),(v:Int))
  ·subst e;rw [updS_same];intro _ w;simp at w
  ·rw [updS_ne e]
   have:j≠k:=fun w=>by subst w;rw [hx] at hy;exact e (Option.some.inj hy).symm
   exact h.done j y (by omega) hy
 ·by_cases e:y=((u:Int),(v:Int))
  ·subst e;rw [updS_same];have:=h.up _ hxA;simp only;omega
  ·rw [updS_ne e];exact h.up y hy
def Side (n:Nat) (E:Nat→Nat→Prop) (a b:Nat) (S:Nat→Bool):Prop:=∃ c,(c=a∨c=b)∧c < n∧∀ x,x < n→(S x=true↔Cn E c x)
theorem M2.found (h:M2 n t A f1 a b i S k fk) (hS:Side n (adj (lvl f1 A i)) a b S) (hx:A[k]?=some x) (ht:(fk x).tr=false) (hl:(fk x).lv=i) (hs:¬ (S x.1.toNat=true↔S x.2.toNat=true)):
  ∃ u v:Nat,u < n∧v < n∧x=((u:Int),(v:Int))∧AK.ek u v=x∧GOk n t A (updS fk x ⟨i,true⟩)∧(∀ j,j≤i→¬ Cn (adj (lvl fk A j)) u v∧lvl (updS fk x ⟨i,true⟩) A j=putE x (lvl fk A j))∧(∀ j,i < j→lvl (updS fk x ⟨i,true⟩) A j=lvl fk A j)∧∀ y∈A,(f1 y).lv≤(updS fk x ⟨i,true⟩ y).lv:=by
 have hxA:=List.mem_of_getElem? hx
 obtain ⟨u,v,huv,hv,rfl,he⟩:=ek_form (h.ok.ok _ hxA)
 simp only [Int.toNat_natCast] at hs
 obtain ⟨c,hc,hcn,hcS⟩:=hS
 have hadj:adj A u v:=.inl hxA
 have hS':(∀ x,Cn (adj (lvl fk A i)) c x↔Cn (adj (lvl fk A i)) a x)∨(∀ x,Cn (adj (lvl fk A i)) c x↔Cn (adj (lvl fk A i)) b x):=by
  rcases hc with rfl | rfl
  ·exact .inl fun _=>Iff.rfl
  ·exact .inr fun _=>Iff.rfl
 have hf:=h.ok.found (S:=fun x=>Cn (adj (lvl fk A i)) c x) hS' hadj (by rw [he];exact ht) (by rw [he];exact hl) (by
  show ¬ (Cn (adj (lvl fk A i)) c u↔Cn (adj (lvl fk A i)) c v)
  rw [h.l,←hcS u (by omega),←hcS v hv];exact hs)
 rw [he] at hf
 refine ⟨u,v,by omega,hv,rfl,he,hf.1,hf.2.1,hf.2.2,fun y hy=>?_⟩
 by_cases e:y=((u:Int),(v:Int))
 ·subst e;rw [updS_same];have:=h.up _ hxA;simp only;omega
 ·rw [updS_ne e];exact h.up y hy
theorem M2.none (h:M2 n t A f1 a b i S A.length fk) (hS:Side n (adj (lvl f1 A i)) a b S):
  (∀ u v,adj A u v→(fk (AK.ek u v)).lv=i→Cn (adj (lvl fk A i)) u v)∧∀ j,j≤i→Sm n (adj (lvl fk A j)) j:=by
 obtain ⟨c,hc,hcn,hcS⟩:=hS
 have hS':(∀ x,Cn (adj (lvl fk A i)) c x↔Cn (adj (lvl fk A i)) a x)∨(∀ x,Cn (adj (lvl fk A i)) c x↔Cn (adj (lvl fk A i)) b x):=by
  rcases hc with rfl | rfl
  ·exact .inl fun _=>Iff.rfl
  ·exact .inr fun _=>Iff.rfl
 refine h.ok.next (S:=fun x=>Cn (adj (lvl fk A i)) c x) hS' fun u v e hl ht=>?_
 have hin:=adj_in h.ok.ok e
 have hm:AK.ek u v∈A:=(h.ok.adj_ek hin.2.2).2 e
 obtain ⟨j,hj⟩:=List.mem_iff_getElem?.1 hm
 have hjl:=(List.getElem?_eq_some_iff.1 hj).1
 have hd:=h.done j _ hjl hj ht hl
 have key:∀ z,z < n→S z=false→¬ Cn (adj (lvl fk A i)) c z:=fun z hz w cz=>by
  rw [h.l] at cz
  rw [(hcS z hz).2 cz] at w;cases w
 have hmm:(AK.ek (u:Int) v).1.toNat=min u v∧(AK.ek (u:Int) v).2.toNat=max u v:=by unfold AK.ek;simp only;omega
 rw [hmm.1,hmm.2] at hd
 rcases Nat.lt_or_ge u v with q | q
 ·rw [Nat.min_eq_left (by omega),Nat.max_eq_right (by omega)] at hd;exact ⟨key u hin.1 hd.1,key v hin.2.1 hd.2⟩
 ·rw [Nat.min_eq_right (by omega),Nat.max_eq_left (by omega)] at hd;exact ⟨key u hin.1 hd.2,key v hin.2.1 hd.1⟩
theorem half (h:BOk n t A f a b i) {c d:Nat} (hcd:(c=a∧d=b)∨(c=b∧d=a)) (hle:sz n (adj (lvl f A i)) c≤sz n (adj (lvl f A i)) d):sz n (adj (lvl f A i)) c * 2≤sz n (Ad (adj (lvl f A i)) a b) c:=by
 have hna:¬ Cn (adj (lvl f A i)) c d:=fun w=>by
  have w0:Cn (adj (lvl f A 0)) c d:=w.mono fun _ _ e=>lvl_anti (Nat.zero_le _) e
  rcases hcd with ⟨rfl,rfl⟩ | ⟨rfl,rfl⟩
  ·exact h.na w0
  ·exact h.na w0.symm
 have hcd':Cn (Ad (adj (lvl f A i)) a b) c d:=by
  rcases hcd with ⟨rfl,rfl⟩ | ⟨rfl,rfl⟩
  ·exact .edge (.inr (.inl ⟨rfl,rfl⟩))
  ·exact .edge (.inr (.inr ⟨rfl,rfl⟩))
 have key:∀ m,PD.cnt (fun u=>by classical exact decide (Cn (adj (lvl f A i)) c u)) m+PD.cnt (fun u=>by classical exact decide (Cn (adj (lvl f A i)) d u)) m≤PD.cnt (fun u=>by classical exact decide (Cn (Ad (adj (lvl f A i)) a b) c u)) m:=by
  intro m
  induction m with
  | zero=>exact Nat.le_refl _
  | succ m ih=>
   unfold PD.cnt
   have e1:Cn (adj (lvl f A i)) c m→Cn (Ad (adj (lvl f A i)) a b) c m:=fun w=>w.mono fun _ _ e=>.inl e
   have e2:Cn (adj (lvl f A i)) d m→Cn (Ad (adj (lvl f A i)) a b) c m:=fun w=>hcd'.trans (w.mono fun _ _ e=>.inl e)
   by_cases q1:Cn (adj (lvl f A i)) c m
   ·have q2:¬ Cn (adj (lvl f A i)) d m:=fun w=>hna (q1.trans w.symm)
    simp only [q1,q2,e1 q1,decide_true,decide_false,if_true]
    simp;omega
   ·by_cases q2:Cn (adj (lvl f A i)) d m
    ·simp only [q1,q2,e2 q2,decide_true,decide_false,if_true]
     simp;omega
    ·simp only [q1,q2,decide_false]
     simp;omega
 have:=key n
 unfold sz at hle ⊢
 omega
end
end GM
end Go.Proofs.YtkoajpeabicpdaaGreatDoor
