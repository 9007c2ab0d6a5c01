/-
Texts of events, in plain Lean: what is written, what is read. No program in sight.
-/
import Derived.Lib.AtoiAll
import Derived.Lib.ItoaNum
import Derived.Lib.Bytealg
import Derived.Lib.SplitLaws
import Derived.Lib.AtoiAllCases
import Derived.Lib.IndexBytes
import Derived.Lib.IndexLaws
import Derived.Lib.Join
set_option linter.unusedVariables false
namespace Go.Proofs.YtkoajpeabicpdaaGreatDoor
open Go
namespace NT
open Lib
def sg (W:Nat):UInt8:=if W=1 then 43 else if W=2 then 45 else 63
def sgs:List UInt8:=[43,45,63]
structure Vd (W A B:Nat):Prop where
 w1:1≤W
 w3:W≤3
 a:A < 60
 b:B < 60
def txt (W A B:Nat):List UInt8:=sg W::(decDigits A++32::decDigits B)
theorem idx_sg {W:Nat} (h1:1≤W) (h3:W≤3):indexByte sgs (sg W)+1=(W:Int):=by
 have:W=1∨W=2∨W=3:=by omega
 rcases this with rfl | rfl | rfl <;> decide
theorem idx_le (c:UInt8):-1≤indexByte sgs c∧indexByte sgs c≤2:=by
 unfold sgs
 by_cases h1:(43:UInt8)=c
 ·subst h1;decide
 ·by_cases h2:(45:UInt8)=c
  ·subst h2;decide
  ·by_cases h3:(63:UInt8)=c
   ·subst h3;decide
   ·simp [indexByte,h1,h2,h3]
theorem idx_is {c:UInt8} {W:Nat} (h:indexByte sgs c+1=(W:Int)) (h1:1≤W):c=sg W:=by
 unfold sgs at h
 by_cases e1:(43:UInt8)=c
 ·subst e1
  have:indexByte [43,45,63] (43:UInt8)=0:=by decide
  rw [this] at h
  obtain rfl:W=1:=by omega
  rfl
 ·by_cases e2:(45:UInt8)=c
  ·subst e2
   have:indexByte [43,45,63] (45:UInt8)=1:=by decide
   rw [this] at h
   obtain rfl:W=2:=by omega
   rfl
  ·by_cases e3:(63:UInt8)=c
   ·subst e3
    have:indexByte [43,45,63] (63:UInt8)=2:=by decide
    rw [this] at h
    obtain rfl:W=3:=by omega
    rfl
   ·simp [indexByte,e1,e2,e3] at h
    omega
theorem dec_is {A:Nat} (h:A < 60):decDigits A=if A < 10 then [UInt8.ofNat (48+A)] else [UInt8.ofNat (48+A / 10),UInt8.ofNat (48+A % 10)]:=by
 rw [decDigits]
 by_cases h1:A < 10
 ·rw [dif_pos h1,if_pos h1]
 ·rw [dif_neg h1,if_neg h1,decDigits,dif_pos (by omega)];rfl
theorem dec_all:∀ A,A < 60→(decDigits A).all (fun c=>c != 32)=true∧atoiAll (decDigits A)=.ok (A:Int)∧(decDigits A).length≤2:=by
 have:∀ A:Fin 60,(((if A.val < 10 then [UInt8.ofNat (48+A.val)] else [UInt8.ofNat (48+A.val / 10),UInt8.ofNat (48+A.val % 10)]:List UInt8)).all (fun c=>c != 32)=true∧atoiAll (if A.val < 10 then [UInt8.ofNat (48+A.val)] else [UInt8.ofNat (48+A.val / 10),UInt8.ofNat (48+A.val % 10)])=.ok (A.val:Int)∧(if A.val < 10 then [UInt8.ofNat (48+A.val)] else [UInt8.ofNat (48+A.val / 10),UInt8.ofNat (48+A.val % 10)]:List UInt8).length≤2):=by decide +kernel
 intro A hA
 rw [dec_is hA]
 exact this ⟨A,hA⟩
def cutA (l:List UInt8):List UInt8:=l.takeWhile (fun c=>c != 32)
def cutB (l:List UInt8):List UInt8:=(l.dropWhile (fun c=>c != 32)).drop 1
theorem cut_txt {a b:List UInt8} (h:a.all (fun c=>c != 32)=true):cutA (a++32::b)=a∧cutB (a++32::b)=b:=by
 unfold cutA cutB
 induction a with
 | nil=>simp
 | cons c a ih=>
  simp only [List.all_cons,Bool.and_eq_true] at h
  obtain ⟨h1,h2⟩:=ih h.2
  have e1:List.takeWhile (fun c=>c != 32) (c::(a++32::b))=c::List.takeWhile (fun c=>c != 32) (a++32::b):=by rw [List.takeWhile_cons];simp [h.1]
  have e2:List.dropWhile (fun c=>c != 32) (c::(a++32::b))=List.dropWhile (fun c=>c != 32) (a++32::b):=by rw [List.dropWhile_cons];simp [h.1]
  rw [List.cons_append,e1,e2]
  exact ⟨by rw [h1],h2⟩
theorem idx_cut:∀ (l:List UInt8),(indexByte l 32=-1→cutA l=l∧cutB l=[])∧(0≤indexByte l 32→(indexByte l 32).toNat < l.length∧cutA l=l.take (indexByte l 32).toNat∧cutB l=l.drop ((indexByte l 32).toNat+1))
 | []=>⟨fun _=>⟨rfl,rfl⟩,fun h=>by simp [indexByte] at h⟩
 | c::r=>by
  obtain ⟨h1,h2⟩:=idx_cut r
  have hge:=indexByte_ge r 32
  by_cases hc:c=32
  ·subst hc
   have e:indexByte (32::r) 32=0:=by simp [indexByte]
   rw [e]
   exact ⟨fun h=>by omega,fun _=>⟨by simp,by simp [cutA],by simp [cutB]⟩⟩
  ·have hcb:(c == 32)=false:=by simpa using hc
   have hcn:(c != 32)=true:=by simpa using hc
   have ea:cutA (c::r)=c::cutA r:=by unfold cutA;rw [List.takeWhile_cons];simp [hcn]
   have eb:cutB (c::r)=cutB r:=by unfold cutB;rw [List.dropWhile_cons];simp [hcn]
   rw [ea,eb]
   by_cases hr:indexByte r 32=-1
   ·have e:indexByte (c::r) 32=-1:=by simp [indexByte,hcb,hr]
    rw [e]
    obtain ⟨k1,k2⟩:=h1 hr
    exact ⟨fun _=>⟨by rw [k1],k2⟩,fun h=>by omega⟩
   ·have e:indexByte (c::r) 32=indexByte r 32+1:=by
     have:(indexByte r 32 == -1)=false:=by simpa using hr
     simp [indexByte,hcb,this]
    rw [e]
    obtain ⟨k1,k2,k3⟩:=h2 (by omega)
    have et:(indexByte r 32+1).toNat=(indexByte r 32).toNat+1:=by omega
    rw [et]
    exact ⟨fun h=>by omega,fun _=>⟨by simp;omega,by rw [List.take_succ_cons,k2],by rw [List.drop_succ_cons];exact k3⟩⟩
theorem txt_read {W A B:Nat} (h:Vd W A B) {c:UInt8} {r:List UInt8} (he:c::r=txt W A B):indexByte sgs c+1=(W:Int)∧atoiAll (cutA r)=.ok (A:Int)∧atoiAll (cutB r)=.ok (B:Int):=by
 unfold txt at he
 injection he with h1 h2
 subst h1;subst h2
 obtain ⟨a1,a2,_⟩:=dec_all A h.a
 obtain ⟨_,b2,_⟩:=dec_all B h.b
 obtain ⟨e1,e2⟩:=cut_txt (b:=decDigits B) a1
 exact ⟨idx_sg h.w1 h.w3,by rw [e1];exact a2,by rw [e2];exact b2⟩
end NT
end Go.Proofs.YtkoajpeabicpdaaGreatDoor
namespace Go.Proofs.YtkoajpeabicpdaaGreatDoor
open Go
namespace NT
open Lib
def numGo:Int→List UInt8→Int
 | n,[]=>n
 | n,c::r=>if c < 48∨57 < c then -1 else numGo (n * 10+(c.toNat:Int) - 48) r
def numBad (l:List UInt8):Bool:=decide (l.length < 1) || (decide (9 < l.length) || (decide (1 < l.length) && decide (l.head?=some 48)))
def numF (l:List UInt8):Int:=if numBad l then -1 else numGo 0 l
def spl:List UInt8→List UInt8→List (List UInt8)
 | cur,[]=>[cur]
 | cur,c::r=>if c=32 then cur::spl [] r else spl (cur++[c]) r
theorem spl_ne:∀ (l cur:List UInt8),spl cur l≠[]
 | [],cur=>by simp [spl]
 | c::r,cur=>by
  unfold spl
  split
  ·simp
  ·exact spl_ne r _
theorem spl_one:∀ {l cur a:List UInt8},spl cur l=[a]→a=cur++l
 | [],cur,a,h=>by simp [spl] at h;simp [h]
 | c::r,cur,a,h=>by
  unfold spl at h
  split at h
  ·simp only [List.cons.injEq] at h
   exact absurd h.2 (spl_ne _ _)
  ·have:=spl_one h
   rw [this];simp
theorem spl_two:∀ {l cur a b:List UInt8},spl cur l=[a,b]→cur++l=a++32::b
 | [],cur,a,b,h=>by simp [spl] at h
 | c::r,cur,a,b,h=>by
  unfold spl at h
  split at h
  ·rename_i hc
   simp only [List.cons.injEq] at h
   obtain ⟨rfl,h⟩:=h
   have:=spl_one h
   rw [this,hc];simp
  ·have:=spl_two h
   rw [←this];simp
theorem spl_no:∀ {a cur:List UInt8},a.all (fun c=>c != 32)=true→spl cur a=[cur++a]
 | [],cur,_=>by simp [spl]
 | c::r,cur,h=>by
  simp only [List.all_cons,Bool.and_eq_true,bne_iff_ne] at h
  unfold spl
  rw [if_neg h.1,spl_no h.2];simp
theorem spl_at:∀ {a cur b:List UInt8},a.all (fun c=>c != 32)=true→spl cur (a++32::b)=(cur++a)::spl [] b
 | [],cur,b,_=>by simp [spl]
 | c::r,cur,b,h=>by
  simp only [List.all_cons,Bool.and_eq_true,bne_iff_ne] at h
  show (if c=32 then cur::spl [] (r++32::b) else spl (cur++[c]) (r++32::b))=_
  rw [if_neg h.1,spl_at h.2];simp
theorem numGo_ge:∀ {l:List UInt8} {n:Int},0≤n→numGo n l≠-1→n≤numGo n l
 | [],n,h0,_=>by simp [numGo]
 | c::r,n,h0,h=>by
  unfold numGo at h ⊢
  split at h
  ·exact absurd rfl h
  ·rename_i hc
   rw [if_neg hc]
   have hc1:48≤c.toNat:=by
    have:¬ c < 48:=fun h=>hc (.inl h)
    rw [UInt8.lt_iff_toNat_lt] at this
    simpa using this
   have:=numGo_ge (l:=r) (n:=n * 10+(c.toNat:Int) - 48) (by omega) h
   omega
theorem digit_of {c:UInt8} (h:¬ (c < 48∨57 < c)):∃ d,d < 10∧c=UInt8.ofNat (48+d)∧c.toNat=48+d:=by
 have h1:¬ c < 48:=fun x=>h (.inl x)
 have h2:¬ 57 < c:=fun x=>h (.inr x)
 rw [UInt8.lt_iff_toNat_lt] at h1 h2
 have e1:(48:UInt8).toNat=48:=rfl
 have e2:(57:UInt8).toNat=57:=rfl
 rw [e1] at h1;rw [e2] at h2
 refine ⟨c.toNat - 48,by omega,?_,by omega⟩
 rw [show 48+(c.toNat - 48)=c.toNat by omega]
 simp
theorem num_dec {l:List UInt8} {A:Nat} (h:numF l=(A:Int)) (hA:A < 60):l=decDigits A:=by
 unfold numF at h
 split at h
 ·omega
 rename_i hb
 simp only [numBad,Bool.or_eq_true,Bool.and_eq_true,decide_eq_true_eq,not_or,not_and] at hb
 rw [dec_is hA]
 match l,h,hb with
 | [],h,hb=>simp at hb
 | [c],h,hb=>
  unfold numGo at h
  split at h
  ·omega
  ·rename_i hc
   obtain ⟨d,hd,rfl,e⟩:=digit_of hc
   rw [e] at h
   simp only [numGo] at h
   have:A=d:=by omega
   rw [this,if_pos hd]
 | [c,c'],h,hb=>
  unfold numGo at h
  split at h
  ·omega
  ·rename_i hc
   obtain ⟨d,hd,rfl,e⟩:=digit_of hc
   rw [e] at h
   unfold numGo at h
   split at h
   ·omega
   ·rename_i hc'
    obtain ⟨d',hd',rfl,e'⟩:=digit_of hc'
    rw [e'] at h
    simp only [numGo] at h
    have hd0:d≠0:=fun h0=>hb.2.2 (by simp) (by subst h0;rfl)
    have:A=10 * d+d':=by omega
    rw [if_neg (by omega),show A / 10=d by omega,show A % 10=d' by omega]
 | c::c'::c''::r,h,hb=>
  exfalso
  unfold numGo at h
  split at h
  ·omega
  ·rename_i hc
   obtain ⟨d,hd,rfl,e⟩:=digit_of hc
   rw [e] at h
   have hd0:d≠0:=fun h0=>hb.2.2 (by simp) (by subst h0;rfl)
   unfold numGo at h
   split at h
   ·omega
   ·rename_i hc'
    obtain ⟨d',hd',rfl,e'⟩:=digit_of hc'
    rw [e'] at h
    unfold numGo at h
    split at h
    ·omega
    ·rename_i hc''
     obtain ⟨d'',hd'',rfl,e''⟩:=digit_of hc''
     rw [e''] at h
     have:=numGo_ge (l:=r) (n:=((0 * 10+((48+d:Nat):Int) - 48) * 10+((48+d':Nat):Int) - 48) * 10+((48+d'':Nat):Int) - 48) (by omega) (by rw [h];omega)
     omega
theorem num_of:∀ A,A < 60→numF (decDigits A)=(A:Int):=by
 intro A hA
 rw [dec_is hA]
 revert A
 decide
def evF (l:List UInt8):Option (Int × Int × Int):=match l with
 | []=>none
 | c::r=>match spl [] r with
  | [a,b]=>some (indexByte sgs c+1,numF a,numF b)
  | _=>none
def evOk (x:Int × Int × Int):Prop:=1≤x.1∧x.1≤3∧0≤x.2.1∧x.2.1 < 60∧0≤x.2.2∧x.2.2 < 60
theorem evF_txt {l:List UInt8} {W A B:Nat} (h:Vd W A B) (he:l=txt W A B):evF l=some ((W:Int),(A:Int),(B:Int)):=by
 subst he
 have ha:=(dec_all A h.a).1
 have hb:=(dec_all B h.b).1
 simp only [txt,evF]
 rw [spl_at ha,spl_no hb]
 simp only [List.nil_append]
 rw [idx_sg h.w1 h.w3,num_of A h.a,num_of B h.b]
theorem txt_evF {l:List UInt8} {x:Int × Int × Int} (h:evF l=some x) (hx:evOk x):∃ W A B:Nat,x=((W:Int),(A:Int),(B:Int))∧Vd W A B∧l=txt W A B:=by
 obtain ⟨x1,x2,x3⟩:=x
 obtain ⟨h1,h2,h3,h4,h5,h6⟩:=hx
 simp only at h1 h2 h3 h4 h5 h6
 obtain ⟨W,rfl⟩:∃ W:Nat,x1=W:=⟨x1.toNat,by omega⟩
 obtain ⟨A,rfl⟩:∃ A:Nat,x2=A:=⟨x2.toNat,by omega⟩
 obtain ⟨B,rfl⟩:∃ B:Nat,x3=B:=⟨x3.toNat,by omega⟩
 refine ⟨W,A,B,rfl,⟨by omega,by omega,by omega,by omega⟩,?_⟩
 cases l with
 | nil=>simp [evF] at h
 | cons c r=>
  simp only [evF] at h
  split at h
  ·rename_i a b hs
   simp only [Option.some.injEq,Prod.mk.injEq] at h
   obtain ⟨g1,g2,g3⟩:=h
   have e:=spl_two hs
   simp only [List.nil_append] at e
   rw [e,num_dec g2 (by omega),num_dec g3 (by omega),idx_is g1 (by omega)]
   rfl
  ·simp at h
end NT
end Go.Proofs.YtkoajpeabicpdaaGreatDoor
namespace UF
def cnt:Nat→(Nat→Bool)→Nat
 | 0,_=>0
 | n+1,p=>cnt n p+(if p n then 1 else 0)
theorem cnt_congr {n:Nat} {p q:Nat→Bool} (h:∀ x,x < n→p x=q x):cnt n p=cnt n q:=by
 induction n with
 | zero=>rfl
 | succ n ih=>simp only [cnt];rw [ih (fun x hx=>h x (by omega)),h n (by omega)]
theorem cnt_le (n:Nat) (p:Nat→Bool):cnt n p≤n:=by
 induction n with
 | zero=>simp [cnt]
 | succ n ih=>simp only [cnt];split <;> omega
theorem cnt_true (n:Nat):cnt n (fun _=>true)=n:=by
 induction n with
 | zero=>rfl
 | succ n ih=>simp [cnt,ih]
theorem cnt_pos {n:Nat} {p:Nat→Bool} {k:Nat} (hk:k < n) (h:p k=true):0 < cnt n p:=by
 induction n with
 | zero=>omega
 | succ n ih=>
  simp only [cnt]
  by_cases e:k=n
  ·subst e;simp [h]
  ·have:=ih (by omega);omega
theorem cnt_drop {n:Nat} {p q:Nat→Bool} {k:Nat} (hk:k < n) (hp:p k=true) (hq:q k=false) (h:∀ x,x < n→x≠k→q x=p x):cnt n q+1=cnt n p:=by
 induction n with
 | zero=>omega
 | succ n ih=>
  simp only [cnt]
  by_cases e:k=n
  ·subst e
   rw [cnt_congr (q:=p) (fun x hx=>h x (by omega) (by omega)),hp,hq];simp
  ·have:=ih (by omega) (fun x hx hne=>h x (by omega) hne)
   rw [h n (by omega) (fun e'=>e e'.symm)];omega
abbrev Hs:=List (Nat × Nat)
def up:Hs→Nat→Nat
 | [],x=>x
 | (a,b)::hs,x=>if x=b then a else up hs x
def sz:Hs→Nat→Nat
 | [],_=>1
 | (a,b)::hs,x=>if x=a then sz hs a+sz hs b else sz hs x
def rt:Hs→Nat→Nat
 | [],x=>x
 | (a,b)::hs,x=>if rt hs x=b then a else rt hs x
def dist:Hs→Nat→Nat
 | [],_=>0
 | (_,b)::hs,x=>if rt hs x=b then dist hs x+1 else dist hs x
def Ok (n:Nat):Hs→Prop
 | []=>True
 | (a,b)::hs=>Ok n hs∧a < n∧b < n∧rt hs a=a∧rt hs b=b∧a≠b
theorem dist_le:∀ (hs:Hs) (x:Nat),dist hs x≤hs.length
 | [],_=>Nat.le_refl _
 | (a,b)::hs,x=>by
  have:=dist_le hs x
  simp only [dist,List.length_cons];split <;> omega
theorem roots {n:Nat}:∀ {hs:Hs},Ok n hs→cnt n (fun x=>rt hs x == x)+hs.length=n
 | [],_=>by simp [rt,cnt_true]
 | (a,b)::hs,h=>by
  obtain ⟨ho,la,lb,ha,hb,hne⟩:=h
  have:=roots ho
  have h2:=cnt_drop (n:=n) (k:=b) (p:=fun x=>rt hs x == x) (q:=fun x=>rt ((a,b)::hs) x == x) lb (by simp [hb]) (by simp [rt,hb,hne])
   (by
    intro x _ hx
    simp only [rt]
    by_cases e:rt hs x=b
    ·have:a≠x:=by rintro rfl;rw [ha] at e;exact hne e
     simp only [e,if_true];rw [beq_false_of_ne this,beq_false_of_ne (fun h=>hx h.symm)]
    ·simp [e])
  simp only [List.length_cons];omega
def join (hs:Hs) (x y:Nat):Hs:=
 if rt hs x=rt hs y then hs else if sz hs (rt hs x) < sz hs (rt hs y) then (rt hs y,rt hs x)::hs else (rt hs x,rt hs y)::hs
def lead (f:Nat→Nat) (x:Nat):Bool:=(List.range x).all fun y=>f y != f x
theorem lead_iff {f:Nat→Nat} {x:Nat}:lead f x=true↔∀ y,y < x→f y≠f x:=by simp [lead]
def least (f:Nat→Nat):Nat→Nat→Nat
 | 0,v=>v
 | n+1,v=>if least f n v < n then least f n v else if f n=v then n else n+1
theorem least_spec (f:Nat→Nat) (v:Nat):∀ n,(least f n v < n∧f (least f n v)=v∧∀ y,y < least f n v→f y≠v)∨(n≤least f n v∧∀ y,y < n→f y≠v)
 | 0=>.inr ⟨Nat.zero_le _,fun y hy=>by omega⟩
 | n+1=>by
  rcases least_spec f v n with ⟨h1,h2,h3⟩ | ⟨h1,h2⟩
  ·simp only [least,h1,if_true];exact .inl ⟨by omega,h2,h3⟩
  ·have:¬ least f n v < n:=by omega
   simp only [least,this,if_false]
   by_cases e:f n=v
   ·simp only [e,if_true];exact .inl ⟨by omega,trivial,h2⟩
   ·simp only [e,if_false]
    refine .inr ⟨by omega,fun y hy=>?_⟩
    by_cases e2:y=n
    ·subst e2;exact e
    ·exact h2 y (by omega)
theorem ex_least (f:Nat→Nat) (x:Nat):∃ m,m≤x∧f m=f x∧∀ y,y < m→f y≠f x:=by
 rcases least_spec f (f x) (x+1) with ⟨h1,h2,h3⟩ | ⟨_,h2⟩
 ·exact ⟨_,by omega,h2,h3⟩
 ·exact absurd rfl (h2 x (by omega))
theorem leads {n:Nat}:∀ {hs:Hs},Ok n hs→cnt n (lead (rt hs))+hs.length=n
 | [],_=>by
  have:cnt n (lead (rt []))=n:=by
   rw [cnt_congr (q:=fun _=>true),cnt_true]
   intro x _;rw [lead_iff];intro y hy;simp only [rt];omega
  simp [this]
 | (a,b)::hs,h=>by
  obtain ⟨ho,la,lb,ha,hb,hne⟩:=h
  have ih:=leads ho
  obtain ⟨ma,ma1,ma2,ma3⟩:=ex_least (rt hs) a
  obtain ⟨mb,mb1,mb2,mb3⟩:=ex_least (rt hs) b
  rw [ha] at ma2;rw [hb] at mb2
  rw [ha] at ma3;rw [hb] at mb3
  have hm:ma≠mb:=by intro e;rw [e] at ma2;omega
  have h2:=cnt_drop (n:=n) (k:=max ma mb) (p:=lead (rt hs)) (q:=lead (rt ((a,b)::hs))) (by omega)
   (by
    rw [lead_iff];intro y hy hr
    by_cases hc:ma < mb
    ·rw [Nat.max_eq_right (by omega)] at hy hr;rw [mb2] at hr;exact mb3 y hy hr
    ·rw [Nat.max_eq_left (by omega)] at hy hr;rw [ma2] at hr;exact ma3 y hy hr)
   (by
    rw [Bool.eq_false_iff];intro hl;rw [lead_iff] at hl
    by_cases hc:ma < mb
    ·rw [Nat.max_eq_right (by omega)] at hl
     apply hl ma hc;simp [rt,ma2,mb2]
    ·rw [Nat.max_eq_left (by omega)] at hl
     apply hl mb (by omega);simp [rt,ma2,mb2,hne])
   (by
    intro x _ hx
    rw [Bool.eq_iff_iff,lead_iff,lead_iff]
    constructor
    ·intro h y hy e
     apply h y hy;simp only [rt];rw [e]
    ·intro h y hy e
     simp only [rt] at e
     by_cases e1:rt hs y=b <;> by_cases e2:rt hs x=b
     ·exact h y hy (by omega)
     ·rw [if_pos e1,if_neg e2] at e
      have hxa:x=ma:=by
       rcases Nat.lt_trichotomy x ma with h3 | h3 | h3
       ·exact absurd e.symm (ma3 x h3)
       ·exact h3
       ·exact absurd (ma2.trans e) (h ma h3)
      have:mb≤y:=by
       rcases Nat.lt_or_ge y mb with h3 | h3
       ·exact absurd e1 (mb3 y h3)
       ·exact h3
      omega
     ·rw [if_neg e1,if_pos e2] at e
      have hxb:x=mb:=by
       rcases Nat.lt_trichotomy x mb with h3 | h3 | h3
       ·exact absurd e2 (mb3 x h3)
       ·exact h3
       ·exact absurd (mb2.trans e2.symm) (h mb h3)
      have:ma≤y:=by
       rcases Nat.lt_or_ge y ma with h3 | h3
       ·exact absurd e (ma3 y h3)
       ·exact h3
      omega
     ·rw [if_neg e1,if_neg e2] at e;exact h y hy e)
  simp only [List.length_cons];omega
inductive Con (es:List (Nat × Nat)):Nat→Nat→Prop
 | refl (x:Nat):Con es x x
 | edge {x y:Nat} (h:(x,y)∈es):Con es x y
 | symm {x y:Nat} (h:Con es x y):Con es y x
 | trans {x y z:Nat} (h:Con es x y) (k:Con es y z):Con es x z
theorem Con.mono {es fs:List (Nat × Nat)} (h:∀ x y,(x,y)∈es→Con fs x y) {p q:Nat} (c:Con es p q):Con fs p q:=by
 induction c with
 | refl x=>exact .refl x
 | edge hm=>exact h _ _ hm
 | symm _ ih=>exact .symm ih
 | trans _ _ i1 i2=>exact .trans i1 i2
theorem Con.ind {es:List (Nat × Nat)} {f:Nat→Nat} (h:∀ x y,(x,y)∈es→f x=f y) {p q:Nat} (c:Con es p q):f p=f q:=by
 induction c with
 | refl x=>rfl
 | edge hm=>exact h _ _ hm
 | symm _ ih=>exact ih.symm
 | trans _ _ i1 i2=>exact i1.trans i2
theorem Con.snoc {es:List (Nat × Nat)} {x y p q:Nat}:
  Con (es++[(x,y)]) p q↔Con es p q∨(Con es p x∧Con es q y)∨(Con es p y∧Con es q x):=by
 constructor
 ·intro c
  induction c with
  | refl x=>exact .inl (.refl x)
  | edge hm=>
   rw [List.mem_append] at hm
   rcases hm with hm | hm
   ·exact .inl (.edge hm)
   ·simp at hm;obtain ⟨rfl,rfl⟩:=hm;exact .inr (.inl ⟨.refl _,.refl _⟩)
  | symm _ ih=>
   rcases ih with h | ⟨h,k⟩ | ⟨h,k⟩
   ·exact .inl h.symm
   ·exact .inr (.inr ⟨k,h⟩)
   ·exact .inr (.inl ⟨k,h⟩)
  | trans _ _ i1 i2=>
   rcases i1 with h | ⟨h,k⟩ | ⟨h,k⟩ <;> rcases i2 with h' | ⟨h',k'⟩ | ⟨h',k'⟩
   ·exact .inl (h.trans h')
   ·exact .inr (.inl ⟨h.trans h',k'⟩)
   ·exact .inr (.inr ⟨h.trans h',k'⟩)
   ·exact .inr (.inl ⟨h,h'.symm.trans k⟩)
   ·exact .inr (.inl ⟨h,k'⟩)
   ·exact .inl (h.trans (k'.symm))
   ·exact .inr (.inr ⟨h,h'.symm.trans k⟩)
   ·exact .inl (h.trans (k'.symm))
   ·exact .inr (.inr ⟨h,k'⟩)
 ·have hm:∀ {a b},Con es a b→Con (es++[(x,y)]) a b:=fun c=>c.mono fun a b h=>.edge (List.mem_append_left _ h)
  have hxy:Con (es++[(x,y)]) x y:=.edge (by simp)
  rintro (h | ⟨h,k⟩ | ⟨h,k⟩)
  ·exact hm h
  ·exact ((hm h).trans hxy).trans (hm k).symm
  ·exact ((hm h).trans hxy.symm).trans (hm k).symm
end UF
namespace Go.Proofs.YtkoajpeabicpdaaGreatDoor
namespace AK
structure Ev where
 w:Int
 a:Int
 b:Int
instance:Inhabited Ev:=⟨⟨0,0,0⟩⟩
abbrev Ed:=Int × Int
def ek (a b:Int):Ed:=(min a b,max a b)
def Ev.ed (e:Ev):Ed:=ek e.a e.b
def flip (t:Ed→Bool) (x:Ed):Ed→Bool:=fun y=>if y=x then !t x else t y
def bad (n:Int) (t:Ed→Bool) (e:Ev):Option Int:=
 if e.w < 1∨3 < e.w∨e.a < 0∨n≤e.a∨e.b < 0∨n≤e.b then some 1
 else if e.w=3 then none
 else if e.a=e.b then some 2
 else if e.w=1∧t e.ed=true then some 6
 else if e.w=2∧t e.ed=false then some 4
 else none
def nxt (t:Ed→Bool) (e:Ev):Ed→Bool:=if e.w=3 then t else flip t e.ed
def there (l:List Ev):Ed→Bool:=l.foldl nxt (fun _=>false)
section
variable {n:Int} {t:Ed→Bool} {w a b:Int}
end
def chkFrom (n:Int):(Ed→Bool)→Nat→List Ev→Int × Option Int
 | _,_,[]=>(0,none)
 | t,i,e::r=>match bad n t e with
  | some x=>((i:Int),some x)
  | none=>chkFrom n (nxt t e) (i+1) r
def chk (n:Int) (l:List Ev):Int × Option Int:=
 if n < 1∨60 < n then (0,some 1) else if 120 < l.length then (0,some 3) else chkFrom n (fun _=>false) 0 l
def At (n:Int) (l:List Ev) (k:Nat):Prop:=chk n l=chkFrom n (there (l.take k)) k (l.drop k)
def Good (n:Int) (l:List Ev):Prop:=1≤n∧n≤60∧l.length≤120∧∀ k e,l[k]?=some e→bad n (there (l.take k)) e=none
structure Lf where
 ed:Ed
 fr:Nat
 til:Nat
instance:Inhabited Lf:=⟨⟨(0,0),0,0⟩⟩
def upd (o:Ed→Nat) (x:Ed) (v:Nat):Ed→Nat:=fun y=>if y=x then v else o y
structure LS where
 o:Ed→Nat
 out:List Lf
def lstep (L i:Nat) (s:LS) (e:Ev):LS:=
 if e.w=1 then ⟨upd s.o e.ed s.out.length,s.out++[⟨e.ed,i,L⟩]⟩
 else if e.w=2 then ⟨s.o,s.out.modify (s.o e.ed) fun x=>{ x with til:=i }⟩
 else s
def livesTo (l:List Ev):Nat→LS
 | 0=>⟨fun _=>0,[]⟩
 | k+1=>lstep l.length k (livesTo l k) (l.getD k default)
def lives (l:List Ev):List Lf:=(livesTo l l.length).out
end AK
open Go
namespace RN
open Lib NT
theorem numGo_app:∀ (l m:List UInt8) (n:Int),0≤n→numGo n (l++m)=if numGo n l=-1 then -1 else numGo (numGo n l) m
 | [],m,n,hn=>by
  rw [List.nil_append,show numGo n []=n from rfl,if_neg (by omega)]
 | c::r,m,n,hn=>by
  show (if c < 48∨57 < c then -1 else numGo (n * 10+(c.toNat:Int) - 48) (r++m))=_
  rw [show numGo n (c::r)=if c < 48∨57 < c then -1 else numGo (n * 10+(c.toNat:Int) - 48) r from rfl]
  by_cases hc:c < 48∨57 < c
  ·rw [if_pos hc,if_pos hc,if_pos rfl]
  ·rw [if_neg hc,if_neg hc]
   obtain ⟨d,hd,_,e⟩:=digit_of hc
   exact numGo_app r m _ (by rw [e];omega)
theorem numGo_lt:∀ (l:List UInt8) (n:Int),0≤n→numGo n l < (n+1) * 10 ^ l.length
 | [],n,hn=>by rw [show numGo n []=n from rfl,List.length_nil];omega
 | c::r,n,hn=>by
  rw [show numGo n (c::r)=if c < 48∨57 < c then -1 else numGo (n * 10+(c.toNat:Int) - 48) r from rfl,List.length_cons]
  have hp:(0:Int) < 10 ^ r.length:=Int.pow_pos (by decide)
  by_cases hc:c < 48∨57 < c
  ·rw [if_pos hc]
   have:(0:Int)≤(n+1) * 10 ^ (r.length+1):=Int.mul_nonneg (by omega) (Int.le_of_lt (Int.pow_pos (by decide)))
   omega
  ·rw [if_neg hc]
   obtain ⟨d,hd,_,e⟩:=digit_of hc
   have h1:=numGo_lt r (n * 10+(c.toNat:Int) - 48) (by rw [e];omega)
   have h2:(n * 10+(c.toNat:Int) - 48+1) * 10 ^ r.length≤((n+1) * 10) * 10 ^ r.length:=Int.mul_le_mul_of_nonneg_right (by rw [e];omega) (Int.le_of_lt hp)
   rw [Int.pow_succ,Int.mul_comm (10 ^ r.length) 10,←Int.mul_assoc]
   omega
theorem one_digit (d:Nat) (hd:d < 10):¬ (UInt8.ofNat (48+d) < 48∨57 < UInt8.ofNat (48+d))∧(UInt8.ofNat (48+d)).toNat=48+d:=by
 have:d=0∨d=1∨d=2∨d=3∨d=4∨d=5∨d=6∨d=7∨d=8∨d=9:=by omega
 rcases this with rfl | rfl | rfl | rfl | rfl | rfl | rfl | rfl | rfl | rfl <;> exact ⟨by decide,rfl⟩
theorem dec_cut {u:Nat} (h:¬ u < 10):decDigits u=decDigits (u / 10)++[UInt8.ofNat (48+u % 10)]:=by rw [decDigits,dif_neg h]
theorem dec_ne (u:Nat):decDigits u≠[]:=by
 rw [decDigits]
 split <;> simp
theorem numGo_dec:∀ (k u:Nat),u≤k→numGo 0 (decDigits u)=(u:Int)
 | 0,u,h=>by
  obtain rfl:u=0:=by omega
  rw [decDigits_one (by omega)];rfl
 | k+1,u,h=>by
  by_cases h10:u < 10
  ·rw [decDigits_one h10]
   obtain ⟨h1,h2⟩:=one_digit u h10
   rw [show numGo 0 [UInt8.ofNat (48+u)]=if UInt8.ofNat (48+u) < 48∨57 < UInt8.ofNat (48+u) then -1 else (0 * 10+((UInt8.ofNat (48+u)).toNat:Int) - 48) from rfl,if_neg h1,h2]
   omega
  ·rw [dec_cut h10,numGo_app _ _ 0 (by omega),numGo_dec k (u / 10) (by omega),if_neg (by omega)]
   obtain ⟨h1,h2⟩:=one_digit (u % 10) (by omega)
   rw [show numGo ((u / 10:Nat):Int) [UInt8.ofNat (48+u % 10)]=if UInt8.ofNat (48+u % 10) < 48∨57 < UInt8.ofNat (48+u % 10) then -1 else (((u / 10:Nat):Int) * 10+((UInt8.ofNat (48+u % 10)).toNat:Int) - 48) from rfl,if_neg h1,h2]
   omega
theorem head_app {α:Type} {a b:List α} (h:a≠[]):(a++b).head?=a.head?:=by
 cases a with
 | nil=>exact absurd rfl h
 | cons x r=>rfl
theorem dec_head:∀ (k u:Nat),u≤k→1≤u→(decDigits u).head?≠some 48
 | 0,u,h,h1=>by omega
 | k+1,u,h,h1=>by
  by_cases h10:u < 10
  ·rw [decDigits_one h10]
   have:u=1∨u=2∨u=3∨u=4∨u=5∨u=6∨u=7∨u=8∨u=9:=by omega
   rcases this with rfl | rfl | rfl | rfl | rfl | rfl | rfl | rfl | rfl <;> decide
  ·rw [dec_cut h10,head_app (dec_ne _)]
   exact dec_head k (u / 10) (by omega) (by omega)
theorem dec_len1 {u:Nat} (h:1 < (decDigits u).length):10≤u:=by
 rcases Nat.lt_or_ge u 10 with h10 | h10
 ·rw [decDigits_one h10] at h;simp at h
 ·exact h10
theorem num_dec {A:Nat} (h:(decDigits A).length≤9):numF (decDigits A)=(A:Int):=by
 unfold numF
 rw [if_neg,numGo_dec A A (Nat.le_refl _)]
 have h0:1≤(decDigits A).length:=List.length_pos_iff.2 (dec_ne A)
 simp only [numBad,Bool.or_eq_true,Bool.and_eq_true,decide_eq_true_eq,not_or,not_and]
 exact ⟨by omega,by omega,fun hl=>dec_head A A (Nat.le_refl _) (by have:=dec_len1 hl;omega)⟩
theorem dec_back:∀ (k:Nat) (l:List UInt8) (A:Nat),l.length≤k→l≠[]→(1 < l.length→l.head?≠some 48)→numGo 0 l=(A:Int)→l=decDigits A
 | 0,l,A,hk,hne,_,_=>by
  cases l with
  | nil=>exact absurd rfl hne
  | cons x r=>simp at hk
 | k+1,l,A,hk,hne,hh,h=>by
  obtain ⟨r,c,rfl⟩:∃ r c,l=r++[c]:=⟨l.dropLast,l.getLast hne,(List.dropLast_concat_getLast hne).symm⟩
  rw [numGo_app _ _ 0 (by omega)] at h
  by_cases hm:numGo 0 r=-1
  ·rw [if_pos hm] at h;omega
  rw [if_neg hm] at h
  have hge:0≤numGo 0 r:=numGo_ge (by omega) hm
  obtain ⟨m,hmm⟩:∃ m:Nat,numGo 0 r=(m:Int):=⟨(numGo 0 r).toNat,by omega⟩
  rw [hmm] at h
  rw [show numGo (m:Int) [c]=if c < 48∨57 < c then -1 else ((m:Int) * 10+(c.toNat:Int) - 48) from rfl] at h
  by_cases hc:c < 48∨57 < c
  ·rw [if_pos hc] at h;omega
  rw [if_neg hc] at h
  obtain ⟨d,hd,rfl,e⟩:=digit_of hc
  rw [e] at h
  by_cases hr:r=[]
  ·subst hr
   have hm0:m=0:=by
    have:numGo 0 []=(0:Int):=rfl
    rw [this] at hmm;omega
   obtain rfl:A=d:=by omega
   rw [decDigits_one hd];rfl
  ·have hrl:1≤r.length:=List.length_pos_iff.2 hr
   rw [List.length_append] at hk hh
   simp only [List.length_cons,List.length_nil] at hk hh
   have hh':=hh (by omega)
   rw [head_app hr] at hh'
   have hrd:=dec_back k r m (by omega) hr (fun _=>hh') hmm
   have hm1:1≤m:=by
    rcases Nat.eq_zero_or_pos m with h0 | h0
    ·subst h0
     rw [hrd,decDigits_one (by omega)] at hh'
     exact absurd rfl hh'
    ·exact h0
   rw [dec_cut (u:=A) (by omega),show A / 10=m by omega,show A % 10=d by omega,←hrd]
theorem num_back {l:List UInt8} {A:Nat} (h:numF l=(A:Int)):l=decDigits A∧l.length≤9:=by
 unfold numF at h
 split at h
 ·omega
 rename_i hb
 simp only [numBad,Bool.or_eq_true,Bool.and_eq_true,decide_eq_true_eq,not_or,not_and] at hb
 exact ⟨dec_back l.length l A (Nat.le_refl _) (fun e=>by subst e;simp at hb) hb.2.2 h,by omega⟩
theorem num_cases (l:List UInt8):numF l=-1∨∃ A:Nat,numF l=(A:Int):=by
 unfold numF
 split
 ·exact .inl rfl
 ·by_cases h:numGo 0 l=-1
  ·exact .inl h
  ·exact .inr ⟨(numGo 0 l).toNat,by have:=numGo_ge (l:=l) (n:=0) (by omega) h;omega⟩
theorem num_small {l:List UInt8} {A:Nat} (h:numF l=(A:Int)):A < 1000000000:=by
 obtain ⟨h1,h2⟩:=num_back h
 have h3:=numGo_lt l 0 (by omega)
 rw [h1,numGo_dec A A (Nat.le_refl _),←h1] at h3
 have h4:(10:Int) ^ l.length≤10 ^ 9:=by
  have:=Nat.pow_le_pow_right (n:=10) (by omega) h2
  exact_mod_cast this
 omega
theorem parse_go:∀ (l:List UInt8) (acc v:Nat),numGo (acc:Int) l=(v:Int)→v < 1000000000000000000→parseUint10 acc l=.ok v
 | [],acc,v,h,_=>by
  have:numGo (acc:Int) []=(acc:Int):=rfl
  rw [this] at h
  obtain rfl:acc=v:=by omega
  rfl
 | c::r,acc,v,h,hv=>by
  rw [show numGo (acc:Int) (c::r)=if c < 48∨57 < c then -1 else numGo ((acc:Int) * 10+(c.toNat:Int) - 48) r from rfl] at h
  by_cases hc:c < 48∨57 < c
  ·rw [if_pos hc] at h;omega
  rw [if_neg hc] at h
  obtain ⟨d,hd,_,e⟩:=digit_of hc
  have hge:=numGo_ge (l:=r) (n:=(acc:Int) * 10+(c.toNat:Int) - 48) (by rw [e];omega) (by rw [h];omega)
  rw [h,e] at hge
  rw [parseUint10,if_pos (by omega),if_neg (by omega),if_neg (by omega)]
  exact parse_go r _ v (by rw [←h,e];congr 1;omega) hv
theorem atoi_dec {A:Nat} (h:(decDigits A).length≤9):atoiAll (decDigits A)=.ok (A:Int):=by
 have h1:=numGo_dec A A (Nat.le_refl _)
 have h2:=num_small (num_dec h)
 have h3:=parse_go (decDigits A) 0 A h1 (by omega)
 obtain ⟨c,r,hcr⟩:∃ c r,decDigits A=c::r:=by
  cases hd:decDigits A with
  | nil=>exact absurd hd (dec_ne A)
  | cons c r=>exact ⟨c,r,rfl⟩
 have hc:¬ (c < 48∨57 < c):=by
  intro hc
  rw [hcr,show numGo 0 (c::r)=if c < 48∨57 < c then -1 else numGo (0 * 10+(c.toNat:Int) - 48) r from rfl,if_pos hc] at h1
  omega
 obtain ⟨d,hd,_,e⟩:=digit_of hc
 rw [hcr,atoiAll_plain c r (by omega) (by omega),←hcr,parseMag,if_neg (dec_ne A),h3,signless,if_neg (by omega)]
def spc (c:UInt8):List UInt8→List UInt8→List (List UInt8)
 | cur,[]=>[cur]
 | cur,x::r=>if x=c then cur::spc c [] r else spc c (cur++[x]) r
theorem spc_32:∀ (l cur:List UInt8),spc 32 cur l=spl cur l
 | [],_=>rfl
 | x::r,cur=>by
  unfold spc spl
  split
  ·rw [spc_32 r]
  ·exact spc_32 r _
theorem spc_ne (c:UInt8):∀ (l cur:List UInt8),spc c cur l≠[]
 | [],cur=>by simp [spc]
 | x::r,cur=>by
  unfold spc
  split
  ·simp
  ·exact spc_ne c r _
theorem spc_len (c:UInt8):∀ (l cur:List UInt8),(spc c cur l).length≤l.length+1
 | [],cur=>by simp [spc]
 | x::r,cur=>by
  unfold spc
  split
  ·have:=spc_len c r [];simp only [List.length_cons];omega
  ·have:=spc_len c r (cur++[x]);simp only [List.length_cons];omega
theorem spc_no {c:UInt8}:∀ {a cur:List UInt8},c ∉ a→spc c cur a=[cur++a]
 | [],cur,_=>by simp [spc]
 | x::r,cur,h=>by
  unfold spc
  rw [if_neg (fun e=>h (by rw [e];simp)),spc_no (fun hr=>h (by simp [hr]))];simp
theorem spc_at {c:UInt8}:∀ {a cur b:List UInt8},c ∉ a→spc c cur (a++c::b)=(cur++a)::spc c [] b
 | [],cur,b,_=>by simp [spc]
 | x::r,cur,b,h=>by
  show (if x=c then cur::spc c [] (r++c::b) else spc c (cur++[x]) (r++c::b))=_
  rw [if_neg (fun e=>h (by rw [e];simp)),spc_at (fun hr=>h (by simp [hr]))];simp
theorem mem_at {c:UInt8}:∀ {l:List UInt8},c∈l→∃ a b,c ∉ a∧l=a++c::b
 | x::r,h=>by
  by_cases hx:x=c
  ·exact ⟨[],r,by simp,by rw [hx];rfl⟩
  ·obtain ⟨a,b,h1,h2⟩:=mem_at (l:=r) (by simpa [Ne.symm hx] using h)
   exact ⟨x::a,b,by simp [h1,Ne.symm hx],by rw [h2];rfl⟩
theorem idx_no {c:UInt8} {l:List UInt8} (h:c ∉ l):index l [c]=-1:=by
 rw [index_one]
 rcases Int.lt_or_le (indexByte l c) 0 with h0 | h0
 ·have:=indexByte_ge l c;omega
 ·obtain ⟨o,ho⟩:∃ o:Nat,indexByte l c=o:=⟨(indexByte l c).toNat,by omega⟩
  exact absurd (List.mem_of_getElem? (indexByte_some ho).1) h
theorem idx_at {c:UInt8} {a b:List UInt8} (h:c ∉ a):index (a++c::b) [c]=(a.length:Int):=by
 rw [index_one]
 rcases Int.lt_or_le (indexByte (a++c::b) c) 0 with h0 | h0
 ·have h1:=indexByte_ge (a++c::b) c
  exact absurd (by simp:(a++c::b)[a.length]?=some c) (indexByte_none (by omega) a.length)
 ·obtain ⟨o,ho⟩:∃ o:Nat,indexByte (a++c::b) c=o:=⟨(indexByte (a++c::b) c).toNat,by omega⟩
  obtain ⟨h1,h2⟩:=indexByte_some ho
  rw [ho]
  rcases Nat.lt_trichotomy o a.length with q | q | q
  ·rw [List.getElem?_append_left q] at h1
   exact absurd (List.mem_of_getElem? h1) h
  ·omega
  ·exact absurd (by simp:(a++c::b)[a.length]?=some c) (h2 a.length q)
theorem splitK_spc (c:UInt8):∀ (k:Nat) (l:List UInt8),count l [c]=k→splitK [c] 0 k l=spc c [] l
 | 0,l,h=>by
  rw [count_one] at h
  rw [spc_no (List.count_eq_zero.1 h)];rfl
 | k+1,l,h=>by
  rw [count_one] at h
  have hm:c∈l:=List.count_pos_iff.1 (by omega)
  obtain ⟨a,b,ha,rfl⟩:=mem_at hm
  rw [spc_at ha,splitK,idx_at ha,if_neg (by simp only [beq_iff_eq];omega)]
  have e1:((a.length:Int).toNat+0)=a.length:=by omega
  have e2:((a.length:Int).toNat+[c].length)=a.length+1:=by simp
  rw [e1,e2,List.take_left,show List.drop (a.length+1) (a++c::b)=b by simp [List.drop_append]]
  rw [splitK_spc c k b]
  ·rfl
  ·rw [count_one]
   rw [List.count_append,List.count_cons_self,List.count_eq_zero.2 ha] at h
   omega
def lnsGo:List UInt8→List UInt8→List (List UInt8)
 | cur,[]=>if cur=[] then [] else [cur]
 | cur,x::r=>if x=10 then cur::lnsGo [] r else lnsGo (cur++[x]) r
def lns (l:List UInt8):List (List UInt8):=lnsGo [] l
def cutA (c:UInt8) (l:List UInt8):List UInt8:=l.takeWhile (fun x=>x != c)
def cutB (c:UInt8) (l:List UInt8):List UInt8:=(l.dropWhile (fun x=>x != c)).drop 1
theorem lnsGo_cut:∀ (l cur:List UInt8),cur++l≠[]→lnsGo cur l=(cur++cutA 10 l)::lns (cutB 10 l)
 | [],cur,h=>by
  have:cur≠[]:=by simpa using h
  show (if cur=[] then [] else [cur])=_
  rw [if_neg this];simp [cutA,cutB,lns,lnsGo]
 | x::r,cur,h=>by
  show (if x=10 then cur::lnsGo [] r else lnsGo (cur++[x]) r)=_
  by_cases hx:x=10
  ·rw [if_pos hx];subst hx;simp [cutA,cutB,lns]
  ·rw [if_neg hx,lnsGo_cut r (cur++[x]) (by simp)]
   simp [cutA,cutB,hx]
theorem lns_cut {l:List UInt8} (h:l≠[]):lns l=cutA 10 l::lns (cutB 10 l):=by
 have:=lnsGo_cut l [] (by simpa using h)
 simpa [lns] using this
theorem cutB_lt {c:UInt8} {l:List UInt8} (h:l≠[]):(cutB c l).length < l.length:=by
 unfold cutB
 have h1:(l.dropWhile (fun x=>x != c)).length≤l.length:=(List.dropWhile_sublist _).length_le
 have h2:0 < l.length:=List.length_pos_iff.2 h
 rw [List.length_drop]
 omega
theorem cutA_le (c:UInt8) (l:List UInt8):(cutA c l).length≤l.length:=(List.takeWhile_sublist _).length_le
theorem lnsGo_app:∀ (a cur q:List UInt8),lnsGo cur (a++10::q)=lnsGo cur (a++[10])++lns q
 | [],cur,q=>by simp [lnsGo,lns]
 | x::r,cur,q=>by
  show (if x=10 then cur::lnsGo [] (r++10::q) else lnsGo (cur++[x]) (r++10::q))=(if x=10 then cur::lnsGo [] (r++[10]) else lnsGo (cur++[x]) (r++[10]))++lns q
  split
  ·rw [lnsGo_app r];rfl
  ·exact lnsGo_app r _ q
theorem lns_app (a q:List UInt8):lns (a++10::q)=lns (a++[10])++lns q:=lnsGo_app a [] q
def trimL (p:List (List UInt8)):List (List UInt8):=if p.getLast?=some [] then p.dropLast else p
theorem trimL_cons {x:List UInt8} {p:List (List UInt8)} (h:p≠[]):trimL (x::p)=x::trimL p:=by
 cases p with
 | nil=>exact absurd rfl h
 | cons y r=>
  unfold trimL
  rw [List.getLast?_cons_cons]
  split
  ·rw [List.dropLast_cons_cons]
  ·rfl
theorem lnsGo_spc:∀ (l cur:List UInt8),lnsGo cur l=trimL (spc 10 cur l)
 | [],cur=>by
  show (if cur=[] then [] else [cur])=trimL [cur]
  unfold trimL
  by_cases h:cur=[]
  ·rw [if_pos h,h];rfl
  ·rw [if_neg h,if_neg (by simpa using h)]
 | x::r,cur=>by
  show (if x=10 then cur::lnsGo [] r else lnsGo (cur++[x]) r)=trimL (if x=10 then cur::spc 10 [] r else spc 10 (cur++[x]) r)
  split
  ·rw [trimL_cons (spc_ne _ _ _),lnsGo_spc r]
  ·exact lnsGo_spc r _
theorem lns_spc (l:List UInt8):lns l=trimL (spc 10 [] l):=lnsGo_spc l []
def evT (l:List UInt8):Option AK.Ev:=
 match evF l with
 | some x=>if 1≤x.1∧x.1≤3∧0≤x.2.1∧x.2.1 < 60∧0≤x.2.2∧x.2.2 < 60 then some ⟨x.1,x.2.1,x.2.2⟩ else none
 | none=>none
theorem evT_txt {l:List UInt8} {W A B:Nat} (h:Vd W A B) (he:l=txt W A B):evT l=some ⟨(W:Int),(A:Int),(B:Int)⟩:=by
 unfold evT
 rw [evF_txt h he]
 have h1:=h.w1;have h2:=h.w3;have h3:=h.a;have h4:=h.b
 simp only
 rw [if_pos (by omega)]
theorem evT_none {l:List UInt8} (h:∀ W A B:Nat,¬ (Vd W A B∧l=txt W A B)):evT l=none:=by
 unfold evT
 split
 ·rename_i x hx
  split
  ·rename_i hk
   obtain ⟨W,A,B,_,h1,h2⟩:=txt_evF hx hk
   exact absurd ⟨h1,h2⟩ (h W A B)
  ·rfl
 ·rfl
def evsT:List (List UInt8)→Option (List AK.Ev)
 | []=>some []
 | x::r=>match evT x with
  | none=>none
  | some e=>(evsT r).map (e::·)
theorem evsT_none {p:List (List UInt8)} {i:Nat} {x:List UInt8} (hx:p[i]?=some x) (h:evT x=none):evsT p=none:=by
 induction p generalizing i with
 | nil=>simp at hx
 | cons y r ih=>
  unfold evsT
  cases i with
  | zero=>simp at hx;subst hx;rw [h]
  | succ i=>
   cases hy:evT y with
   | none=>rfl
   | some e=>simp only;rw [ih (by simpa using hx)];rfl
theorem evsT_snoc:∀ {p:List (List UInt8)} {x:List UInt8} {es:List AK.Ev} {e:AK.Ev},evsT p=some es→evT x=some e→evsT (p++[x])=some (es++[e])
 | [],x,es,e,h,hx=>by
  have:es=[]:=by simpa [evsT] using h.symm
  subst this
  simp [evsT,hx]
 | y::r,x,es,e,h,hx=>by
  unfold evsT at h
  cases hy:evT y with
  | none=>rw [hy] at h;simp at h
  | some e0=>
   rw [hy] at h
   simp only [Option.map_eq_some_iff] at h
   obtain ⟨es',h1,rfl⟩:=h
   show evsT (y::(r++[x]))=_
   unfold evsT
   rw [hy]
   simp only
   rw [evsT_snoc h1 hx];rfl
inductive Cmd where
 | bad
 | doo (l:List AK.Ev)
 | parts
 | size (a:Nat)
 | way (a b:Nat)
 | bridges
 | joints
 | save
 | turn
 | crash
def wParts:List UInt8:=[112,97,114,116,115]
def wSize:List UInt8:=[115,105,122,101]
def wWay:List UInt8:=[119,97,121]
def wBridges:List UInt8:=[98,114,105,100,103,101,115]
def wJoints:List UInt8:=[106,111,105,110,116,115]
def wSave:List UInt8:=[115,97,118,101]
def wTurn:List UInt8:=[116,117,114,110]
def wCrash:List UInt8:=[99,114,97,115,104]
def cmdW:List (List UInt8)→Cmd
 | [x]=>if x=wParts then .parts else if x=wBridges then .bridges else if x=wJoints then .joints else if x=wSave then .save else if x=wTurn then .turn else if x=wCrash then .crash else .bad
 | [x,a]=>if x=wSize∧0≤numF a then .size (numF a).toNat else .bad
 | [x,a,b]=>if x=wWay∧0≤numF a∧0≤numF b then .way (numF a).toNat (numF b).toNat else .bad
 | _=>.bad
def cmdDo (l:List UInt8):Cmd:=match evsT (spc 44 [] l) with
 | some es=>.doo es
 | none=>.bad
def cmdF (l:List UInt8):Cmd:=if l.take 3=[100,111,32] then cmdDo (l.drop 3) else cmdW (spc 32 [] l)
end RN
end Go.Proofs.YtkoajpeabicpdaaGreatDoor
namespace Go.Proofs.YtkoajpeabicpdaaGreatDoor
open Go
namespace RN
open Lib NT
def joinW (ws:List (List UInt8)):List UInt8:=Lib.join ws [32]
def wordsT (none:List UInt8) (ws:List (List UInt8)):List UInt8:=if ws=[] then none else joinW ws
theorem joinW_one (x:List UInt8):joinW [x]=x:=by simp [joinW,Lib.join,List.intercalate]
theorem joinW_snoc:∀ {ws:List (List UInt8)} {x:List UInt8},ws≠[]→joinW (ws++[x])=joinW ws++32::x
 | [y],x,_=>by simp [joinW,Lib.join,List.intercalate,List.intersperse]
 | y::z::r,x,_=>by
  have ih:=joinW_snoc (ws:=z::r) (x:=x) (by simp)
  simp only [joinW,Lib.join,List.intercalate] at ih ⊢
  rw [List.cons_append,List.cons_append,List.intersperse_cons_cons,List.intersperse_cons_cons]
  simp only [List.flatten_cons]
  rw [←List.cons_append,ih]
  simp
theorem joinW_len (k:Nat):∀ (ws:List (List UInt8)),(∀ x∈ws,x.length≤k)→(joinW ws).length≤ws.length * (k+1)
 | [],_=>by simp [joinW,Lib.join,List.intercalate]
 | [x],h=>by
  have:=h x (by simp)
  rw [joinW_one];simp;omega
 | x::y::r,h=>by
  have h1:=h x (by simp)
  have h2:=joinW_len k (y::r) (fun z hz=>h z (by simp [hz]))
  simp only [joinW,Lib.join,List.intercalate] at h2 ⊢
  rw [List.intersperse_cons_cons]
  simp only [List.flatten_cons,List.length_append,List.length_cons,List.length_nil] at h2 ⊢
  have:(r.length+1+1) * (k+1)=(r.length+1) * (k+1)+(k+1):=Nat.succ_mul _ _
  omega
def boolW (b:Bool):List UInt8:=if b then [121,101,115] else [110,111]
def edW (x:AK.Ed):List UInt8:=decDigits x.1.toNat++45::decDigits x.2.toNat
def tBad:List UInt8:=[98,97,100]
def tOk:List UInt8:=[111,107]
def tDash:List UInt8:=[45]
def nameOf:Nat→List UInt8
 | 0=>[79,75]
 | 1=>[69,114,114,82,97,110,103,101]
 | 2=>[69,114,114,83,104,97,112,101]
 | 3=>[69,114,114,70,117,108,108]
 | 4=>[69,114,114,78,111,110,101]
 | 5=>[69,114,114,83,121,110,116,97,120]
 | 6=>[69,114,114,67,108,97,115,104]
 | 7=>[69,114,114,83,116,97,116,101]
 | 8=>[69,114,114,68,111,119,110]
 | _=>[69,114,114,110,111]
theorem dec_len_le:∀ (k u:Nat),u≤k→(decDigits u).length≤u+1
 | 0,u,h=>by
  obtain rfl:u=0:=by omega
  rw [decDigits_one (by omega)];simp
 | k+1,u,h=>by
  by_cases h10:u < 10
  ·rw [decDigits_one h10];simp
  ·rw [dec_cut h10,List.length_append]
   have:=dec_len_le k (u / 10) (by omega)
   simp only [List.length_cons,List.length_nil];omega
theorem name_len (k:Nat):(nameOf k).length≤9:=by
 unfold nameOf
 split <;> decide
theorem words_len {none:List UInt8} {ws:List (List UInt8)} {k m:Nat} (h:∀ x∈ws,x.length≤k) (hm:ws.length≤m) (hn:none.length≤m * (k+1)):(wordsT none ws).length≤m * (k+1):=by
 unfold wordsT
 split
 ·exact hn
 ·exact Nat.le_trans (joinW_len k ws h) (Nat.mul_le_mul hm (Nat.le_refl _))
end RN
end Go.Proofs.YtkoajpeabicpdaaGreatDoor
