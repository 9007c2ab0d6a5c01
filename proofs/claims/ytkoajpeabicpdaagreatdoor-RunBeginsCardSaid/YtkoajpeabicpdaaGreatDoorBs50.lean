/-
The law's own example, and the first lines' answers as the beginning of all, in plain words. No condition.
-/
import Derived.Test.YtkoajpeabicpdaaGreatDoorBs43
set_option linter.unusedVariables false
namespace Go.Proofs.YtkoajpeabicpdaaGreatDoor
open Go Go.RowKit SQ TR DF PD PT
namespace RN
open Lib NT
def exT:List UInt8:=[100,111,32,43,48,32,49,44,63,49,32,48,10,112,97,114,116,115,10,102,108,121]
def exO:List UInt8:=[121,101,115,10,49,57,10,98,97,100,10]
theorem ex_lns:lns exT=[[100,111,32,43,48,32,49,44,63,49,32,48],[112,97,114,116,115],[102,108,121]]:=by decide
theorem ex_cn {a b:Nat} (h:Cn (adj [((0:Int),(1:Int))]) a b):a=b∨(a≤1∧b≤1):=by
 have key:=h.keeps (S:=fun u=>u=a∨(a≤1∧u≤1)) fun u v e=>by
  simp only [adj,List.mem_singleton,Prod.mk.injEq] at e
  omega
 rcases key.1 (.inl rfl) with q | q
 ·exact .inl q.symm
 ·exact .inr q
theorem ex_parts:PD.cnt (ldr [((0:Int),(1:Int))]) 20=19:=by
 have h1:ldr [((0:Int),(1:Int))] 1=false:=by
  cases hb:ldr [((0:Int),(1:Int))] 1 with
  | false=>rfl
  | true=>exact absurd (Cn.edge (by simp [adj])) (ldr_iff.1 hb 0 (by omega))
 have h2:∀ a,a≠1→ldr [((0:Int),(1:Int))] a=true:=fun a ha=>ldr_iff.2 fun u hu c=>by
  rcases ex_cn c with q | q
  ·omega
  ·omega
 simp only [PD.cnt,h1,h2 0 (by omega),h2 2 (by omega),h2 3 (by omega),h2 4 (by omega),h2 5 (by omega),h2 6 (by omega),h2 7 (by omega),h2 8 (by omega),h2 9 (by omega),h2 10 (by omega),h2 11 (by omega),h2 12 (by omega),h2 13 (by omega),h2 14 (by omega),h2 15 (by omega),h2 16 (by omega),h2 17 (by omega),h2 18 (by omega),h2 19 (by omega)]
 rfl
theorem ex_run:RunR (lns exT) [] [] 1 exO [((0:Int),(1:Int))] [] 1:=by
 have hy:DS.ansB [((0:Int),(1:Int))] 1 0=true:=by
  unfold DS.ansB
  classical
  exact decide_eq_true (Cn.edge (by simp [adj]))
 have r1:DS.run 20 [⟨1,0,1⟩,⟨3,1,0⟩] [] 1=([((0:Int),(1:Int))],[]):=by
  simp [DS.run,DS.nxt,DS.out1,AK.ek,putE]
  decide
 have r2:DS.run 20 [⟨1,0,1⟩,⟨3,1,0⟩] [] 2=([((0:Int),(1:Int))],[true]):=by
  rw [show DS.run 20 [⟨1,0,1⟩,⟨3,1,0⟩] [] 2=(DS.nxt (DS.run 20 [⟨1,0,1⟩,⟨3,1,0⟩] [] 1).1 3 1 0,(DS.run 20 [⟨1,0,1⟩,⟨3,1,0⟩] [] 1).2++DS.out1 (DS.run 20 [⟨1,0,1⟩,⟨3,1,0⟩] [] 1).1 ⟨3,1,0⟩) from rfl,r1]
  simp [DS.nxt,DS.out1,hy]
 have hok:DS.Okay 20 [⟨1,0,1⟩,⟨3,1,0⟩] [] 2:=by
  intro j e hj he
  match j,hj,he with
  | 0,_,he=>simp at he;subst he;simp [DS.run,DS.flt];decide
  | 1,_,he=>simp at he;subst he;rw [r1];simp [DS.flt]
 rw [ex_lns]
 refine ⟨_,_,_,_,_,⟨rfl,rfl,.inr ⟨[true],⟨by decide,hok,r2⟩,rfl⟩⟩,⟨_,_,_,_,_,⟨rfl,rfl,rfl,rfl⟩,⟨_,_,_,_,_,⟨rfl,rfl,rfl,rfl⟩,⟨rfl,rfl,rfl,rfl⟩,rfl⟩,rfl⟩,?_⟩
 have h19:decDigits 19=[49,57]:=by
  rw [dec_cut (by omega),decDigits_one (by omega)];rfl
 rw [ex_parts,h19]
 decide
theorem begins {s p q:List UInt8} (hp:p=[]∨∃ a,p=a++[10]) (hs:s=p++q) {o o2:List UInt8} {E S:List AK.Ed} {t:Nat} {E1 S1 E2 S2:List AK.Ed} {t1 t2:Nat} (h:RunR (lns s) E S t o E1 S1 t1) (k:RunR (lns p) E S t o2 E2 S2 t2):∃ r,o=o2++r:=by
 have e:lns s=lns p++lns q:=by
  rcases hp with rfl | ⟨a,rfl⟩
  ·rw [hs];rfl
  ·rw [hs,List.append_assoc];exact lns_app a q
 rw [e] at h
 obtain ⟨o1,F1,U1,v1,r,h1,_,rfl⟩:=h.cut
 obtain ⟨rfl,_⟩:=h1.one k
 exact ⟨r,rfl⟩
end RN
end Go.Proofs.YtkoajpeabicpdaaGreatDoor
