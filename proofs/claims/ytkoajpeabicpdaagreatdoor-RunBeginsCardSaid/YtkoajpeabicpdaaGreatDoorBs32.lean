/-
Walk of the references' Count. Condition: the parts lie in memory as 'IntsAt' says.
-/
import Derived.Test.YtkoajpeabicpdaaGreatDoorBs30
import Derived.Test.YtkoajpeabicpdaaGreatDoorBs14
import Derived.Test.YtkoajpeabicpdaaGreatDoorBs2
set_option linter.unusedVariables false
set_option maxHeartbeats 8000000
namespace Go.Proofs.YtkoajpeabicpdaaGreatDoor
open Go Go.RowKit PT
theorem natv_ints {w:World} {g c n:Nat} {p:List Nat} (h:NRow w (.slice (some ⟨g,0,none⟩) n c) n p):IntsAt w (some ⟨g,0,none⟩) (p.map fun (x:Nat)=>(x:Int))∧p.length=n:=by
 unfold NRow at h
 have e:natv p=(p.map fun (x:Nat)=>(x:Int)).map (Value.int .i64):=by simp [natv]
 rw [e] at h
 have:=IntsAt.of_own h
 exact ⟨this.1,by simpa using this.2⟩
theorem cnt_step (p:List Nat) (k:Nat):PD.cnt (fx p) (k+1)=PD.cnt (fx p) k+if p[k]?=some k then 1 else 0:=by
 simp [PD.cnt,fx]
theorem ret_iC {a b:Int} (h:a=b):Ending.returned (.int .i64 a)=.returned (.int .i64 b):=by rw [h]
theorem count_any (w:World) (A:Option Addr) (n c:Nat) (p:List Nat) (hp:IntsAt w A (p.map fun (x:Nat)=>(x:Int))) (hn:p.length=n) (hnb:n≤1000000):
  Calls Tryz.prog 48 #[.slice A n c] w fun e w'=>e=.returned (.int .i64 (cntP n p:Nat))∧Below w.heap.size w w':=by
 have HX:=Lib.hid hp
 have HN:=Lib.hid hn
 clear hp hn
 go_enter Tryz.func48,Tryz.ntmps48
 go_wp2
 go_loopw [3,4] (fun v3 v4 wr=>∃ (k s:Nat),k≤n∧s≤k∧v3=.int .i64 s∧v4=.int .i64 k∧Hid (s=PD.cnt (fx p) k∧Ext w wr)) (fun _ v4 _=>n - (intOf v4).toNat)
 case atStart=>exact ⟨0,0,Nat.zero_le _,Nat.le_refl _,rfl,rfl,rfl,Ext.refl _⟩
 case round=>
  obtain ⟨k,s,hk,hs,rfl,rfl,hR⟩:=hrel
  by_cases hlt:k < n
  ·obtain ⟨x,hx⟩:∃ x,p[k]?=some x:=⟨_,List.getElem?_eq_getElem (by rw [HN.out];exact hlt)⟩
   rcases (HX.out.ext hR.out.2) with h0 | ⟨b,off,rfl,_,hc⟩
   ·have:=HN.out
    simp at h0;subst h0;simp at this;omega
   have c1:=hc k x (by rw [List.getElem?_map,hx];rfl)
   have z0:(0:Int)≤(k:Int):=by omega
   have z1:(k:Int) < (n:Int):=by omega
   have HS:=Lib.hid (cnt_step p k)
   have HX2:=Lib.hid hx
   clear hc hx
   by_cases e:x=k
   ·have q:((x:Int) == (k:Int))=true:=by simp;omega
    have HZ:Hid (s+1=PD.cnt (fx p) (k+1)):=by rw [Hid,HS.out,HX2.out,e,if_pos rfl,hR.out.1]
    have HE:=Lib.hid hR.out.2
    clear e hR
    go_wp2
    go_roundw
    case rel=>exact ⟨k+1,s+1,by omega,by omega,by go_num,by go_num,HZ.out,HE.out⟩
    case measure=>simp [intOf];omega
   ·have q:((x:Int) == (k:Int))=false:=by simp;omega
    have HZ:Hid (s=PD.cnt (fx p) (k+1)):=by rw [Hid,HS.out,HX2.out,if_neg (fun w=>e (Option.some.inj w)),hR.out.1];rfl
    have HE:=Lib.hid hR.out.2
    clear e hR
    go_wp2
    go_roundw
    case rel=>exact ⟨k+1,s,by omega,by omega,rfl,by go_num,HZ.out,HE.out⟩
    case measure=>simp [intOf];omega
  ·obtain rfl:n=k:=by omega
   have HE:=Lib.hid hR
   clear hR
   go_wp2
   go_ret
   exact ⟨ret_iC (by rw [HE.out.out.1];rfl),HE.out.out.2⟩
end Go.Proofs.YtkoajpeabicpdaaGreatDoor
