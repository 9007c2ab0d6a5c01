/-
Walks of RunAnswers and of RunBegins. Condition: the library's variables as laid.
-/
import Derived.Test.YtkoajpeabicpdaaGreatDoorBs49
import Derived.Test.YtkoajpeabicpdaaGreatDoorBs50
set_option linter.unusedVariables false
set_option maxHeartbeats 8000000
namespace Go.Proofs.YtkoajpeabicpdaaGreatDoor
open Go Go.RowKit SQ TR DF PD PT
set_option maxRecDepth 100000 in
theorem ra_walk (s:ByteArray) (w:World) (he:RunEnv w):Calls Tryz.prog 3 #[.string s] w fun e w'=>e=.returned (.bool true)∧Below w.heap.size w w':=by
 by_cases hs:s.size≤3000
 ·have HR:=Lib.hid (run_any s hs w he)
  have HO:=Lib.hid (runof_any s hs)
  clear he
  go_enter Tryz.func3,Tryz.ntmps3
  go_wp2_with fail
  refine HR.out.mono ?_
  rintro e w1 ⟨o,E,S,t,hr,rfl,hx⟩
  have HX:Hid (RN.RunR (RN.lns s.data.toList) [] [] 1 o E S t∧Ext w w1):=⟨hr,hx⟩
  clear hr hx HR
  go_wp2_with fail
  refine (HO.out _).mono ?_
  rintro e w2 ⟨o2,E2,S2,t2,hr2,rfl,hx2⟩
  obtain ⟨rfl,_⟩:=HX.out.1.one hr2
  have HX2:Hid (Ext w w2):=HX.out.2.trans hx2
  clear hr2 hx2 HO
  generalize (⟨o.toArray⟩:ByteArray)=T
  have k1:(T.toList == T.toList)=true:=by simp
  go_wp2
  go_ret
  exact ⟨rfl,HX2.out⟩
 ·have HR:=Lib.hid (run_long s (by omega) w)
  have HO:=Lib.hid (runof_long s (by omega))
  clear he
  go_enter Tryz.func3,Tryz.ntmps3
  go_wp2_with fail
  refine HR.out.mono ?_
  rintro e w1 ⟨rfl,rfl⟩
  go_wp2_with fail
  refine (HO.out _).mono ?_
  rintro e w2 ⟨rfl,rfl⟩
  go_wp2
  go_ret
  exact ⟨rfl,Below.refl _ _⟩
theorem run_ex (w:World) (he:RunEnv w):Calls Tryz.prog 5 #[.string ⟨#[100,111,32,43,48,32,49,44,63,49,32,48,10,112,97,114,116,115,10,102,108,121]⟩] w fun e w'=>e=.returned (.string ⟨#[121,101,115,10,49,57,10,98,97,100,10]⟩)∧Ext w w':=by
 refine (run_any _ (by decide) w he).mono ?_
 rintro e w' ⟨o,E,S,t,hr,rfl,hx⟩
 obtain ⟨rfl,_⟩:=RN.RunR.one hr RN.ex_run
 exact ⟨rfl,hx⟩
def AtR (l:List UInt8) (m:Int) (i:Nat):Prop:=0 < m∨l.take i=[]∨∃ a,l.take i=a++[10]
theorem AtR.next {l:List UInt8} {m:Int} {i:Nat} (h:0 < m) (hx:l[i]?=some 10):AtR l (m - 1) (i+1):=.inr (.inr ⟨l.take i,by rw [List.take_add_one,hx];rfl⟩)
theorem ba_take (s:ByteArray) (i:Nat) (hi:i≤s.size):(s.extract 0 i).size=i:=by rw [ByteArray.size_extract];omega
set_option maxRecDepth 100000 in
theorem rb_walk (s:ByteArray) (n:Int) (w:World) (he:RunEnv w) (hn:n≤9223372036854775807):Calls Tryz.prog 4 #[.string s,.int .i64 n] w fun e w'=>e=.returned (.bool true)∧Below w.heap.size w w':=by
 have HEX:=Lib.hid (run_ex w he)
 have HE:=Lib.hid he
 clear he
 by_cases hs:(3000:Int) < (s.size:Int)
 ·go_enter Tryz.func4,Tryz.ntmps4
  go_wp2_with fail
  refine HEX.out.mono ?_
  rintro e w1 ⟨rfl,hx⟩
  have HX:=Lib.hid hx
  clear hx
  go_wp2
  go_ret
  exact ⟨rfl,HX.out⟩
 by_cases hn0:n < 0
 ·go_enter Tryz.func4,Tryz.ntmps4
  go_wp2_with fail
  refine HEX.out.mono ?_
  rintro e w1 ⟨rfl,hx⟩
  have HX:=Lib.hid hx
  clear hx
  go_wp2
  go_ret
  exact ⟨rfl,HX.out⟩
 have hz:=sz_len s
 have HZ:=Lib.hid hz
 clear hz
 go_enter Tryz.func4,Tryz.ntmps4
 go_wp2_with fail
 refine HEX.out.mono ?_
 rintro e w1 ⟨rfl,hx⟩
 have HX:=Lib.hid hx
 clear hx
 go_wp2_with fail
 go_loop [1,6] (fun v1 v6=>∃ (m:Int) (i:Nat),0≤m∧m≤n∧i≤s.size∧v1=.int .i64 m∧v6=.int .i64 (i:Int)∧Hid (AtR s.data.toList m i)) (fun _ v6=>s.size - (intOf v6).toNat)
 case atStart=>exact ⟨n,0,by omega,by omega,by omega,rfl,rfl,.inr (.inl rfl)⟩
 case round=>
  obtain ⟨m,i,hm0,hmn,hi,rfl,rfl,HA⟩:=hrel
  by_cases hc:0 < m∧i < s.size
  ·obtain ⟨hm1,hin⟩:=hc
   have z1:(i:Int) < (s.size:Int):=by omega
   have z2:(0:Int)≤(i:Int):=by omega
   obtain ⟨x,hx⟩:∃ x,s[i]=x:=⟨_,rfl⟩
   have HXX:Hid (s.data.toList[i]?=some x):=by
    unfold Hid
    rw [Array.getElem?_toList,Array.getElem?_eq_some_iff]
    exact ⟨hin,hx⟩
   by_cases hx10:x=10
   ·have HN:Hid (AtR s.data.toList (m - 1) (i+1)):=AtR.next hm1 (by rw [HXX.out,hx10])
    have k1:((x.toNat:Int) == 10)=true:=by rw [hx10];rfl
    have k2:(x.toNat:Int)=10:=by rw [hx10];rfl
    clear hx10
    go_wp2
    go_round
    case rel=>exact ⟨m - 1,i+1,by omega,by omega,by omega,rfl,by go_num,HN.out⟩
    case measure=>simp [intOf];omega
   ·have k1:((x.toNat:Int) == 10)=false:=by
     rw [beq_eq_false_iff_ne]
     intro q
     exact hx10 (UInt8.toNat_inj.1 (by show x.toNat=10;omega))
    have k2:¬ (x.toNat:Int)=10:=by simpa using k1
    clear hx10
    go_wp2
    go_round
    case rel=>exact ⟨m,i+1,by omega,by omega,by omega,rfl,by go_num,.inl hm1⟩
    case measure=>simp [intOf];omega
  ·have hex:s.extract 0 i=s.extract 0 i:=rfl
   have HR:=Lib.hid (run_any s (by omega) w1 (HE.out.ext HX.out))
   have hsz:=ba_take s i hi
   have hdt:(s.extract 0 i).data.toList=s.data.toList.take i:=str_take s i hi
   have HR2:=Lib.hid (fun W (hW:Ext w1 W)=>run_any (s.extract 0 i) (by omega) W ((HE.out.ext HX.out).ext hW))
   have HD:=Lib.hid hdt
   clear hex hsz hdt
   have z3:(i:Int)≤(s.size:Int):=by omega
   by_cases hm1:0 < m
   ·have hi2:s.size≤i:=by omega
    have z1:¬ ((i:Int) < (s.size:Int)):=by omega
    go_wp2_with fail
    refine HR.out.mono ?_
    rintro e w2 ⟨o,E,S,t,hr,rfl,hx2⟩
    have HX2:Hid (RN.RunR (RN.lns s.data.toList) [] [] 1 o E S t∧Ext w1 w2):=⟨hr,hx2⟩
    clear hr hx2 HR
    go_wp2_with fail
    refine (HR2.out _ HX2.out.2).mono ?_
    rintro e w3 ⟨o2,E2,S2,t2,hr2,rfl,hx3⟩
    rw [HD.out,List.take_of_length_le (by rw [←HZ.out];exact hi2)] at hr2
    obtain ⟨rfl,_⟩:=HX2.out.1.one hr2
    have HX3:Hid (Ext w w3):=HX.out.trans (HX2.out.2.trans hx3)
    clear hr2 hx3 HR2
    generalize (⟨o.toArray⟩:ByteArray)=T
    have k1:(T.toList == T.toList)=true:=by simp
    go_wp2
    go_ret
    exact ⟨rfl,HX3.out⟩
   ·obtain rfl:m=0:=by omega
    go_wp2_with fail
    refine HR.out.mono ?_
    rintro e w2 ⟨o,E,S,t,hr,rfl,hx2⟩
    have HX2:Hid (RN.RunR (RN.lns s.data.toList) [] [] 1 o E S t∧Ext w1 w2):=⟨hr,hx2⟩
    clear hr hx2 HR
    go_wp2_with fail
    refine (HR2.out _ HX2.out.2).mono ?_
    rintro e w3 ⟨o2,E2,S2,t2,hr2,rfl,hx3⟩
    rw [HD.out] at hr2
    obtain ⟨r,rfl⟩:=RN.begins (s:=s.data.toList) (p:=s.data.toList.take i) (q:=s.data.toList.drop i) (HA.out.resolve_left (by omega)) (List.take_append_drop i _).symm HX2.out.1 hr2
    have HX3:Hid (Ext w w3):=HX.out.trans (HX2.out.2.trans hx3)
    have hz1:(⟨(o2++r).toArray⟩:ByteArray).size=o2.length+r.length:=by simp [ByteArray.size]
    have hz2:(⟨o2.toArray⟩:ByteArray).size=o2.length:=by simp [ByteArray.size]
    have hz3:(⟨(o2++r).toArray⟩:ByteArray).extract 0 o2.length=⟨o2.toArray⟩:=by
     refine (str_eq ?_).symm
     rw [str_take _ _ (by omega)]
     simp
    obtain ⟨T,hT⟩:∃ T,(⟨(o2++r).toArray⟩:ByteArray)=T:=⟨_,rfl⟩
    obtain ⟨U,hU⟩:∃ U,(⟨o2.toArray⟩:ByteArray)=U:=⟨_,rfl⟩
    rw [hT,hU] at hz3
    rw [hT] at hz1
    rw [hU] at hz2
    rw [hT,hU]
    rw [←hz2] at hz3
    have k1:((T.extract 0 U.size).toList == U.toList)=true:=by rw [hz3];simp
    have k2:(U.size:Int)≤(T.size:Int):=by omega
    have k3:(0:Int)≤(U.size:Int):=by omega
    clear hr2 hx3 HR2 hz1 hz2 hz3 hT hU
    go_wp2
    go_ret
    exact ⟨rfl,HX3.out⟩
end Go.Proofs.YtkoajpeabicpdaaGreatDoor
