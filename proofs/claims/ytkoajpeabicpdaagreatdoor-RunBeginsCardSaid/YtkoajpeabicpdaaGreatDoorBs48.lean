/-
Walk of strings.Cut at a line's end. Condition: the text is not too long.
-/
import Derived.Test.YtkoajpeabicpdaaGreatDoorBs3
import Derived.Test.YtkoajpeabicpdaaGreatDoorBs1
set_option linter.unusedVariables false
set_option maxHeartbeats 8000000
namespace Go.Proofs.YtkoajpeabicpdaaGreatDoor
open Go Go.RowKit
namespace RN
open Lib
theorem takeW_no {c:UInt8}:∀ {a:List UInt8},c ∉ a→a.takeWhile (fun x=>x != c)=a∧a.dropWhile (fun x=>x != c)=[]
 | [],_=>⟨rfl,rfl⟩
 | x::r,h=>by
  have hx:x≠c:=fun e=>h (by simp [e])
  obtain ⟨h1,h2⟩:=takeW_no (c:=c) (a:=r) (fun q=>h (by simp [q]))
  simp [hx,h1,h2]
theorem takeW_at {c:UInt8}:∀ {a b:List UInt8},c ∉ a→(a++c::b).takeWhile (fun x=>x != c)=a∧(a++c::b).dropWhile (fun x=>x != c)=c::b
 | [],b,_=>by simp
 | x::r,b,h=>by
  have hx:x≠c:=fun e=>h (by simp [e])
  obtain ⟨h1,h2⟩:=takeW_at (c:=c) (a:=r) (b:=b) (fun q=>h (by simp [q]))
  simp [hx,h1,h2]
theorem idx_cut (c:UInt8) (l:List UInt8):(indexByte l c=-1→cutA c l=l∧cutB c l=[])∧(0≤indexByte l c→(indexByte l c).toNat < l.length∧cutA c l=l.take (indexByte l c).toNat∧cutB c l=l.drop ((indexByte l c).toNat+1)):=by
 unfold cutA cutB
 by_cases hm:c∈l
 ·obtain ⟨a,b,ha,rfl⟩:=mem_at hm
  have hi:=idx_at (b:=b) ha
  rw [index_one] at hi
  obtain ⟨h1,h2⟩:=takeW_at (b:=b) ha
  rw [hi,h1,h2]
  refine ⟨fun h=>by omega,fun _=>?_⟩
  simp [List.drop_append]
 ·have hi:=idx_no hm
  rw [index_one] at hi
  obtain ⟨h1,h2⟩:=takeW_no hm
  rw [hi,h1,h2]
  exact ⟨fun _=>⟨rfl,rfl⟩,fun h=>by omega⟩
end RN
def CnPost (s:ByteArray) (w:World) (e:Ending) (w':World):Prop:=∃ a b f,e=.returned (.tuple #[.string a,.string b,.bool f])∧a.data.toList=RN.cutA 10 s.data.toList∧b.data.toList=RN.cutB 10 s.data.toList∧Ext w w'
theorem lcutn_any (s:ByteArray) (hs:s.size≤4611686018427387904) (w:World):Calls Tryz.prog 23 #[.string s,.string ⟨#[10]⟩] w (CnPost s w):=by
 have hI:=sh_stringslite_Index_one s 10 w
 have e0:s.size=s.data.toList.length:=by rw [Array.length_toList];rfl
 obtain ⟨k1,k2⟩:=RN.idx_cut 10 s.data.toList
 have hge:=Lib.indexByte_ge s.data.toList 10
 obtain ⟨i,hi⟩:∃ i,Lib.indexByte s.data.toList 10=i:=⟨_,rfl⟩
 rw [hi] at hI k1 k2 hge
 have HI:=Lib.hid hI
 clear hI hi
 by_cases h:0≤i
 ·obtain ⟨k,rfl⟩:=Int.eq_ofNat_of_zero_le h
  obtain ⟨h1,h2,h3⟩:=k2 h
  simp only [Int.toNat_natCast] at h1 h2 h3
  have hks:k < s.size:=by omega
  have HP:Hid (CnPost s w (.returned (.tuple #[.string (s.extract 0 k),.string (s.extract (k+1) s.size),.bool true])) w∧∀ q,CnPost s w (.returned (.tuple #[.string (s.extract 0 k),.string (s.extract (k+1) s.size),.bool true])) (w.drewN q)):=
   ⟨⟨_,_,_,rfl,by rw [str_take _ _ (by omega),h2],by rw [str_drop _ _ (by omega),h3],Ext.refl _⟩,fun q=>⟨_,_,_,rfl,by rw [str_take _ _ (by omega),h2],by rw [str_drop _ _ (by omega),h3],Ext.drewN _ _⟩⟩
  have g1:(k:Int)≤(s.size:Int):=by omega
  have g2:(k:Int)+1≤(s.size:Int):=by omega
  have g3:(0:Int)≤(k:Int):=by omega
  have g4:((k:Int)+1).toNat=k+1:=by omega
  have g5:((1:Nat):Int)=1:=rfl
  have g6:(⟨#[10]⟩:ByteArray).size=1:=rfl
  clear k1 k2 h1 h2 h3 e0
  go_enter Tryz.func23,Tryz.ntmps23
  go_wp2_with fail
  refine HI.out.mono ?_
  rintro e w' ⟨rfl,rfl⟩
  go_wp2
  go_quiet (fail)
  go_wp2
  go_ret3
  exact HP.out.2 _
 ·have hi1:i=-1:=by omega
  obtain ⟨h1,h2⟩:=k1 hi1
  have HP:Hid (CnPost s w (.returned (.tuple #[.string s,.string ⟨#[]⟩,.bool false])) w):=⟨_,_,_,rfl,h1.symm,by rw [h2],Ext.refl _⟩
  subst hi1
  clear k1 k2 h1 h2 e0 hge
  go_enter Tryz.func23,Tryz.ntmps23
  go_wp2_with fail
  refine HI.out.mono ?_
  rintro e w' ⟨rfl,rfl⟩
  go_wp2
  go_ret3
  exact HP.out
theorem cutn_any (s:ByteArray) (hs:s.size≤4611686018427387904) (w:World):Calls Tryz.prog 10 #[.string s,.string ⟨#[10]⟩] w (CnPost s w):=by
 go_enter Tryz.func10,Tryz.ntmps10
 go_wp2_with fail
 refine (lcutn_any s hs w).mono ?_
 rintro e w' ⟨a,b,f,rfl,h1,h2,h3⟩
 have HP:Hid (CnPost s w (.returned (.tuple #[.string a,.string b,.bool f])) w'):=⟨a,b,f,rfl,h1,h2,h3⟩
 clear h1 h2 h3
 go_wp2
 go_ret3
 exact HP.out
end Go.Proofs.YtkoajpeabicpdaaGreatDoor
