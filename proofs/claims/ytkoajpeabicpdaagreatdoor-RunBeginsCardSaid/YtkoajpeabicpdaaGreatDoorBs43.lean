/-
What a line of a session answers and leaves, and the answers to lines one behind the other, as relations with one end each. No condition.
-/
import Derived.Test.YtkoajpeabicpdaaGreatDoorBs1
import Derived.Test.YtkoajpeabicpdaaGreatDoorBs38
import Derived.Test.YtkoajpeabicpdaaGreatDoorBs39
import Derived.Test.YtkoajpeabicpdaaGreatDoorBs41
import Derived.Test.YtkoajpeabicpdaaGreatDoorBs40
import Derived.Test.YtkoajpeabicpdaaGreatDoorBs42
import Derived.Test.YtkoajpeabicpdaaGreatDoorBs11
import Derived.Test.YtkoajpeabicpdaaGreatDoorBs36
import Derived.Test.YtkoajpeabicpdaaGreatDoorBs37
set_option linter.unusedVariables false
set_option maxHeartbeats 8000000
namespace Go.Proofs.YtkoajpeabicpdaaGreatDoor
open Go Go.RowKit SQ TR DF PD PT
namespace RN
open Lib NT
def AnsR (c:Cmd) (E S:List AK.Ed) (t:Nat) (o:List UInt8) (E' S':List AK.Ed) (t':Nat):Prop:=
 match c with
 | .bad=>o=tBad∧E'=E∧S'=S∧t'=t
 | .doo l=>S'=S∧t'=t∧((∃ k,FltK 20 l E k∧o=nameOf k∧E'=E)∨∃ xs,DoneK 20 l E E' xs∧o=wordsT tOk (xs.map boolW))
 | .parts=>o=decDigits (PD.cnt (ldr E) 20)∧E'=E∧S'=S∧t'=t
 | .size a=>o=(if a < 20 then decDigits (comp 20 E a).length else nameOf 1)∧E'=E∧S'=S∧t'=t
 | .way a b=>((a < 20∧b < 20∧∃ d,PD.IsDist 20 E b d∧((PD.g d a < 0∧o=nameOf 4)∨(0≤PD.g d a∧∃ p:List Nat,PD.Way 20 E d a p∧p.length≤100∧o=wordsT tDash (p.map decDigits))))∨(¬ (a < 20∧b < 20)∧o=nameOf 1))∧E'=E∧S'=S∧t'=t
 | .bridges=>(∃ x,BrsOf 20 E x∧x.length≤200∧o=wordsT tDash (x.map edW))∧E'=E∧S'=S∧t'=t
 | .joints=>(∃ x,JtsOf 20 E x∧x.length≤60∧o=wordsT tDash (x.map fun y=>decDigits y.toNat))∧E'=E∧S'=S∧t'=t
 | .save=>o=tOk∧E'=E∧S'=E∧t'=t+1
 | .turn=>o=decDigits t∧E'=E∧S'=S∧t'=t
 | .crash=>o=tOk∧E'=S∧S'=S∧t'=t
theorem AnsR.one {c:Cmd} {E S:List AK.Ed} {t:Nat} {o o2:List UInt8} {E1 S1 E2 S2:List AK.Ed} {t1 t2:Nat} (h:AnsR c E S t o E1 S1 t1) (k:AnsR c E S t o2 E2 S2 t2):o=o2∧E1=E2∧S1=S2∧t1=t2:=by
 cases c with
 | bad=>obtain ⟨rfl,rfl,rfl,rfl⟩:=h;obtain ⟨rfl,rfl,rfl,rfl⟩:=k;exact ⟨rfl,rfl,rfl,rfl⟩
 | doo l=>
  obtain ⟨rfl,rfl,h⟩:=h;obtain ⟨rfl,rfl,k⟩:=k
  rcases h with ⟨x,h1,rfl,rfl⟩ | ⟨xs,h1,rfl⟩
  ·rcases k with ⟨y,k1,rfl,rfl⟩ | ⟨ys,k1,rfl⟩
   ·obtain rfl:=h1.one k1;exact ⟨rfl,rfl,rfl,rfl⟩
   ·exact (h1.no2 k1).elim
  ·rcases k with ⟨y,k1,rfl,rfl⟩ | ⟨ys,k1,rfl⟩
   ·exact (k1.no2 h1).elim
   ·obtain ⟨rfl,rfl⟩:=h1.one k1;exact ⟨rfl,rfl,rfl,rfl⟩
 | parts=>obtain ⟨rfl,rfl,rfl,rfl⟩:=h;obtain ⟨rfl,rfl,rfl,rfl⟩:=k;exact ⟨rfl,rfl,rfl,rfl⟩
 | size a=>obtain ⟨rfl,rfl,rfl,rfl⟩:=h;obtain ⟨rfl,rfl,rfl,rfl⟩:=k;exact ⟨rfl,rfl,rfl,rfl⟩
 | way a b=>
  obtain ⟨h,rfl,rfl,rfl⟩:=h;obtain ⟨k,rfl,rfl,rfl⟩:=k
  refine ⟨?_,rfl,rfl,rfl⟩
  rcases h with ⟨ha,hb,d,h1,h2⟩ | ⟨hn,rfl⟩
  ·rcases k with ⟨_,_,d2,k1,k2⟩ | ⟨hn,_⟩
   ·obtain rfl:=PD.dist_unique h1 k1
    rcases h2 with ⟨h0,rfl⟩ | ⟨h0,p,h3,_,rfl⟩
    ·rcases k2 with ⟨_,rfl⟩ | ⟨k0,_⟩
     ·rfl
     ·omega
    ·rcases k2 with ⟨k0,_⟩ | ⟨_,q,k3,_,rfl⟩
     ·omega
     ·rw [PD.Way.unique h3 k3]
   ·exact absurd ⟨ha,hb⟩ hn
  ·rcases k with ⟨ha,hb,_⟩ | ⟨_,rfl⟩
   ·exact absurd ⟨ha,hb⟩ hn
   ·rfl
 | bridges=>obtain ⟨⟨x,hx,_,rfl⟩,rfl,rfl,rfl⟩:=h;obtain ⟨⟨y,hy,_,rfl⟩,rfl,rfl,rfl⟩:=k;rw [hx.uniq hy];exact ⟨rfl,rfl,rfl,rfl⟩
 | joints=>obtain ⟨⟨x,hx,_,rfl⟩,rfl,rfl,rfl⟩:=h;obtain ⟨⟨y,hy,_,rfl⟩,rfl,rfl,rfl⟩:=k;rw [hx.uniq hy];exact ⟨rfl,rfl,rfl,rfl⟩
 | save=>obtain ⟨rfl,rfl,rfl,rfl⟩:=h;obtain ⟨rfl,rfl,rfl,rfl⟩:=k;exact ⟨rfl,rfl,rfl,rfl⟩
 | turn=>obtain ⟨rfl,rfl,rfl,rfl⟩:=h;obtain ⟨rfl,rfl,rfl,rfl⟩:=k;exact ⟨rfl,rfl,rfl,rfl⟩
 | crash=>obtain ⟨rfl,rfl,rfl,rfl⟩:=h;obtain ⟨rfl,rfl,rfl,rfl⟩:=k;exact ⟨rfl,rfl,rfl,rfl⟩
def RunR:List (List UInt8)→List AK.Ed→List AK.Ed→Nat→List UInt8→List AK.Ed→List AK.Ed→Nat→Prop
 | [],E,S,t,o,E',S',t'=>o=[]∧E'=E∧S'=S∧t'=t
 | l::ls,E,S,t,o,E',S',t'=>∃ o1 E1 S1 t1 o2,AnsR (cmdF l) E S t o1 E1 S1 t1∧RunR ls E1 S1 t1 o2 E' S' t'∧o=o1++10::o2
theorem RunR.one:∀ {ls:List (List UInt8)} {E S:List AK.Ed} {t:Nat} {o o2:List UInt8} {E1 S1 E2 S2:List AK.Ed} {t1 t2:Nat},RunR ls E S t o E1 S1 t1→RunR ls E S t o2 E2 S2 t2→o=o2∧E1=E2∧S1=S2∧t1=t2
 | [],_,_,_,_,_,_,_,_,_,_,_,h,k=>by obtain ⟨rfl,rfl,rfl,rfl⟩:=h;obtain ⟨rfl,rfl,rfl,rfl⟩:=k;exact ⟨rfl,rfl,rfl,rfl⟩
 | l::ls,_,_,_,_,_,_,_,_,_,_,_,h,k=>by
  obtain ⟨o1,E1,S1,t1,o2,h1,h2,rfl⟩:=h
  obtain ⟨q1,F1,U1,v1,q2,k1,k2,rfl⟩:=k
  obtain ⟨rfl,rfl,rfl,rfl⟩:=h1.one k1
  obtain ⟨rfl,rfl,rfl,rfl⟩:=RunR.one h2 k2
  exact ⟨rfl,rfl,rfl,rfl⟩
theorem RunR.app:∀ {ls ms:List (List UInt8)} {E S E1 S1 E2 S2:List AK.Ed} {t t1 t2:Nat} {o o2:List UInt8},RunR ls E S t o E1 S1 t1→RunR ms E1 S1 t1 o2 E2 S2 t2→RunR (ls++ms) E S t (o++o2) E2 S2 t2
 | [],ms,_,_,_,_,_,_,_,_,_,_,_,h,k=>by obtain ⟨rfl,rfl,rfl,rfl⟩:=h;exact k
 | l::ls,ms,_,_,_,_,_,_,_,_,_,_,_,h,k=>by
  obtain ⟨o1,E1,S1,t1,o2,h1,h2,rfl⟩:=h
  exact ⟨o1,E1,S1,t1,_,h1,RunR.app h2 k,by simp⟩
theorem RunR.cut:∀ {ls ms:List (List UInt8)} {E S E2 S2:List AK.Ed} {t t2:Nat} {o:List UInt8},RunR (ls++ms) E S t o E2 S2 t2→∃ o1 E1 S1 t1 o2,RunR ls E S t o1 E1 S1 t1∧RunR ms E1 S1 t1 o2 E2 S2 t2∧o=o1++o2
 | [],ms,E,S,_,_,t,_,o,h=>⟨[],E,S,t,o,⟨rfl,rfl,rfl,rfl⟩,h,rfl⟩
 | l::ls,ms,_,_,_,_,_,_,_,h=>by
  obtain ⟨o1,E1,S1,t1,o2,h1,h2,rfl⟩:=h
  obtain ⟨o3,E3,S3,t3,o4,h3,h4,rfl⟩:=RunR.cut h2
  exact ⟨o1++10::o3,E3,S3,t3,o4,⟨o1,E1,S1,t1,o3,h1,h3,rfl⟩,h4,by simp⟩
theorem RunR.snoc {ls:List (List UInt8)} {l:List UInt8} {E S E1 S1 E2 S2:List AK.Ed} {t t1 t2:Nat} {o o2:List UInt8} (h:RunR ls E S t o E1 S1 t1) (k:AnsR (cmdF l) E1 S1 t1 o2 E2 S2 t2):RunR (ls++[l]) E S t (o++o2++[10]) E2 S2 t2:=by
 have:=h.app (ms:=[l]) (o2:=o2++[10]) ⟨o2,E2,S2,t2,[],k,⟨rfl,rfl,rfl,rfl⟩,rfl⟩
 simpa using this
theorem cnt_le (p:Nat→Bool):∀ k,PD.cnt p k≤k
 | 0=>Nat.le_refl _
 | k+1=>by
  have:=cnt_le p k
  simp only [PD.cnt]
  split <;> omega
theorem comp_len_le (n:Nat) (E:List AK.Ed) (a:Nat):(comp n E a).length≤n:=by
 unfold comp
 rw [List.length_map]
 exact Nat.le_trans (List.length_filter_le _ _) (by simp)
theorem AnsR.len {c:Cmd} {E S:List AK.Ed} {t:Nat} {o:List UInt8} {E1 S1:List AK.Ed} {t1:Nat} (h:AnsR c E S t o E1 S1 t1):o.length≤9000+t:=by
 have hd:∀ u,(decDigits u).length≤u+1:=fun u=>dec_len_le u u (Nat.le_refl _)
 have hn:=name_len
 cases c with
 | bad=>obtain ⟨rfl,_⟩:=h;simp [tBad];omega
 | doo l=>
  obtain ⟨_,_,⟨k,_,rfl,_⟩ | ⟨xs,hx,rfl⟩⟩:=h
  ·have:=hn k;omega
  ·have:=words_len (none:=tOk) (ws:=xs.map boolW) (k:=3) (m:=120) (fun x hx=>by obtain ⟨b,_,rfl⟩:=List.mem_map.1 hx;cases b <;> simp [boolW]) (by rw [List.length_map];exact hx.len) (by simp [tOk])
   omega
 | parts=>obtain ⟨rfl,_⟩:=h;have:=hd (PD.cnt (ldr E) 20);have:=cnt_le (ldr E) 20;omega
 | size a=>
  obtain ⟨rfl,_⟩:=h
  split
  ·have:=hd (comp 20 E a).length;have:=comp_len_le 20 E a;omega
  ·have:=hn 1;omega
 | way a b=>
  obtain ⟨⟨ha,hb,d,_,⟨_,rfl⟩ | ⟨_,p,hw,hp,rfl⟩⟩ | ⟨_,rfl⟩,_⟩:=h
  ·have:=hn 4;omega
  ·have:=words_len (none:=tDash) (ws:=p.map decDigits) (k:=20) (m:=100) (fun x hx=>by
    obtain ⟨z,hz,rfl⟩:=List.mem_map.1 hx
    obtain ⟨i,hi⟩:=List.mem_iff_getElem?.1 hz
    have h1:=((PD.Way.at hw ha).2.2 i z hi).1
    have:=hd z;omega) (by rw [List.length_map];exact hp) (by simp [tDash])
   omega
  ·have:=hn 1;omega
 | bridges=>
  obtain ⟨⟨x,hx,hl,rfl⟩,_⟩:=h
  have:=words_len (none:=tDash) (ws:=x.map edW) (k:=41) (m:=200) (fun y hy=>by
   obtain ⟨z,hz,rfl⟩:=List.mem_map.1 hy
   have h1:=hx.2.2 z hz
   have h2:=hd z.1.toNat
   have h3:=hd z.2.toNat
   simp only [edW,List.length_append,List.length_cons];omega) (by rw [List.length_map];exact hl) (by simp [tDash])
  omega
 | joints=>
  obtain ⟨⟨x,hx,hl,rfl⟩,_⟩:=h
  have:=words_len (none:=tDash) (ws:=x.map fun y=>decDigits y.toNat) (k:=20) (m:=60) (fun y hy=>by
   obtain ⟨z,hz,rfl⟩:=List.mem_map.1 hy
   obtain ⟨c,rfl,hc,_⟩:=(hx.2 z).1 hz
   have h2:=hd ((c:Int).toNat)
   omega) (by rw [List.length_map];exact hl) (by simp [tDash])
  omega
 | save=>obtain ⟨rfl,_⟩:=h;simp [tOk];omega
 | turn=>obtain ⟨rfl,_⟩:=h;have:=hd t;omega
 | crash=>obtain ⟨rfl,_⟩:=h;simp [tOk];omega
end RN
end Go.Proofs.YtkoajpeabicpdaaGreatDoor
namespace Go.Proofs.YtkoajpeabicpdaaGreatDoor
open Go Go.RowKit SQ TR DF PD PT
structure RunEnv (W:World):Prop where
 errs:Errs W
 door:Td.Door W
 tab:Lib.TabIs Tryz.prog W "internal/strconv.uint64pow10" .u64 Lib.pow10Tab
theorem gPow:Tryz.prog.globalNamed "internal/strconv.uint64pow10" = some 4:=by kernel_rfl
theorem tab_ext {W W':World} (h:Lib.TabIs Tryz.prog W "internal/strconv.uint64pow10" .u64 Lib.pow10Tab) (hx:Ext W W'):Lib.TabIs Tryz.prog W' "internal/strconv.uint64pow10" .u64 Lib.pow10Tab:=
 var?_below hx gPow (World.block_lt_of_cell? W _ (h.cell gPow 0 (by decide))) h
theorem RunEnv.ext {W W':World} (h:RunEnv W) (hx:Ext W W'):RunEnv W':=⟨h.errs.ext hx,h.door.new hx,tab_ext h.tab hx⟩
theorem itoa_any (A:Nat) (hA:A < 1000000000) (w:World) (h:RunEnv w):Calls Tryz.prog 31 #[.int .i64 (A:Int)] w fun e w'=>e=.returned (.string ⟨(Lib.decDigits A).toArray⟩)∧Ext w w':=by
 rw [←itoa_nat]
 exact pitoa_any A (by omega) (by omega) w h.tab
theorem enItoa:∀ args w,(callFunc 31 args).run Tryz.prog w=.ok (.enter 31 args) w:=enters_of Tryz.func31 (by kernel_rfl) rfl
theorem enEdge:∀ args w,(callFunc 40 args).run Tryz.prog w=.ok (.enter 40 args) w:=enters_of Tryz.func40 (by kernel_rfl) rfl
theorem enYes:∀ args w,(callFunc 74 args).run Tryz.prog w=.ok (.enter 74 args) w:=enters_of Tryz.func74 (by kernel_rfl) rfl
theorem yes_any (b:Bool) (w:World):Calls Tryz.prog 74 #[.bool b] w fun e w'=>e=.returned (.string ⟨(RN.boolW b).toArray⟩)∧Ext w w':=by
 cases b
 all_goals
  go_enter Tryz.func74,Tryz.ntmps74
  go_wp2
  go_ret
  exact ⟨rfl,Ext.refl _⟩
theorem edge_any (x y:Nat) (hx:x < 60) (hy:y < 60) (w:World):Calls Tryz.prog 40 #[.agg #[.int .i64 (x:Int),.int .i64 (y:Int)]] w fun e w'=>e=.returned (.string ⟨(RN.edW ((x:Int),(y:Int))).toArray⟩)∧Ext w w':=by
 obtain ⟨la,hla⟩:∃ t,Lib.decDigits x=t:=⟨_,rfl⟩
 obtain ⟨lb,hlb⟩:∃ t,Lib.decDigits y=t:=⟨_,rfl⟩
 have sa:la.length≤2:=by rw [←hla];exact (NT.dec_all x hx).2.2
 have sb:lb.length≤2:=by rw [←hlb];exact (NT.dec_all y hy).2.2
 have HA:Hid (∀ w,Calls Tryz.prog 31 #[.int .i64 (x:Int)] w fun e w'=>e=.returned (.string ⟨la.toArray⟩)∧w'=w):=fun w=>by rw [←hla];exact sh_strconv_Itoa_small x (by omega) w
 have HB:Hid (∀ w,Calls Tryz.prog 31 #[.int .i64 (y:Int)] w fun e w'=>e=.returned (.string ⟨lb.toArray⟩)∧w'=w):=fun w=>by rw [←hlb];exact sh_strconv_Itoa_small y (by omega) w
 have HE:Hid (RN.edW ((x:Int),(y:Int))=la++45::lb):=by rw [Hid,RN.edW];simp only [Int.toNat_natCast];rw [hla,hlb]
 have sa':(⟨la.toArray⟩:ByteArray).size=la.length:=by simp [ByteArray.size]
 have sb':(⟨lb.toArray⟩:ByteArray).size=lb.length:=by simp [ByteArray.size]
 have hsz:(⟨#[45]⟩:ByteArray).size=1:=rfl
 clear hla hlb
 go_enter Tryz.func40,Tryz.ntmps40
 go_wp2
 go_quiet (first
  | ((go_at_call 31;with_reducible exact Calls.quiet_of_same (HA.out _)))
  | ((go_at_call 31;with_reducible exact Calls.quiet_of_same (HB.out _))))
 go_wp2
 go_ret
 refine ⟨congrArg (fun z=>Ending.returned (.string z)) ?_,Ext.trans (Ext.alloc _ _) (Ext.drewN _ _)⟩
 rw [HE.out]
 apply ByteArray.ext
 apply Array.toList_inj.1
 simp
theorem own_same {w:World} {base:Nat} {e:TypeId} {size n:Nat} {v:Value} {xs ys:List Value} (h:w.ownsRow base e size v n xs) (k:w.ownsRow base e size v n ys):xs=ys:=by
 rcases h.2 with ⟨rfl,h0⟩ | ⟨g,cap,cur,rfl,_,hg,_,_,_,ht⟩
 ·subst h0
  have h1:=h.1
  have k1:=k.1
  simp only [Nat.zero_mul,List.length_eq_zero_iff] at h1 k1
  rw [h1,k1]
 ·rcases k.2 with ⟨hv,_⟩ | ⟨g',cap',cur',hv,_,hg',_,_,_,ht'⟩
  ·simp at hv
  ·injection hv with hv _ _
   injection hv with hv
   injection hv with hv
   subst hv
   rw [hg] at hg'
   injection hg' with hg'
   injection hg' with hg'
   subst hg'
   rw [←ht,←ht']
def StsAt (w:World) (A:Option Addr) (ts:List ByteArray):Prop:=∃ b,A=some ⟨b,0,none⟩∧(∃ cs,Blk w b 9 cs)∧∀ i t,ts[i]?=some t→w.cell? ⟨b,i,none⟩=some (.string t)
theorem StsAt.chg {S:Nat→Prop} {w w':World} {A:Option Addr} {ts:List ByteArray} (h:StsAt w A ts) (hc:Chg S w w') (hn:∀ k cs,Blk w k 9 cs→¬ S k):StsAt w' A ts:=by
 obtain ⟨b,rfl,⟨cs,hb⟩,h2⟩:=h
 have hS:=hn b cs hb
 exact ⟨b,rfl,⟨cs,hb.chg hc hS⟩,fun i t ht=>(hc.cell (p:=⟨b,i,none⟩) hb.lt hS).trans (h2 i t ht)⟩
theorem StsAt.ext {w w':World} {A:Option Addr} {ts:List ByteArray} (h:StsAt w A ts) (hx:Ext w w'):StsAt w' A ts:=h.chg (Chg.of_below hx) (fun k cs hb hk=>by have:=hb.lt;omega)
def SplP (c:UInt8) (s:ByteArray) (w:World) (e:Ending) (w':World):Prop:=∃ (ts:List ByteArray) (A:Option Addr) (cp:Nat),e=.returned (.slice A ts.length cp)∧ts.map (fun t=>t.data.toList)=RN.spc c [] s.data.toList∧StsAt w' A ts∧ts.length≤cp∧Ext w w'
theorem sp_prog (c:UInt8) (s:ByteArray) (hs:s.size≤1000000) (w:World):Calls Tryz.prog 28 #[.string s,.string ⟨#[c]⟩] w (SplP c s w):=by
 refine (psplit_any s c hs w).mono ?_
 rintro e w' ⟨ts,h1,rfl,rfl⟩
 have hb:=Blk.new w 9 (ts.map Value.string).toArray
 refine ⟨ts,_,_,rfl,h1,⟨_,rfl,⟨_,hb⟩,fun i t ht=>?_⟩,Nat.le_refl _,Ext.alloc _ _⟩
 rw [hb.cell]
 simp [ht]
theorem sp_ref (c:UInt8) (s:ByteArray) (hs:s.size≤1000000) (w:World):Calls Tryz.prog 14 #[.string s,.int .u8 (c.toNat:Int)] w (SplP c s w):=by
 refine (splitc_any c s (by omega) w).mono ?_
 rintro e w' ⟨A,cp,ts,rfl,h1,h2,h3⟩
 have hne:0 < ts.length:=by
  have:=congrArg List.length h3
  rw [List.length_map] at this
  have h4:RN.spc c [] s.data.toList≠[]:=RN.spc_ne c _ _
  have:=List.length_pos_iff.2 h4
  omega
 obtain ⟨g,cap,hv,hcp,_⟩:=own_form h1 hne
 injection hv with e1 e2 e3
 subst e1;subst e3
 refine ⟨ts,_,_,rfl,h3,⟨g,rfl,own_blkB h1 rfl,fun i t ht=>?_⟩,hcp,h2⟩
 have:=h1.cellAt i (by have:=(List.getElem?_eq_some_iff.1 ht).1;omega)
 simpa [List.getElem?_map,ht] using this
theorem sp_len {c:UInt8} {s:ByteArray} {ts:List ByteArray} (h:ts.map (fun t=>t.data.toList)=RN.spc c [] s.data.toList):0 < ts.length∧ts.length≤s.size+1:=by
 have h1:=congrArg List.length h
 rw [List.length_map] at h1
 have h2:=RN.spc_len c s.data.toList []
 have h3:=List.length_pos_iff.2 (RN.spc_ne c s.data.toList [])
 rw [sz_len]
 omega
theorem spc_sz {c:UInt8}:∀ (l cur:List UInt8),∀ x∈RN.spc c cur l,x.length≤cur.length+l.length
 | [],cur,x,h=>by simp [RN.spc] at h;subst h;omega
 | y::r,cur,x,h=>by
  unfold RN.spc at h
  split at h
  ·rcases List.mem_cons.1 h with rfl | h
   ·omega
   ·have:=spc_sz r [] x h;simp only [List.length_cons,List.length_nil] at *;omega
  ·have:=spc_sz r (cur++[y]) x h;simp only [List.length_append,List.length_cons,List.length_nil] at *;omega
theorem sp_sz {c:UInt8} {s:ByteArray} {ts:List ByteArray} (h:ts.map (fun t=>t.data.toList)=RN.spc c [] s.data.toList) {i:Nat} {t:ByteArray} (ht:ts[i]?=some t):t.size≤s.size:=by
 have h1:t.data.toList∈RN.spc c [] s.data.toList:=by rw [←h];exact List.mem_map.2 ⟨t,List.mem_of_getElem? ht,rfl⟩
 have h2:=spc_sz _ _ _ h1
 rw [sz_len,sz_len]
 simpa using h2
def evC (e:AK.Ev):List Value:=[.int .i64 e.w,.int .i64 e.a,.int .i64 e.b]
theorem infoEv3:(Tryz.prog.info? 128).map (fun i=>(i.zero,i.size,i.bytes))=some (some (.agg #[.int .i64 0,.int .i64 0,.int .i64 0]),3,24):=by kernel_rfl
theorem ev_own {w:World} {A:Option Addr} {n c:Nat} {l:List AK.Ev} (h:w.ownsRow 0 128 3 (.slice A n c) n (rowsOf evC l)) (hl:l.length=n):EvRow w A l:=by
 by_cases h0:l=[]
 ·exact .inl h0
 have hn:0 < n:=by have:=List.length_pos_iff.2 h0;omega
 obtain ⟨g,cap,hv,_⟩:=own_form h hn
 injection hv with e1
 subst e1
 refine .inr ⟨g,0,rfl,own_lt h rfl,fun i e he=>?_⟩
 have hi:i < n:=by have:=(List.getElem?_eq_some_iff.1 he).1;omega
 have hS:∀ a,a∈l→(evC a).length=3:=fun _ _=>rfl
 have hc:∀ j v,(evC e)[j]?=some v→w.cell? ⟨g,i * 3+j,none⟩=some v:=fun j v hv=>by
  have hj:j < 3:=by have:=(List.getElem?_eq_some_iff.1 hv).1;simpa [evC] using this
  rw [h.cellAt (i * 3+j) (by omega)]
  exact rowsOf_get hS he hv
 refine ⟨?_,?_,?_⟩
 ·have:=hc 0 _ rfl;simpa using this
 ·have:=hc 1 _ rfl;simpa using this
 ·have:=hc 2 _ rfl;simpa using this
def EvLp (w:World) (ts:List ByteArray) (B:Option Addr) (cB i:Nat) (wr:World):Prop:=∃ es:List AK.Ev,RN.evsT ((ts.map (fun t=>t.data.toList)).take i)=some es∧es.length=i∧EvIn es∧wr.ownsRow 0 128 3 (.slice B i cB) i (rowsOf evC es)∧Ext w wr∧∀ j,(Value.slice B i cB).ownBlock=some j→w.heap.size≤j
section
variable {w wr w':World} {ts:List ByteArray} {B:Option Addr} {cB i g c:Nat}
theorem EvLp.start (w:World) (ts:List ByteArray):EvLp w ts none 0 0 w:=⟨[],rfl,rfl,fun e he=>by simp at he,World.ownsRow_nil _ _ _ _,Ext.refl _,fun j hj=>by simp [Value.ownBlock] at hj⟩
theorem EvLp.ext (h:EvLp w ts B cB i wr):Ext w wr:=by obtain ⟨_,_,_,_,_,h5,_⟩:=h;exact h5
theorem EvLp.moved (h:EvLp w ts B cB i wr) (hx:Ext wr w'):EvLp w ts B cB i w':=by
 obtain ⟨es,h1,h2,h3,h4,h5,h6⟩:=h
 exact ⟨es,h1,h2,h3,own_chg h4 (Chg.of_below hx) (fun j hj=>by have:=own_lt h4 hj;omega),h5.trans hx,h6⟩
theorem EvLp.row (h:EvLp w ts B cB i wr):∃ xs:List Value,wr.ownsRow 0 128 3 (.slice B i cB) i xs:=by
 obtain ⟨es,h1,h2,h3,h4,h5,h6⟩:=h
 exact ⟨_,h4⟩
theorem evT_one {s:ByteArray} {x y z:Nat} (h:IsTxt s x y z):RN.evT s.data.toList=some ⟨(x:Int),(y:Int),(z:Int)⟩:=RN.evT_txt h.1 h.2
theorem evT_no {s:ByteArray} (h:∀ x y z:Nat,¬ IsTxt s x y z):RN.evT s.data.toList=none:=RN.evT_none fun x y z q=>h x y z q
theorem EvLp.push {xs:List Value} (h:EvLp w ts B cB i wr) (hr:wr.ownsRow 0 128 3 (.slice B i cB) i xs) {s:ByteArray} {x y z:Nat} (hs:ts[i]?=some s) (ht:IsTxt s x y z)
  (ho:w'.ownsRow 0 128 3 (.slice (some ⟨g,0,none⟩) (i+1) c) (i+1) (xs++[.int .i64 (x:Int),.int .i64 (y:Int),.int .i64 (z:Int)])) (hc:Chg (fun j=>(Value.slice B i cB).ownBlock=some j) wr w') (hat:(Value.slice B i cB).ownBlock=some g∨g=wr.heap.size):EvLp w ts (some ⟨g,0,none⟩) c (i+1) w':=by
 obtain ⟨es,h1,h2,h3,h4,h5,h6⟩:=h
 obtain rfl:xs=rowsOf evC es:=own_same hr h4
 refine ⟨es++[⟨x,y,z⟩],?_,by simp [h2],?_,?_,((Chg.of_below h5).trans hc (fun j _ hj=>h6 j hj)).below (Nat.le_refl _) (fun _ _ h=>h),fun j hj=>?_⟩
 ·rw [List.take_add_one,List.getElem?_map,hs]
  exact RN.evsT_snoc h1 (evT_one ht)
 ·intro e he
  rcases List.mem_append.1 he with he | he
  ·exact h3 e he
  ·simp at he;subst he
   have h7:=ht.1.a
   have h8:=ht.1.b
   simp only
   omega
 ·rw [rowsOf_app,rowsOf_one];exact ho
 ·simp [Value.ownBlock] at hj;subst hj
  rcases hat with hat | hat
  ·exact h6 _ hat
  ·have:=h5.size;omega
theorem EvLp.done (h:EvLp w ts B cB i wr) (hi:ts.length=i):∃ es:List AK.Ev,RN.evsT (ts.map (fun t=>t.data.toList))=some es∧es.length=i∧EvIn es∧EvRow wr B es:=by
 obtain ⟨es,h1,h2,h3,h4,h5,h6⟩:=h
 rw [List.take_of_length_le (by rw [List.length_map];omega)] at h1
 exact ⟨es,h1,h2,h3,ev_own h4 h2⟩
theorem ev_bad {s:ByteArray} (hs:ts[i]?=some s) (ht:∀ x y z:Nat,¬ IsTxt s x y z):RN.evsT (ts.map (fun t=>t.data.toList))=none:=
 RN.evsT_none (i:=i) (x:=s.data.toList) (by rw [List.getElem?_map,hs];rfl) (evT_no ht)
end
theorem addFault_le (n:Nat) (A:List AK.Ed) (a b:Int):addFault n A a b≤8:=by
 unfold addFault
 split
 ·omega
 ·split
  ·omega
  ·split
   ·omega
   ·split <;> omega
theorem FltK.le {n k:Nat} {l:List AK.Ev} {A:List AK.Ed} (h:FltK n l A k):1≤k∧k≤8:=by
 rcases h with ⟨_,rfl⟩ | ⟨_,i,V,x,y,_,_,rfl,h0⟩
 ·omega
 ·refine ⟨by omega,?_⟩
  unfold DS.flt
  split
  ·omega
  ·split
   ·exact addFault_le _ _ _ _
   ·split
    ·split <;> omega
    ·omega
def DoP (W w0:World) (q gu kb t:Nat) (A S:List AK.Ed) (s:ByteArray) (e:Ending) (w':World):Prop:=
 (∃ o A',RN.AnsR (RN.cmdDo s.data.toList) A S t o A' S t∧e=.returned (.string ⟨o.toArray⟩)∧SesA W w' q gu kb t A' S∧KeepL w0 w')∨(RN.cmdDo s.data.toList=.bad∧e=.panicked thrown∧Ext w0 w')
set_option maxRecDepth 100000 in
theorem sdo_any {W w0:World} {q gu kb t:Nat} {A S:List AK.Ed} (h:SesA W w0 q gu kb t A S) (he:RunEnv W) (s:ByteArray) (hs:s.size≤3000):Calls Tryz.prog 27 #[.pointer (some ⟨q,0,none⟩),.string s] w0 (DoP W w0 q gu kb t A S s):=by
 have H:=Lib.hid h
 have HE:=Lib.hid he
 clear h he
 go_enter Tryz.func27,Tryz.ntmps27
 go_wp2_with fail
 refine (sp_prog 44 s (by omega) _).mono ?_
 rintro e w1 ⟨ts,_,cp,rfl,h1,⟨b,rfl,hb1,hb2⟩,h3,h4⟩
 obtain ⟨m,hm⟩:∃ m,ts.length=m:=⟨_,rfl⟩
 have hmb:m≤3001:=by have:=(sp_len h1).2;omega
 have HS:Hid (ts.map (fun t=>t.data.toList)=RN.spc 44 [] s.data.toList∧StsAt w1 (some ⟨b,0,none⟩) ts∧Ext w0 w1∧ts.length=m):=⟨h1,⟨b,rfl,hb1,hb2⟩,h4,hm⟩
 rw [hm] at h3 ⊢
 clear h1 h4 hb1 hb2 hm
 go_wp2_with fail
 go_loopw [5,16] (fun v5 v16 wx=>∃ (i:Nat) (B:Option Addr) (cB:Nat),i≤m∧v5=.slice B i cB∧v16=.int .i64 (i:Int)∧Hid (EvLp w1 ts B cB i wx)) (fun _ v16 _=>m - (intOf v16).toNat)
 case atStart=>exact ⟨0,none,0,Nat.zero_le _,rfl,rfl,EvLp.start _ _⟩
 case round=>
  obtain ⟨i,B,cB,hi,rfl,rfl,HR⟩:=hrel
  have HXW:Hid (Ext w0 wr):=HS.out.2.2.1.trans HR.out.ext
  have HEW:Hid (RunEnv wr):=HE.out.ext (H.out.ext.trans HXW.out)
  by_cases hin:i < m
  ·have z1:(i:Int) < (m:Int):=by omega
   have z2:(0:Int)≤(i:Int):=by omega
   obtain ⟨x,hx⟩:∃ x,ts[i]?=some x:=⟨_,List.getElem?_eq_getElem (by rw [HS.out.2.2.2];exact hin)⟩
   have hxs:x.size≤3000:=Nat.le_trans (sp_sz HS.out.1 hx) hs
   obtain ⟨b',hb',hb1,hb2⟩:=HS.out.2.1.ext HR.out.ext
   injection hb' with hb'
   injection hb' with hb'
   subst hb'
   have c1:=hb2 i x hx
   have HX:=Lib.hid hx
   have HPS:=Lib.hid (parse_any x (by omega) wr HEW.out.errs)
   clear hx hb2 hb1
   go_wp2_with fail
   refine HPS.out.mono ?_
   rintro e w2 ⟨hx2,⟨x1,x2,x3,ht,rfl⟩ | ⟨hn,rfl⟩⟩
   ·obtain ⟨xs,hrow⟩:=HR.out.row
    have HM:=Lib.hid (fun W' (hW:Ext w2 W')=>HR.out.moved (Ext.trans hx2 hW))
    have HRW:=Lib.hid (fun W' (hW:Ext w2 W')=>own_chg hrow (Chg.of_below (Ext.trans hx2 hW)) (fun j hj=>by have:=own_lt hrow hj;omega))
    have HT:=Lib.hid ht
    clear ht hrow hx2 HPS c1
    go_wp2_with (at_builtin;refine wpList_pushS _ rfl (.tmp 29) (.tmp 31) 126 rfl 128 _ 3 24 Tryz.underlying126 infoEv3 rfl (by decide) (.slice B i cB) i xs rfl (HRW.out _ (ext_al (Ext.alloc _ _) _)) ⟨by omega,by omega⟩ [.int .i64 (x1:Int),.int .i64 (x2:Int),.int .i64 (x3:Int)] (w2.heap.size+1) rfl rfl (news_cells (by simp) _ _) (by simp [Value.oneCell']) ?_;intro g5 c5 w5 ho5 hc5 hat5 _;have HN:=Lib.hid (EvLp.push (HM.out _ (ext_al (Ext.alloc _ _) _)) (HRW.out _ (ext_al (Ext.alloc _ _) _)) HX.out HT.out ho5 hc5 hat5);clear ho5 hc5 hat5)
    go_roundw
    case rel=>exact ⟨i+1,_,_,by omega,rfl,by go_num,HN.out⟩
    case measure=>simp [intOf];omega
   ·have HP:Hid (∀ W',Ext w2 W'→DoP W w0 q gu kb t A S s (.panicked thrown) W'):=fun W' hW=>.inr ⟨by unfold RN.cmdDo;rw [←HS.out.1,ev_bad HX.out hn],rfl,HXW.out.trans (Ext.trans hx2 hW)⟩
    clear hn hx2 HPS c1
    go_wp2
    exact ⟨rfl,HP.out _ (Ext.alloc _ _)⟩
  ·obtain rfl:m=i:=by omega
   obtain ⟨es,q1,q2,q3,q4⟩:=HR.out.done HS.out.2.2.2
   have HC:Hid (RN.cmdDo s.data.toList=.doo es):=by unfold Hid RN.cmdDo;rw [←HS.out.1,q1]
   have H1:=Lib.hid (H.out.moved HXW.out)
   have c0:wr.cell? ⟨q,1,none⟩=some (.pointer (some ⟨kb,0,none⟩)):=H1.out.blk.cell 1
   have HDO:=Lib.hid (da_do H1.out.dk B m cB es q2 q4 q3)
   clear q1 q2 q3 q4
   go_wp2_with fail
   refine HDO.out.mono ?_
   rintro e w5 (⟨k,hk,rfl,hx5⟩ | ⟨A',xs,hdn,Ao,co,rfl,ho,hbk,hd5,hc5⟩)
   ·have hk8:=hk.le
    have HP:Hid (∀ W',Ext w5 W'→DoP W w0 q gu kb t A S s (.returned (.string ⟨(RN.nameOf k).toArray⟩)) W'):=fun W' hW=>.inl ⟨_,A,by rw [HC.out];exact ⟨rfl,rfl,.inl ⟨k,hk,rfl,rfl⟩⟩,rfl,H1.out.moved (Ext.trans hx5 hW),KeepL.of_ext (HXW.out.trans (Ext.trans hx5 hW))⟩
    have HE5:Hid (RunEnv w5):=HEW.out.ext hx5
    clear hk hx5 HDO c0
    go_wp2_with fail
    refine (words_bool _ _ none 0 0 [] rfl (by omega) (.inl rfl) RN.boolW ⟨#[111,107]⟩ enYes (fun x hx=>by simp at hx) (fun x hx=>by simp at hx)).mono ?_
    rintro e w6 ⟨rfl,hx6⟩
    have HX6:=Lib.hid hx6
    clear hx6
    go_wp2_with fail
    refine (answer_err _ k hk8.2 _ (HE5.out.ext HX6.out).door).mono ?_
    rintro e w7 ⟨rfl,hx7⟩
    have HX7:=Lib.hid hx7
    clear hx7
    go_wp2
    go_ret
    exact HP.out _ (HX6.out.trans HX7.out)
   ·have hxl:xs.length≤120:=hdn.len
    have HP:Hid (∀ W',Ext w5 W'→DoP W w0 q gu kb t A S s (.returned (.string ⟨(RN.wordsT RN.tOk (xs.map RN.boolW)).toArray⟩)) W'):=fun W' hW=>.inl ⟨_,A',by rw [HC.out];exact ⟨rfl,rfl,.inr ⟨xs,hdn,rfl⟩⟩,rfl,⟨blk_ext (blk_do H1.out.blk H1.out.dk.blk.choose_spec (by decide) hc5) hW,hd5.moved hW,H1.out.new⟩,
     (KeepL.of_ext HXW.out).trans ((KeepL.one H1.out.dk.blk.choose_spec (.inr (.inr (.inr (.inr (.inl rfl))))) hc5).trans (KeepL.of_ext hW))⟩
    have hB:=(BoolsAt.of_own (show w5.ownsRow 0 4 1 (.slice Ao xs.length co) xs.length (xs.map Value.bool) from ho)).1
    have HW:=Lib.hid (words_bool 74 w5 Ao xs.length co xs rfl (by omega) hB RN.boolW ⟨#[111,107]⟩ enYes (fun x _ W' _=>yes_any x W') (fun x _=>by cases x <;> simp [RN.boolW]))
    obtain ⟨o,ho2⟩:∃ o,RN.wordsT RN.tOk (xs.map RN.boolW)=o:=⟨_,rfl⟩
    have HO2:Hid (RN.wordsT (⟨#[111,107]⟩:ByteArray).data.toList (xs.map RN.boolW)=o):=ho2
    rw [ho2] at HP
    rw [HO2.out] at HW
    clear hdn ho hbk hd5 hc5 HDO c0 hB ho2
    go_wp2_with fail
    refine HW.out.mono ?_
    rintro e w6 ⟨rfl,hx6⟩
    have HX6:=Lib.hid hx6
    clear hx6
    go_wp2_with fail
    refine (answer_ok _ _).mono ?_
    rintro e w7 ⟨rfl,hx7⟩
    have HX7:=Lib.hid hx7
    clear hx7
    go_wp2
    go_ret
    exact HP.out _ (HX6.out.trans HX7.out)
end Go.Proofs.YtkoajpeabicpdaaGreatDoor
