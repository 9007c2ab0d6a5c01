/-
Walk of desk.build: a graph of edges that rise. Condition: the edges lie in memory as 'EdsAt' says.
-/
import Derived.Test.YtkoajpeabicpdaaGreatDoorBs21
import Derived.Test.YtkoajpeabicpdaaGreatDoorBs22
import Derived.Deep.RegionHeld3
import Derived.Test.YtkoajpeabicpdaaGreatDoorBs5
import Derived.Test.YtkoajpeabicpdaaGreatDoorBs8
set_option linter.unusedVariables false
set_option maxHeartbeats 8000000
namespace Go.Proofs.YtkoajpeabicpdaaGreatDoor
open Go Go.RowKit SQ TR DF PD PT
def BuPost (w:World) (n:Nat) (l:List AK.Ed) (e:Ending) (w':World):Prop:=∃ (G:GrP) (f:AK.Ed→GM.St),e=.returned (.tuple #[.pointer (some ⟨G.gb,0,none⟩),.nilIface])∧GcS w w' G n (n+2 * l.length) l f
def BuR (w wr:World) (g0 n:Nat) (l:List AK.Ed) (k:Nat):Prop:=∃ (G:GrP) (f:AK.Ed→GM.St) (B:List AK.Ed),G.gb=g0∧GcS w wr G n (n+2 * k) B f∧(∀ x,x∈B↔x∈l.take k)∧B.length=k
section
variable {w wr w':World} {g0 n k:Nat} {l:List AK.Ed}
theorem BuR.moved (h:BuR w wr g0 n l k) (hx:Ext wr w'):BuR w w' g0 n l k:=by
 obtain ⟨G,f,B,h1,h2,h3⟩:=h
 exact ⟨G,f,B,h1,h2.moved hx,h3⟩
theorem BuR.ext (h:BuR w wr g0 n l k):Ext w wr:=by
 obtain ⟨G,f,B,h1,h2,h3⟩:=h
 exact h2.ext
theorem BuR.add (h:BuR w wr g0 n l k) (hn:n≤60) (hk:k < 200) (hup:l.Pairwise ltE) {u v:Nat} (huv:u < v) (hvn:v < n) (hx:l[k]?=some ((u:Int),(v:Int))):
  Calls Tryz.prog 68 #[.pointer (some ⟨g0,0,none⟩),.int .i64 u,.int .i64 v] wr fun e w'=>e=.returned .nilIface∧BuR w w' g0 n l (k+1):=by
 obtain ⟨G,f,B,rfl,h2,h3,h4⟩:=h
 have hek:AK.ek (u:Int) v=((u:Int),(v:Int)):=by unfold AK.ek;rw [Int.min_eq_left (by omega),Int.max_eq_right (by omega)]
 have e:l.take (k+1)=l.take k++[((u:Int),(v:Int))]:=by rw [List.take_add_one,hx];rfl
 have hnew:AK.ek (u:Int) v ∉ B:=fun q=>by
  rw [hek] at q
  have h1:(l.take (k+1)).Nodup:=(List.take_sublist _ l).nodup (rises_nodup hup)
  rw [e,List.nodup_append] at h1
  exact h1.2.2 _ ((h3 _).1 q) _ (by simp) rfl
 refine (gadd_ok h2.at_ (by omega) u v (by omega) hvn (by omega) hnew (by omega)).mono ?_
 rintro e' w' ⟨s,rfl,q1,q2⟩
 refine ⟨rfl,G,_,_,rfl,h2.step q1 q2,fun y=>?_,by rw [putE_length,h4]⟩
 rw [putE_mem,h3,e,List.mem_append,List.mem_singleton,hek]
 exact Or.comm
theorem BuR.end_ (h:BuR w wr g0 n l l.length) (hup:l.Pairwise ltE):∃ (G:GrP) (f:AK.Ed→GM.St),G.gb=g0∧GcS w wr G n (n+2 * l.length) l f:=by
 obtain ⟨G,f,B,h1,h2,h3,h4⟩:=h
 have:B=l:=rises_ext h2.at_.k.up hup fun y=>by rw [h3,List.take_length]
 subst this
 exact ⟨G,f,h1,h2⟩
end
set_option maxRecDepth 100000 in
theorem build_ok (w:World) (n:Nat) (hn:1≤n∧n≤60) (A:Option Addr) (m c:Nat) (l:List AK.Ed) (hl:l.length=m) (hm:m≤200) (hE:EdsAt w A l) (hok:∀ x∈l,0≤x.1∧x.1 < x.2∧x.2 < (n:Int)) (hup:l.Pairwise ltE):
  Calls Tryz.prog 22 #[.int .i64 n,.slice A m c] w (BuPost w n l):=by
 have HE:=Lib.hid hE
 have HL:=Lib.hid hl
 have HOK:=Lib.hid hok
 have HUP:=Lib.hid hup
 clear hE hl hok hup
 go_enter Tryz.func22,Tryz.ntmps22
 go_wp2_with fail
 refine (gnew_ok w n hn).mono ?_
 intro e w1 hp
 obtain ⟨G,rfl,hgc,hx1⟩:=GcS.made (Ext.refl w) hp
 obtain ⟨g0,hg0⟩:∃ g,G.gb=g:=⟨_,rfl⟩
 have R0:Hid (BuR w w1 g0 n l 0):=⟨G,_,[],hg0,hgc,fun x=>by simp,rfl⟩
 rw [hg0]
 clear hp hgc hx1 hg0
 go_wp2
 go_loopw [21] (fun v21 wr=>∃ k:Nat,k≤m∧v21=.int .i64 k∧Hid (BuR w wr g0 n l k)) (fun v21 _=>m - (intOf v21).toNat)
 case atStart=>exact ⟨0,Nat.zero_le _,rfl,R0.out⟩
 case round=>
  obtain ⟨k,hk,rfl,HR⟩:=hrel
  clear R0
  by_cases hlt:k < m
  ·obtain ⟨b,o,rfl,hb,x,hx,g1,g2⟩:=eds_at (HE.out.ext HR.out.ext) (show k < l.length by rw [HL.out];exact hlt)
   have hxo:=HOK.out x (List.mem_of_getElem? hx)
   obtain ⟨u,hu⟩:=Int.eq_ofNat_of_zero_le hxo.1
   obtain ⟨v,hv⟩:=Int.eq_ofNat_of_zero_le (show 0≤x.2 by omega)
   obtain rfl:x=((u:Int),(v:Int)):=Prod.ext hu hv
   simp only at g1 g2 hxo
   have HXX:Hid (l[k]?=some ((u:Int),(v:Int))):=hx
   have huv:u < v:=by omega
   have hvn:v < n:=by omega
   have z0:(0:Int)≤(k:Int):=by omega
   have z1:(k:Int) < (m:Int):=by omega
   clear hx hu hv hxo
   go_wp2_with fail
   have H3:=Lib.hid (HR.out.moved (Ext.alloc wr (.cells #[.int .i64 (u:Nat),.int .i64 (v:Nat)] 93)))
   refine (H3.out.add hn.2 (by omega) HUP.out huv hvn HXX.out).mono ?_
   rintro e w4 ⟨rfl,h4⟩
   have HN:=Lib.hid h4
   clear h4 H3 HR HXX g1 g2
   go_wp2
   go_roundw
   case rel=>exact ⟨k+1,by omega,by go_num,HN⟩
   case measure=>simp [intOf];omega
  ·obtain rfl:k=m:=by omega
   have HP:Hid (∃ (G:GrP) (f:AK.Ed→GM.St),G.gb=g0∧GcS w wr G n (n+2 * l.length) l f):=by
    have h:=HR.out
    rw [←HL.out] at h
    exact h.end_ HUP.out
   clear HR
   go_wp2
   go_ret2
   obtain ⟨G,f,hG,h⟩:=HP.out
   exact ⟨G,f,congrArg (fun z=>Ending.returned (.tuple #[.pointer (some ⟨z,0,none⟩),.nilIface])) hG.symm,h⟩
def DgPost (w:World) (n:Nat) (l:List AK.Ed) (e:Ending) (w':World):Prop:=∃ (G:GrP) (f:AK.Ed→GM.St),e=.returned (.pointer (some ⟨G.gb,0,none⟩))∧GcS w w' G n (n+2 * l.length) l f
def dkC (gs g0 n:Nat):Array Value:=#[.pointer (some ⟨gs,0,none⟩),.pointer (some ⟨g0,0,none⟩),.int .i64 n]
set_option maxRecDepth 100000 in
theorem dgraph_any (w:World) (kb gs n N:Nat) (G:GrP) (l:List AK.Ed) (f:AK.Ed→GM.St) (hb:Blk w kb 71 (dkC gs G.gb n)) (h:GrI w G n N l f) (hl:l.length≤200):
  Calls Tryz.prog 30 #[.pointer (some ⟨kb,0,none⟩)] w (DgPost w n l):=by
 have hbl:=hb.lt
 have HGE:Hid (∀ W,Ext w W→Calls Tryz.prog 37 #[.pointer (some ⟨G.gb,0,none⟩)] W (EdgesPost W l)):=fun W hW=>gedges_any (h.ext hW).m h.k.ok h.k.up hl
 have HC:Hid (∀ W,Ext w W→Ext w W∧W.cell? ⟨kb,1,none⟩=some (.pointer (some ⟨G.gb,0,none⟩))∧W.cell? ⟨kb,2,none⟩=some (.int .i64 (n:Nat))):=fun W hW=>⟨hW,(hW.cell (p:=⟨kb,1,none⟩) hbl).trans (hb.cell 1),(hW.cell (p:=⟨kb,2,none⟩) hbl).trans (hb.cell 2)⟩
 have HBU:Hid (∀ W A c,EdsAt W A l→Calls Tryz.prog 22 #[.int .i64 n,.slice A l.length c] W (BuPost W n l)):=fun W A c hE=>build_ok W n h.m.hn A l.length c l rfl hl hE h.k.ok h.k.up
 have c1:=(HC.out w (Ext.refl w)).2.1
 have c2:=(HC.out w (Ext.refl w)).2.2
 clear h hb
 go_enter Tryz.func30,Tryz.ntmps30
 go_wp2
 go_region_held3 (fun W=>Ext w W∧W.cell? ⟨kb,1,none⟩=some (.pointer (some ⟨G.gb,0,none⟩))∧W.cell? ⟨kb,2,none⟩=some (.int .i64 (n:Nat)))
  (exact HC.out _ (by first | exact Ext.drew _ | assumption | exact fst_ (by assumption) | exact Ext.trans (fst_ (by assumption)) (by assumption)))
  (first
   | (go_at_call 37;refine (HGE.out _ (Ext.drew _)).mono ?_;rintro e w4 ⟨A4,c4,rfl,hd4,hx4,_⟩;have hF4:Ext w w4:=Ext.trans (Ext.drew _) hx4;have HE4:=Lib.hid (DRow.eds hd4 rfl).1;clear hd4 hx4)
   | (go_at_call 22;refine (HBU.out _ _ _ HE4.out).mono ?_;rintro e w5 ⟨G5,f5,rfl,h5⟩;have hF5:Ext w w5:=Ext.trans hF4 h5.ext;have H5:=Lib.hid h5;clear h5)
   | fail)
 rename_i hHeld
 have HN:Hid (GcS w w5 G5 n (n+2 * l.length) l f5):=⟨H5.out.at_,hF5,fun k hk=>Nat.le_trans hF4.size (H5.out.new k hk)⟩
 clear hHeld
 go_wp2
 go_ret
 exact ⟨G5,f5,rfl,HN.out⟩
namespace DS
def flt (n:Nat) (A:List AK.Ed) (W x y:Int):Nat:=
 if W < 1∨3 < W∨¬ (0≤x∧x < n)∨¬ (0≤y∧y < n) then 1
 else if W=1 then addFault n A x y
 else if W=2 then (if AK.ek x y∈A then 0 else 4)
 else 0
def nxt (A:List AK.Ed) (W x y:Int):List AK.Ed:=if W=1 then putE (AK.ek x y) A else if W=2 then cutE (AK.ek x y) A else A
end DS
def ActPost (wr:World) (G:GrP) (n N:Nat) (A:List AK.Ed) (W x y:Int) (e:Ending) (w':World):Prop:=
 ∃ b:Bool,e=.returned (.tuple #[.bool b,errOf (DS.flt n A W x y:Nat)])∧(DS.flt n A W x y=0→W=3→(b=true↔Cn (adj A) x.toNat y.toNat))∧
  ∃ (G':GrP) (f':AK.Ed→GM.St),GrI w' G' n (N+4000) (if DS.flt n A W x y=0 then DS.nxt A W x y else A) f'∧GrC wr w' G G'
def actF (W:Int):Nat:=if W=1 then 147 else if W=2 then 148 else if W=3 then 150 else 152
section
variable {wr w':World} {G:GrP} {n N:Nat} {A:List AK.Ed} {f:AK.Ed→GM.St}
theorem act_add (h:GrI wr G n N A f) (hN:N+4000 < 1000000) (x y:Int) (hx:-9223372036854775808≤x∧x≤9223372036854775807) (hy:-9223372036854775808≤y∧y≤9223372036854775807):
  Calls Tryz.prog 68 #[.pointer (some ⟨G.gb,0,none⟩),.int .i64 x,.int .i64 y] wr fun e w'=>e=.returned (errOf (DS.flt n A 1 x y:Nat))∧∃ (G':GrP) (f':AK.Ed→GM.St),GrI w' G' n (N+4000) (if DS.flt n A 1 x y=0 then DS.nxt A 1 x y else A) f'∧GrC wr w' G G':=by
 have hf:DS.flt n A 1 x y=addFault n A x y:=by
  unfold DS.flt
  by_cases hv:¬ (0≤x∧x < (n:Int))∨¬ (0≤y∧y < (n:Int))
  ·rw [if_pos (.inr (.inr hv))];unfold addFault;rw [if_pos hv]
  ·rw [if_neg (by omega),if_pos rfl]
 rw [hf]
 refine (gadd_any h (by omega) x y hx hy).mono ?_
 rintro e w' (⟨k,hk,hk0,rfl,hx'⟩ | ⟨hk,s,rfl,h1,h2⟩)
 ·rw [hk,if_neg hk0]
  exact ⟨by rw [errOf_ne (by omega)],G,f,(h.ext hx').mono (by omega),GrC.of_ext hx' G⟩
 ·rw [hk,if_pos rfl]
  exact ⟨rfl,G,_,h1.mono (by omega),h2⟩
theorem act_drop (h:GrI wr G n N A f) (hN:N+4000 < 1000000) (hl:A.length≤200) (x y:Int):
  Calls Tryz.prog 149 #[.pointer (some ⟨G.gb,0,none⟩),.int .i64 x,.int .i64 y] wr fun e w'=>e=.returned (errOf (DS.flt n A 2 x y:Nat))∧∃ (G':GrP) (f':AK.Ed→GM.St),GrI w' G' n (N+4000) (if DS.flt n A 2 x y=0 then DS.nxt A 2 x y else A) f'∧GrC wr w' G G':=by
 refine (gdrop_any h hN hl x y).mono ?_
 rintro e w' (⟨hv,rfl,hx'⟩ | ⟨hx,hy,hm,rfl,hx'⟩ | ⟨hx,hy,hm,G',f',rfl,h1,h2,_⟩)
 ·have hf:DS.flt n A 2 x y=1:=by unfold DS.flt;rw [if_pos (.inr (.inr hv))]
  rw [hf,if_neg (by decide)]
  exact ⟨rfl,G,f,(h.ext hx').mono (by omega),GrC.of_ext hx' G⟩
 ·have hf:DS.flt n A 2 x y=4:=by unfold DS.flt;rw [if_neg (by omega),if_neg (by decide),if_pos rfl,if_neg hm]
  rw [hf,if_neg (by decide)]
  exact ⟨rfl,G,f,(h.ext hx').mono (by omega),GrC.of_ext hx' G⟩
 ·have hf:DS.flt n A 2 x y=0:=by unfold DS.flt;rw [if_neg (by omega),if_neg (by decide),if_pos rfl,if_pos hm]
  rw [hf,if_pos rfl]
  exact ⟨rfl,G',f',h1,h2⟩
theorem act_ask (h:GrI wr G n N A f) (x y:Int):
  Calls Tryz.prog 151 #[.pointer (some ⟨G.gb,0,none⟩),.int .i64 x,.int .i64 y] wr fun e w'=>∃ b:Bool,e=.returned (.tuple #[.bool b,errOf (DS.flt n A 3 x y:Nat)])∧(DS.flt n A 3 x y=0→(b=true↔Cn (adj A) x.toNat y.toNat))∧Ext wr w':=by
 by_cases hv:¬ (0≤x∧x < (n:Int))∨¬ (0≤y∧y < (n:Int))
 ·have hf:DS.flt n A 3 x y=1:=by unfold DS.flt;rw [if_pos (.inr (.inr hv))]
  rw [hf]
  refine (gjoined_range h.m x y hv).mono ?_
  rintro e w' ⟨rfl,rfl⟩
  exact ⟨false,rfl,fun q=>absurd q (by decide),Ext.refl _⟩
 ·have hf:DS.flt n A 3 x y=0:=by unfold DS.flt;rw [if_neg (by omega),if_neg (by decide),if_neg (by decide)]
  rw [hf]
  obtain ⟨x,rfl⟩:=Int.eq_ofNat_of_zero_le (show 0≤x by omega)
  obtain ⟨y,rfl⟩:=Int.eq_ofNat_of_zero_le (show 0≤y by omega)
  obtain ⟨t,ht⟩:∃ t:Bool,t=true↔Cn (adj A) x y:=by classical exact ⟨decide (Cn (adj A) x y),by simp⟩
  refine (gjoined_ok h.m x y (by omega) (by omega) t (ht.trans h.k.joins)).mono ?_
  rintro e w' ⟨rfl,hx'⟩
  exact ⟨t,rfl,fun _=>ht,hx'⟩
theorem GrI.boxed (h:GrI wr G n N A f) (o:Obj):GrI (wr.alloc o) G n N A f:=h.ext (Ext.alloc wr o)
theorem act_any (h:GrI wr G n N A f) (hN:N+4000 < 1000000) (hl:A.length≤200) (W x y:Int) (hx:-9223372036854775808≤x∧x≤9223372036854775807) (hy:-9223372036854775808≤y∧y≤9223372036854775807):
  Calls Tryz.prog (actF W) #[.pointer (some ⟨G.gb,0,none⟩),.agg #[.int .i64 W,.int .i64 x,.int .i64 y]] wr (ActPost wr G n N A W x y):=by
 by_cases h1:W=1
 ·subst h1
  have HA:=Lib.hid (act_add (h.boxed (.cells #[.int .i64 1,.int .i64 x,.int .i64 y] 128)) hN x y hx hy)
  show Calls Tryz.prog 147 _ _ _
  go_enter Tryz.func147,Tryz.ntmps147
  go_wp2_with fail
  refine HA.out.mono ?_
  rintro e w4 ⟨rfl,G4,f4,h4,hc4⟩
  have H4:=Lib.hid h4
  have C4:=Lib.hid (GrC.pre (Ext.alloc wr _) hc4)
  clear h4 hc4
  go_wp2
  go_ret2
  exact ⟨false,rfl,fun _ q=>absurd q (by decide),G4,f4,H4.out,C4.out⟩
 by_cases h2:W=2
 ·subst h2
  have HA:=Lib.hid (act_drop (h.boxed (.cells #[.int .i64 2,.int .i64 x,.int .i64 y] 128)) hN hl x y)
  show Calls Tryz.prog 148 _ _ _
  go_enter Tryz.func148,Tryz.ntmps148
  go_wp2_with fail
  refine HA.out.mono ?_
  rintro e w4 ⟨rfl,G4,f4,h4,hc4⟩
  have H4:=Lib.hid h4
  have C4:=Lib.hid (GrC.pre (Ext.alloc wr _) hc4)
  clear h4 hc4
  go_wp2
  go_ret2
  exact ⟨false,rfl,fun _ q=>absurd q (by decide),G4,f4,H4.out,C4.out⟩
 by_cases h3:W=3
 ·subst h3
  have HA:=Lib.hid (act_ask (h.boxed (.cells #[.int .i64 3,.int .i64 x,.int .i64 y] 128)) x y)
  have HB:=Lib.hid (h.boxed (.cells #[.int .i64 3,.int .i64 x,.int .i64 y] 128))
  show Calls Tryz.prog 150 _ _ _
  go_enter Tryz.func150,Tryz.ntmps150
  go_wp2_with fail
  refine HA.out.mono ?_
  rintro e w4 ⟨b,rfl,hb,h4⟩
  have H4:Hid ((DS.flt n A 3 x y=0→(b=true↔Cn (adj A) x.toNat y.toNat))∧GrI w4 G n (N+4000) (if DS.flt n A 3 x y=0 then DS.nxt A 3 x y else A) f∧GrC wr w4 G G):=by
   refine ⟨hb,?_,GrC.of_ext ((Ext.alloc wr _).trans h4) G⟩
   have e:(if DS.flt n A 3 x y=0 then DS.nxt A 3 x y else A)=A:=by
    have:DS.nxt A 3 x y=A:=by unfold DS.nxt;rw [if_neg (by decide),if_neg (by decide)]
    rw [this,ite_self]
   rw [e]
   exact (HB.out.ext h4).mono (by omega)
  clear h4 hb
  go_wp2
  go_ret2
  exact ⟨b,rfl,fun q _=>H4.out.1 q,G,f,H4.out.2.1,H4.out.2.2⟩
 ·have hf:DS.flt n A W x y=1:=by unfold DS.flt;rw [if_pos (by omega)]
  have HB:Hid (ActPost wr G n N A W x y (.returned (.tuple #[.bool false,errOf ((1:Nat):Int)])) (wr.alloc (.cells #[.int .i64 W,.int .i64 x,.int .i64 y] 128))):=by
   refine ⟨false,by rw [hf],fun q=>?_,G,f,?_,GrC.of_ext (Ext.alloc wr _) G⟩
   ·rw [hf] at q;exact absurd q (by decide)
   ·rw [hf,if_neg (by decide)];exact (h.boxed _).mono (by omega)
  have ha:actF W=152:=by unfold actF;rw [if_neg h1,if_neg h2,if_neg h3]
  rw [ha]
  clear hf ha h1 h2 h3 h
  go_enter Tryz.func152,Tryz.ntmps152
  go_wp2
  go_ret2
  exact HB.out
theorem of_act (w:World) (W x y:Int):Calls Tryz.prog 115 #[.agg #[.int .i64 W,.int .i64 x,.int .i64 y]] w fun e w'=>e=.returned (.func (.func (actF W)) #[] #[])∧Ext w w':=by
 by_cases h1:W=1
 ·subst h1
  go_enter Tryz.func115,Tryz.ntmps115
  go_wp2
  go_ret
  exact ⟨rfl,Ext.alloc _ _⟩
 by_cases h2:W=2
 ·subst h2
  go_enter Tryz.func115,Tryz.ntmps115
  go_wp2
  go_ret
  exact ⟨rfl,Ext.alloc _ _⟩
 by_cases h3:W=3
 ·subst h3
  go_enter Tryz.func115,Tryz.ntmps115
  go_wp2
  go_ret
  exact ⟨rfl,Ext.alloc _ _⟩
 ·have ha:actF W=152:=by unfold actF;rw [if_neg h1,if_neg h2,if_neg h3]
  rw [ha]
  have q1:(W == 1)=false:=by simpa using h1
  have q2:(W == 2)=false:=by simpa using h2
  have q3:(W == 3)=false:=by simpa using h3
  clear ha h1 h2 h3
  go_enter Tryz.func115,Tryz.ntmps115
  go_wp2
  go_ret
  exact ⟨rfl,Ext.alloc _ _⟩
end
end Go.Proofs.YtkoajpeabicpdaaGreatDoor
namespace Go.Proofs.YtkoajpeabicpdaaGreatDoor
namespace DS
open AK UF DF PD TR
noncomputable def ansB (A:List AK.Ed) (x y:Int):Bool:=by classical exact decide (Cn (adj A) x.toNat y.toNat)
theorem ansB_iff {A:List AK.Ed} {x y:Int} {b:Bool} (h:b=true↔Cn (adj A) x.toNat y.toNat):b=ansB A x y:=by
 unfold ansB
 classical
 cases b with
 | true=>simpa using h.1 rfl
 | false=>symm;rw [decide_eq_false_iff_not];exact fun c=>by have:=h.2 c;cases this
noncomputable def out1 (A:List AK.Ed) (e:AK.Ev):List Bool:=if e.w=3 then [ansB A e.a e.b] else []
noncomputable def run (n:Nat) (l:List AK.Ev) (A:List AK.Ed):Nat→List AK.Ed × List Bool
 | 0=>(A,[])
 | i+1=>match l[i]? with
  | none=>run n l A i
  | some e=>(nxt (run n l A i).1 e.w e.a e.b,(run n l A i).2++out1 (run n l A i).1 e)
def Okay (n:Nat) (l:List AK.Ev) (A:List AK.Ed) (i:Nat):Prop:=∀ j e,j < i→l[j]?=some e→flt n (run n l A j).1 e.w e.a e.b=0
section
variable {n i:Nat} {l:List AK.Ev} {A:List AK.Ed} {e:AK.Ev}
theorem Okay.zero (n:Nat) (l:List AK.Ev) (A:List AK.Ed):Okay n l A 0:=fun j e h=>absurd h (Nat.not_lt_zero _)
theorem Okay.next (h:Okay n l A i) (he:l[i]?=some e) (hf:flt n (run n l A i).1 e.w e.a e.b=0):Okay n l A (i+1):=fun j d hj hd=>by
 rcases Nat.lt_succ_iff_lt_or_eq.1 hj with q | q
 ·exact h j d q hd
 ·subst q
  rw [he] at hd
  injection hd with hd
  subst hd
  exact hf
theorem run_next (he:l[i]?=some e):run n l A (i+1)=(nxt (run n l A i).1 e.w e.a e.b,(run n l A i).2++out1 (run n l A i).1 e):=by
 rw [run,he]
theorem run_ans (he:l[i]?=some e):(run n l A (i+1)).2.length≤(run n l A i).2.length+1:=by
 rw [run_next he]
 simp only [List.length_append]
 unfold out1
 split <;> simp
theorem run_len:∀ i,(run n l A i).2.length≤i
 | 0=>Nat.le_refl _
 | i+1=>by
  cases h:l[i]? with
  | none=>rw [run,h];exact Nat.le_succ_of_le (run_len i)
  | some e=>exact Nat.le_trans (run_ans h) (Nat.succ_le_succ (run_len i))
end
end DS
end Go.Proofs.YtkoajpeabicpdaaGreatDoor
namespace Go.Proofs.YtkoajpeabicpdaaGreatDoor
open Go Go.RowKit SQ TR DF PD PT
def EvRow (w:World) (A:Option Addr) (l:List AK.Ev):Prop:=l=[]∨∃ b off,A=some ⟨b,off,none⟩∧b < w.heap.size∧∀ (i:Nat) (e:AK.Ev),l[i]?=some e→w.cell? ⟨b,off+i * 3,none⟩=some (.int .i64 e.w)∧w.cell? ⟨b,off+i * 3+1,none⟩=some (.int .i64 e.a)∧w.cell? ⟨b,off+i * 3+2,none⟩=some (.int .i64 e.b)
def EvIn (l:List AK.Ev):Prop:=∀ e∈l,(-9223372036854775808≤e.a∧e.a≤9223372036854775807)∧(-9223372036854775808≤e.b∧e.b≤9223372036854775807)
theorem EvRow.ext {w w':World} {A:Option Addr} {l:List AK.Ev} (h:EvRow w A l) (hx:Ext w w'):EvRow w' A l:=by
 rcases h with h | ⟨b,off,rfl,hl,he⟩
 ·exact .inl h
 ·exact .inr ⟨b,off,rfl,Nat.lt_of_lt_of_le hl hx.size,fun i e hi=>⟨(hx.cell (p:=⟨b,_,none⟩) hl).trans (he i e hi).1,(hx.cell (p:=⟨b,_,none⟩) hl).trans (he i e hi).2.1,(hx.cell (p:=⟨b,_,none⟩) hl).trans (he i e hi).2.2⟩⟩
theorem EvRow.at_ {w:World} {A:Option Addr} {l:List AK.Ev} {i:Nat} (h:EvRow w A l) (hi:i < l.length):∃ (b off:Nat) (W x y:Int),A=some ⟨b,off,none⟩∧l[i]?=some ⟨W,x,y⟩∧w.cell? ⟨b,off+i * 3,none⟩=some (.int .i64 W)∧w.cell? ⟨b,off+i * 3+1,none⟩=some (.int .i64 x)∧w.cell? ⟨b,off+i * 3+2,none⟩=some (.int .i64 y):=by
 rcases h with h | ⟨b,off,rfl,hb,hc⟩
 ·subst h;simp at hi
 ·have hx:=List.getElem?_eq_getElem hi
  exact ⟨b,off,l[i].w,l[i].a,l[i].b,rfl,hx,hc i _ hx⟩
theorem infoB:(Tryz.prog.info? 4).map (fun i=>(i.zero,i.size,i.bytes))=some (some (.bool false),1,1):=by kernel_rfl
def bolV (xs:List Bool):List Value:=xs.map Value.bool
structure DoR (w wr:World) (g0 n N:Nat) (A:List AK.Ed) (vO:Value) (xs:List Bool):Prop where
 g:∃ (G:GrP) (f:AK.Ed→GM.St),G.gb=g0∧GcS w wr G n N A f
 row:wr.ownsRow 0 4 1 vO xs.length (bolV xs)
 new:∀ j,vO.ownBlock=some j→w.heap.size≤j
section
variable {w wr w' W w5:World} {g0 n N N' g c:Nat} {A A':List AK.Ed} {vO:Value} {xs:List Bool} {b:Bool}
theorem own_blkB {w:World} {base:Nat} {e:TypeId} {size n:Nat} {v:Value} {xs:List Value} (h:w.ownsRow base e size v n xs) {k:Nat} (hk:v.ownBlock=some k):∃ cs,Blk w k e cs:=by
 rcases h.2 with ⟨rfl,_⟩ | ⟨g,cap,cur,rfl,_,hg,_⟩
 ·simp [Value.ownBlock] at hk
 ·simp [Value.ownBlock] at hk;subst hk;exact ⟨_,hg⟩
theorem DoR.moved (h:DoR w wr g0 n N A vO xs) (hx:Ext wr w'):DoR w w' g0 n N A vO xs:=by
 obtain ⟨G,f,h1,h2⟩:=h.g
 exact ⟨⟨G,f,h1,h2.moved hx⟩,own_chg h.row (Chg.of_below hx) (fun k hk=>by have:=own_lt h.row hk;omega),h.new⟩
theorem DoR.ext (h:DoR w wr g0 n N A vO xs):Ext w wr:=by obtain ⟨G,f,_,h2⟩:=h.g;exact h2.ext
theorem DoR.push (h:DoR w wr g0 n N A vO xs) (hW:Ext wr W) (ho:w5.ownsRow 0 4 1 (.slice (some ⟨g,0,none⟩) (xs.length+1) c) (xs.length+1) (bolV xs++[.bool b])) (hc:Chg (fun j=>vO.ownBlock=some j) W w5) (hat:vO.ownBlock=some g∨g=W.heap.size):
  DoR w w5 g0 n N A (.slice (some ⟨g,0,none⟩) (xs.length+1) c) (xs++[b]):=by
 have h1:=h.moved hW
 obtain ⟨G,f,hG,gg⟩:=h1.g
 have off:∀ k,vO.ownBlock=some k→¬ G.T k:=fun k hk=>by
  obtain ⟨cs,hb⟩:=own_blkB h1.row hk
  exact gg.at_.m.notyp (by decide) hb
 refine ⟨⟨G,f,hG,⟨gg.at_.m.chg hc (fun k hk hs=>off k hs (.inl hk)) (fun i F hi hs=>off _ hs (.inr ⟨i,F,hi,rfl⟩)) (fun k hk cs hb=>own_ne h1.row hb (by decide) hk),gg.at_.k,gg.at_.few,gg.at_.nN⟩,gg.ext.chg_new hc (fun k hk=>h.new k hk),gg.new⟩,?_,fun j hj=>?_⟩
 ·unfold bolV at ho ⊢
  rw [List.length_append,List.map_append]
  exact ho
 ·obtain rfl:g=j:=by simpa [Value.ownBlock] using hj
  rcases hat with hat | hat
  ·exact h.new _ hat
  ·have:=gg.ext.size;omega
theorem DoR.rowq {q:Nat} (h:DoR w wr g0 n N A vO xs) (hq:xs.length=q):wr.ownsRow 0 4 1 vO q (bolV xs):=by subst hq;exact h.row
theorem DoR.pushq {q:Nat} (h:DoR w wr g0 n N A vO xs) (hq:xs.length=q) (hW:Ext wr W) (ho:w5.ownsRow 0 4 1 (.slice (some ⟨g,0,none⟩) (q+1) c) (q+1) (bolV xs++[.bool b])) (hc:Chg (fun j=>vO.ownBlock=some j) W w5) (hat:vO.ownBlock=some g∨g=W.heap.size):
  DoR w w5 g0 n N A (.slice (some ⟨g,0,none⟩) (q+1) c) (xs++[b]):=by subst hq;exact h.push hW ho hc hat
theorem DoR.act (h:DoR w wr g0 n N A vO xs) (hN:N+4000 < 1000000) (hl:A.length≤200) (V x y:Int) (hx:-9223372036854775808≤x∧x≤9223372036854775807) (hy:-9223372036854775808≤y∧y≤9223372036854775807):
  Calls Tryz.prog (actF V) #[.pointer (some ⟨g0,0,none⟩),.agg #[.int .i64 V,.int .i64 x,.int .i64 y]] wr fun e w'=>∃ b:Bool,e=.returned (.tuple #[.bool b,errOf (DS.flt n A V x y:Nat)])∧(DS.flt n A V x y=0→V=3→b=DS.ansB A x y)∧
   (DS.flt n A V x y=0→DoR w w' g0 n (N+4000) (DS.nxt A V x y) vO xs)∧(∀ k cs,Blk wr k 128 cs→Blk w' k 128 cs)∧Ext w w':=by
 obtain ⟨G,f,rfl,h2⟩:=h.g
 have off:∀ k,vO.ownBlock=some k→¬ G.T k:=fun k hk=>by
  obtain ⟨cs,hb⟩:=own_blkB h.row hk
  exact h2.at_.m.notyp (by decide) hb
 refine (act_any h2.at_ hN hl V x y hx hy).mono ?_
 rintro e w' ⟨b,rfl,hb,G',f',q1,q2⟩
 refine ⟨b,rfl,fun hf hV=>DS.ansB_iff (hb hf hV),fun hf=>?_,fun k cs hb=>hb.chg q2.chg (fun hs=>h2.at_.m.notyp (by decide) hb (.inl hs)),h2.ext.chg_new q2.chg (fun k hk=>h2.new k (.inl hk))⟩
 rw [if_pos hf] at q1
 exact ⟨⟨G',f',q2.gb,h2.step q1 q2⟩,own_chg h.row q2.chg (fun k hk hs=>off k hk (.inl hs)),h.new⟩
end
def DoPost (w:World) (kb gs n:Nat) (A:List AK.Ed) (l:List AK.Ev) (e:Ending) (w':World):Prop:=
 (∃ k:Nat,((120 < l.length∧k=3)∨(l.length≤120∧∃ i V x y,DS.Okay n l A i∧l[i]?=some (⟨V,x,y⟩:AK.Ev)∧DS.flt n (DS.run n l A i).1 V x y=k∧k≠0))∧e=.returned (.tuple #[.slice none 0 0,errV k])∧Ext w w')∨
 (l.length≤120∧DS.Okay n l A l.length∧∃ (Ao:Option Addr) (c N':Nat) (G':GrP) (f':AK.Ed→GM.St),e=.returned (.tuple #[.slice Ao (DS.run n l A l.length).2.length c,.nilIface])∧
  w'.ownsRow 0 4 1 (.slice Ao (DS.run n l A l.length).2.length c) (DS.run n l A l.length).2.length (bolV (DS.run n l A l.length).2)∧(∀ j,(Value.slice Ao (DS.run n l A l.length).2.length c).ownBlock=some j→w.heap.size≤j)∧
  GrI w' G' n N' (DS.run n l A l.length).1 f'∧(∀ k,G'.T k→w.heap.size≤k)∧Blk w' kb 71 (dkC gs G'.gb n)∧Chg (fun k=>k=kb) w w')
theorem blk_ty {w:World} {k:Nat} {t t':TypeId} {cs cs':Array Value} (h:Blk w k t cs) (h':Blk w k t' cs'):t=t':=by
 unfold Blk at h h'
 rw [h] at h'
 injection h' with h'
 injection h' with h1 h2
theorem run_le {n:Nat} {l:List AK.Ev} {A:List AK.Ed} (hA:A.length≤200):∀ i,DS.Okay n l A i→(DS.run n l A i).1.length≤200
 | 0,_=>hA
 | i+1,h=>by
  have ih:=run_le hA i fun j e hj=>h j e (Nat.lt_succ_of_lt hj)
  cases he:l[i]? with
  | none=>rw [DS.run,he];exact ih
  | some e=>
   have hf:=h i e (Nat.lt_succ_self i) he
   rw [DS.run_next he]
   unfold DS.nxt
   by_cases h1:e.w=1
   ·simp only [h1,if_true]
    rw [putE_length]
    unfold DS.flt at hf
    split at hf
    ·exact absurd hf (by decide)
    ·have hf2:addFault n (DS.run n l A i).1 e.a e.b=0:=by first | exact hf | (rw [if_pos h1] at hf;exact hf)
     have:=(addFault_0 hf2).2.2.2.2
     omega
   ·simp only [h1,if_false]
    split
    ·exact Nat.le_trans (cutE_len_le _ _) ih
    ·exact ih
set_option maxRecDepth 100000 in
theorem ddo_any (w:World) (kb gs n N:Nat) (G:GrP) (A:List AK.Ed) (f:AK.Ed→GM.St) (hb:Blk w kb 71 (dkC gs G.gb n)) (h:GrI w G n N A f) (hA:A.length≤200) (Ae:Option Addr) (m c:Nat) (l:List AK.Ev) (hl:l.length=m) (hE:EvRow w Ae l) (hin:EvIn l):
  Calls Tryz.prog 73 #[.pointer (some ⟨kb,0,none⟩),.slice Ae m c] w (DoPost w kb gs n A l):=by
 have HL:=Lib.hid hl
 by_cases hm:120 < m
 ·have HP:Hid (DoPost w kb gs n A l (.returned (.tuple #[.slice none 0 0,errV 3])) w):=.inl ⟨3,.inl ⟨by omega,rfl⟩,rfl,Ext.refl _⟩
  have zm:(120:Int) < (m:Int):=by omega
  clear hb h hE hin
  go_enter Tryz.func73,Tryz.ntmps73
  go_wp2
  go_ret2
  exact HP.out
 have hn60:=h.m.hn
 have HDG:=Lib.hid (dgraph_any w kb gs n N G A f hb h hA)
 have HB:=Lib.hid hb
 have HE:=Lib.hid hE
 have HIN:=Lib.hid hin
 have zm:¬ (120:Int) < (m:Int):=by omega
 clear hb h hE hin hl
 go_enter Tryz.func73,Tryz.ntmps73
 go_wp2_with fail
 refine HDG.out.mono ?_
 rintro e w1 ⟨G1,f1,rfl,h1⟩
 obtain ⟨g1,hg1⟩:∃ g,G1.gb=g:=⟨_,rfl⟩
 have R0:Hid (DS.Okay n l A 0∧DoR w w1 g1 n (n+400+4000 * 0) (DS.run n l A 0).1 (.slice none 0 0) (DS.run n l A 0).2):=⟨DS.Okay.zero _ _ _,⟨⟨G1,f1,hg1,h1.mono (by omega)⟩,World.ownsRow_nil _ _ _ _,fun j hj=>by simp [Value.ownBlock] at hj⟩⟩
 rw [hg1]
 clear h1 hg1 HDG
 go_wp2
 go_loopw [7,20] (fun v7 v20 wr=>∃ (i q:Nat) (Ao:Option Addr) (co:Nat),i≤m∧q≤i∧v20=.int .i64 i∧v7=.slice Ao q co∧Hid ((DS.run n l A i).2.length=q∧DS.Okay n l A i∧DoR w wr g1 n (n+400+4000 * i) (DS.run n l A i).1 (.slice Ao q co) (DS.run n l A i).2)) (fun _ v20 _=>m - (intOf v20).toNat)
 case atStart=>exact ⟨0,0,none,0,Nat.zero_le _,Nat.le_refl _,rfl,rfl,rfl,R0.out⟩
 case round=>
  as_aux_lemma=>
  obtain ⟨i,q,Ao,co,hi,hq,rfl,rfl,HR⟩:=hrel
  clear R0
  by_cases hlt:i < m
  ·obtain ⟨b,off,V,x,y,rfl,hx,c0,c1,c2⟩:=(HE.out.ext HR.out.2.2.ext).at_ (show i < l.length by rw [HL.out];exact hlt)
   have hin:=HIN.out _ (List.mem_of_getElem? hx)
   simp only at hin
   have HXX:=Lib.hid hx
   have hA2:=run_le (n:=n) (l:=l) hA i HR.out.2.1
   have z0:(0:Int)≤(i:Int):=by omega
   have z1:(i:Int) < (m:Int):=by omega
   obtain ⟨kf,hkf⟩:∃ k,DS.flt n (DS.run n l A i).1 V x y=k:=⟨_,rfl⟩
   have HAC:Hid (∀ W,Ext wr W→Calls Tryz.prog (actF V) #[.pointer (some ⟨g1,0,none⟩),.agg #[.int .i64 V,.int .i64 x,.int .i64 y]] W fun e w'=>∃ b:Bool,e=.returned (.tuple #[.bool b,errOf (kf:Nat)])∧(kf=0→V=3→b=DS.ansB (DS.run n l A i).1 x y)∧
     (kf=0→DoR w w' g1 n (n+400+4000 * (i+1)) (DS.nxt (DS.run n l A i).1 V x y) (.slice Ao q co) (DS.run n l A i).2)∧(∀ k cs,Blk W k 128 cs→Blk w' k 128 cs)∧Ext w w'):=fun W hW=>by
    have:=(HR.out.2.2.moved hW).act (by omega) hA2 V x y hin.1 hin.2
    rw [hkf] at this
    exact this
   have HKF:=Lib.hid hkf
   have HOF:Hid (∀ W,Calls Tryz.prog 115 #[.agg #[.int .i64 V,.int .i64 x,.int .i64 y]] W fun e w'=>e=.returned (.func (.func (actF V)) #[] #[])∧Ext W w'):=fun W=>of_act W V x y
   have H0:=HR.out
   have HR0:=Lib.hid H0
   clear hx hin hkf hA2 H0
   have HV4:V=1∨V=2∨V=3∨(V≠1∧V≠2∧V≠3):=by omega
   by_cases hk:kf=0
   ·subst hk
    have hVin:V=1∨V=2∨V=3:=by
     have hf:=HKF.out
     unfold DS.flt at hf
     split at hf
     ·exact absurd hf (by decide)
     ·omega
    have HAC0:Hid (∀ W,Ext wr W→Calls Tryz.prog (actF V) #[.pointer (some ⟨g1,0,none⟩),.agg #[.int .i64 V,.int .i64 x,.int .i64 y]] W fun e w'=>∃ b:Bool,e=.returned (.tuple #[.bool b,.nilIface])∧(V=3→b=DS.ansB (DS.run n l A i).1 x y)∧
      DoR w w' g1 n (n+400+4000 * (i+1)) (DS.nxt (DS.run n l A i).1 V x y) (.slice Ao q co) (DS.run n l A i).2∧(∀ k cs,Blk W k 128 cs→Blk w' k 128 cs)):=fun W hW=>by
     refine (HAC.out W hW).mono ?_
     rintro e w' ⟨b,rfl,r1,r2,r3,_⟩
     exact ⟨b,rfl,r1 rfl,r2 rfl,r3⟩
    have HNX:Hid (∀ (w9:World) (vO:Value) (xs:List Bool),xs=(DS.run n l A i).2++DS.out1 (DS.run n l A i).1 ⟨V,x,y⟩→DoR w w9 g1 n (n+400+4000 * (i+1)) (DS.nxt (DS.run n l A i).1 V x y) vO xs→(DS.run n l A (i+1)).2=xs∧DS.Okay n l A (i+1)∧DoR w w9 g1 n (n+400+4000 * (i+1)) (DS.run n l A (i+1)).1 vO (DS.run n l A (i+1)).2):=fun w9 vO xs hxs hd=>by
     rw [DS.run_next HXX.out,←hxs]
     exact ⟨rfl,HR0.out.2.1.next HXX.out HKF.out,hd⟩
    clear HAC HKF
    rcases hVin with rfl | rfl | rfl
    ·have HOF1:Hid (∀ W,Calls Tryz.prog 115 #[.agg #[.int .i64 1,.int .i64 x,.int .i64 y]] W fun e w'=>e=.returned (.func (.func 147) #[] #[])∧Ext W w'):=HOF.out
     have HAC1:Hid (∀ W,Ext wr W→Calls Tryz.prog 147 #[.pointer (some ⟨g1,0,none⟩),.agg #[.int .i64 1,.int .i64 x,.int .i64 y]] W fun e w'=>∃ b:Bool,e=.returned (.tuple #[.bool b,.nilIface])∧((1:Int)=3→b=DS.ansB (DS.run n l A i).1 x y)∧
      DoR w w' g1 n (n+400+4000 * (i+1)) (DS.nxt (DS.run n l A i).1 1 x y) (.slice Ao q co) (DS.run n l A i).2∧(∀ k cs,Blk W k 128 cs→Blk w' k 128 cs)):=HAC0.out
     clear HOF HAC0 HR
     go_upto_region 8 with fail
     have BG:=Lib.hid (Blk.new wr 128 #[.int .i64 1,.int .i64 x,.int .i64 y])
     have hE3:Ext wr (wr.alloc (.cells #[.int .i64 1,.int .i64 x,.int .i64 y] 128)):=Ext.alloc wr _
     obtain ⟨gE,hGe⟩:∃ G,wr.heap.size=G:=⟨_,rfl⟩
     rw [hGe] at BG ⊢
     clear hGe
     generalize wr.alloc (.cells #[.int .i64 1,.int .i64 x,.int .i64 y] 128)=w3 at BG hE3 ⊢
     have HKP:Hid (∀ W,Blk W gE 128 #[.int .i64 1,.int .i64 x,.int .i64 y]→Blk W gE 128 #[.int .i64 1,.int .i64 x,.int .i64 y]∧W.cell? ⟨gE,0,none⟩=some (.int .i64 1)∧W.cell? ⟨gE,1,none⟩=some (.int .i64 x)∧W.cell? ⟨gE,2,none⟩=some (.int .i64 y)):=fun W hB=>⟨hB,hB.cell 0,hB.cell 1,hB.cell 2⟩
     have hb3:=BG.out
     have u0:=(HKP.out _ hb3).2.1
     have u1:=(HKP.out _ hb3).2.2.1
     have u2:=(HKP.out _ hb3).2.2.2
     clear c0 c1 c2
     go_region_held3 (fun W=>Blk W gE 128 #[.int .i64 1,.int .i64 x,.int .i64 y]∧W.cell? ⟨gE,0,none⟩=some (.int .i64 1)∧W.cell? ⟨gE,1,none⟩=some (.int .i64 x)∧W.cell? ⟨gE,2,none⟩=some (.int .i64 y))
      (exact HKP.out _ (by first | exact hb3 | assumption | exact fst_ (by assumption)))
      (first
       | (go_at_call 115;refine (HOF1.out _).mono ?_;rintro e w4 ⟨rfl,hx4⟩;have hE4:Ext wr w4:=Ext.trans hE3 (Ext.trans (Ext.drew _) hx4);have hb4:Blk w4 gE 128 #[.int .i64 1,.int .i64 x,.int .i64 y]:=(Blk.drew hb3).chg (Chg.of_below hx4) (by have:=(Blk.drew hb3).lt;omega);clear hx4)
       | (go_at_call 147;refine (HAC1.out _ hE4).mono ?_;rintro e w5 ⟨b,rfl,r1,r2,r3⟩;have hb5:=r3 _ _ hb4;have HR1:=Lib.hid r1;have HR2:=Lib.hid r2;clear r1 r2 r3)
       | fail)
     rename_i hHeld
     have v0:=(HKP.out _ hb5).2.1
     have HN:=Lib.hid (HNX.out w5 (.slice Ao q co) _ (by unfold DS.out1;rw [if_neg (show ¬ (1:Int)=3 by decide),List.append_nil]) HR2.out)
     have HQ:=Lib.hid HR0.out.1
     clear hHeld HR1 HR2 HNX HKP hb3 hb4 hb5 u0 u1 u2 hE3 hE4
     go_wp2
     go_roundw
     case rel=>exact ⟨i+1,q,Ao,co,by omega,by omega,by go_num,rfl,by rw [HN.out.1,HQ.out],HN.out.2⟩
     case measure=>simp [intOf];omega
    ·have HOF1:Hid (∀ W,Calls Tryz.prog 115 #[.agg #[.int .i64 2,.int .i64 x,.int .i64 y]] W fun e w'=>e=.returned (.func (.func 148) #[] #[])∧Ext W w'):=HOF.out
     have HAC1:Hid (∀ W,Ext wr W→Calls Tryz.prog 148 #[.pointer (some ⟨g1,0,none⟩),.agg #[.int .i64 2,.int .i64 x,.int .i64 y]] W fun e w'=>∃ b:Bool,e=.returned (.tuple #[.bool b,.nilIface])∧((2:Int)=3→b=DS.ansB (DS.run n l A i).1 x y)∧
      DoR w w' g1 n (n+400+4000 * (i+1)) (DS.nxt (DS.run n l A i).1 2 x y) (.slice Ao q co) (DS.run n l A i).2∧(∀ k cs,Blk W k 128 cs→Blk w' k 128 cs)):=HAC0.out
     clear HOF HAC0 HR
     go_upto_region 8 with fail
     have BG:=Lib.hid (Blk.new wr 128 #[.int .i64 2,.int .i64 x,.int .i64 y])
     have hE3:Ext wr (wr.alloc (.cells #[.int .i64 2,.int .i64 x,.int .i64 y] 128)):=Ext.alloc wr _
     obtain ⟨gE,hGe⟩:∃ G,wr.heap.size=G:=⟨_,rfl⟩
     rw [hGe] at BG ⊢
     clear hGe
     generalize wr.alloc (.cells #[.int .i64 2,.int .i64 x,.int .i64 y] 128)=w3 at BG hE3 ⊢
     have HKP:Hid (∀ W,Blk W gE 128 #[.int .i64 2,.int .i64 x,.int .i64 y]→Blk W gE 128 #[.int .i64 2,.int .i64 x,.int .i64 y]∧W.cell? ⟨gE,0,none⟩=some (.int .i64 2)∧W.cell? ⟨gE,1,none⟩=some (.int .i64 x)∧W.cell? ⟨gE,2,none⟩=some (.int .i64 y)):=fun W hB=>⟨hB,hB.cell 0,hB.cell 1,hB.cell 2⟩
     have hb3:=BG.out
     have u0:=(HKP.out _ hb3).2.1
     have u1:=(HKP.out _ hb3).2.2.1
     have u2:=(HKP.out _ hb3).2.2.2
     clear c0 c1 c2
     go_region_held3 (fun W=>Blk W gE 128 #[.int .i64 2,.int .i64 x,.int .i64 y]∧W.cell? ⟨gE,0,none⟩=some (.int .i64 2)∧W.cell? ⟨gE,1,none⟩=some (.int .i64 x)∧W.cell? ⟨gE,2,none⟩=some (.int .i64 y))
      (exact HKP.out _ (by first | exact hb3 | assumption | exact fst_ (by assumption)))
      (first
       | (go_at_call 115;refine (HOF1.out _).mono ?_;rintro e w4 ⟨rfl,hx4⟩;have hE4:Ext wr w4:=Ext.trans hE3 (Ext.trans (Ext.drew _) hx4);have hb4:Blk w4 gE 128 #[.int .i64 2,.int .i64 x,.int .i64 y]:=(Blk.drew hb3).chg (Chg.of_below hx4) (by have:=(Blk.drew hb3).lt;omega);clear hx4)
       | (go_at_call 148;refine (HAC1.out _ hE4).mono ?_;rintro e w5 ⟨b,rfl,r1,r2,r3⟩;have hb5:=r3 _ _ hb4;have HR1:=Lib.hid r1;have HR2:=Lib.hid r2;clear r1 r2 r3)
       | fail)
     rename_i hHeld
     have v0:=(HKP.out _ hb5).2.1
     have HN:=Lib.hid (HNX.out w5 (.slice Ao q co) _ (by unfold DS.out1;rw [if_neg (show ¬ (2:Int)=3 by decide),List.append_nil]) HR2.out)
     have HQ:=Lib.hid HR0.out.1
     clear hHeld HR1 HR2 HNX HKP hb3 hb4 hb5 u0 u1 u2 hE3 hE4
     go_wp2
     go_roundw
     case rel=>exact ⟨i+1,q,Ao,co,by omega,by omega,by go_num,rfl,by rw [HN.out.1,HQ.out],HN.out.2⟩
     case measure=>simp [intOf];omega
    ·have HOF1:Hid (∀ W,Calls Tryz.prog 115 #[.agg #[.int .i64 3,.int .i64 x,.int .i64 y]] W fun e w'=>e=.returned (.func (.func 150) #[] #[])∧Ext W w'):=HOF.out
     have HAC1:Hid (∀ W,Ext wr W→Calls Tryz.prog 150 #[.pointer (some ⟨g1,0,none⟩),.agg #[.int .i64 3,.int .i64 x,.int .i64 y]] W fun e w'=>∃ b:Bool,e=.returned (.tuple #[.bool b,.nilIface])∧((3:Int)=3→b=DS.ansB (DS.run n l A i).1 x y)∧
      DoR w w' g1 n (n+400+4000 * (i+1)) (DS.nxt (DS.run n l A i).1 3 x y) (.slice Ao q co) (DS.run n l A i).2∧(∀ k cs,Blk W k 128 cs→Blk w' k 128 cs)):=HAC0.out
     clear HOF HAC0 HR
     go_upto_region 8 with fail
     have BG:=Lib.hid (Blk.new wr 128 #[.int .i64 3,.int .i64 x,.int .i64 y])
     have hE3:Ext wr (wr.alloc (.cells #[.int .i64 3,.int .i64 x,.int .i64 y] 128)):=Ext.alloc wr _
     obtain ⟨gE,hGe⟩:∃ G,wr.heap.size=G:=⟨_,rfl⟩
     rw [hGe] at BG ⊢
     clear hGe
     generalize wr.alloc (.cells #[.int .i64 3,.int .i64 x,.int .i64 y] 128)=w3 at BG hE3 ⊢
     have HKP:Hid (∀ W,Blk W gE 128 #[.int .i64 3,.int .i64 x,.int .i64 y]→Blk W gE 128 #[.int .i64 3,.int .i64 x,.int .i64 y]∧W.cell? ⟨gE,0,none⟩=some (.int .i64 3)∧W.cell? ⟨gE,1,none⟩=some (.int .i64 x)∧W.cell? ⟨gE,2,none⟩=some (.int .i64 y)):=fun W hB=>⟨hB,hB.cell 0,hB.cell 1,hB.cell 2⟩
     have hb3:=BG.out
     have u0:=(HKP.out _ hb3).2.1
     have u1:=(HKP.out _ hb3).2.2.1
     have u2:=(HKP.out _ hb3).2.2.2
     clear c0 c1 c2
     go_region_held3 (fun W=>Blk W gE 128 #[.int .i64 3,.int .i64 x,.int .i64 y]∧W.cell? ⟨gE,0,none⟩=some (.int .i64 3)∧W.cell? ⟨gE,1,none⟩=some (.int .i64 x)∧W.cell? ⟨gE,2,none⟩=some (.int .i64 y))
      (exact HKP.out _ (by first | exact hb3 | assumption | exact fst_ (by assumption)))
      (first
       | (go_at_call 115;refine (HOF1.out _).mono ?_;rintro e w4 ⟨rfl,hx4⟩;have hE4:Ext wr w4:=Ext.trans hE3 (Ext.trans (Ext.drew _) hx4);have hb4:Blk w4 gE 128 #[.int .i64 3,.int .i64 x,.int .i64 y]:=(Blk.drew hb3).chg (Chg.of_below hx4) (by have:=(Blk.drew hb3).lt;omega);clear hx4)
       | (go_at_call 150;refine (HAC1.out _ hE4).mono ?_;rintro e w5 ⟨b,rfl,r1,r2,r3⟩;have hb5:=r3 _ _ hb4;have HR1:=Lib.hid r1;have HR2:=Lib.hid r2;clear r1 r2 r3)
       | fail)
     rename_i hHeld
     have v0:=(HKP.out _ hb5).2.1
     have HB1:Hid (b=DS.ansB (DS.run n l A i).1 x y):=HR1.out trivial
     have HQ:=Lib.hid HR0.out.1
     clear hHeld HR1 HKP hb3 hb4 hb5 u0 u1 u2 hE3 hE4
     go_wp2_with (at_builtin;refine wpList_push _ rfl (.tmp 38) (.tmp 40) 131 rfl 4 (.bool false) 1 Tryz.underlying131 infoB rfl (.slice Ao q co) q (bolV (DS.run n l A i).2) rfl ((HR2.out.moved (Ext.alloc _ _)).rowq HQ.out) ⟨by omega,by omega⟩ (.bool b) w5.heap.size rfl (cell_new1 rfl _ _) rfl ?_;intro g5 c5 w6 ho5 hc5 hat5 _;have HP:=Lib.hid (HR2.out.pushq (b:=b) HQ.out (Ext.alloc _ _) ho5 hc5 hat5);clear ho5 hc5 hat5)
     have HN:=Lib.hid (HNX.out w6 _ _ (by unfold DS.out1;rw [if_pos rfl,HB1.out]) HP.out)
     go_roundw
     case rel=>exact ⟨i+1,q+1,some ⟨g5,0,none⟩,c5,by omega,by omega,by go_num,rfl,by rw [HN.out.1,List.length_append,HQ.out];rfl,HN.out.2.1,HN.out.2.2⟩
     case measure=>simp [intOf];omega
   ·have HPO:Hid (∀ w9,Ext w w9→DoPost w kb gs n A l (.returned (.tuple #[.slice none 0 0,errV kf])) w9):=fun w9 hx9=>.inl ⟨kf,.inr ⟨by have:=HL.out;omega,i,V,x,y,HR0.out.2.1,HXX.out,HKF.out,hk⟩,rfl,hx9⟩
    have HAC0:Hid (∀ W,Ext wr W→Calls Tryz.prog (actF V) #[.pointer (some ⟨g1,0,none⟩),.agg #[.int .i64 V,.int .i64 x,.int .i64 y]] W fun e w'=>∃ b:Bool,e=.returned (.tuple #[.bool b,errV kf])∧(∀ k cs,Blk W k 128 cs→Blk w' k 128 cs)∧Ext w w'):=fun W hW=>by
     refine (HAC.out W hW).mono ?_
     rintro e w' ⟨b,rfl,_,_,r3,r4⟩
     exact ⟨b,by rw [errOf_ne (by omega)],r3,r4⟩
    clear HAC HKF hk
    rcases HV4 with rfl | rfl | rfl | ⟨hV1,hV2,hV3⟩
    ·have HOF1:Hid (∀ W,Calls Tryz.prog 115 #[.agg #[.int .i64 1,.int .i64 x,.int .i64 y]] W fun e w'=>e=.returned (.func (.func 147) #[] #[])∧Ext W w'):=HOF.out
     have HAC1:Hid (∀ W,Ext wr W→Calls Tryz.prog 147 #[.pointer (some ⟨g1,0,none⟩),.agg #[.int .i64 1,.int .i64 x,.int .i64 y]] W fun e w'=>∃ b:Bool,e=.returned (.tuple #[.bool b,errV kf])∧(∀ k cs,Blk W k 128 cs→Blk w' k 128 cs)∧Ext w w'):=HAC0.out
     clear HOF HAC0 HR HR0
     go_upto_region 8 with fail
     have BG:=Lib.hid (Blk.new wr 128 #[.int .i64 1,.int .i64 x,.int .i64 y])
     have hE3:Ext wr (wr.alloc (.cells #[.int .i64 1,.int .i64 x,.int .i64 y] 128)):=Ext.alloc wr _
     obtain ⟨gE,hGe⟩:∃ G,wr.heap.size=G:=⟨_,rfl⟩
     rw [hGe] at BG ⊢
     clear hGe
     generalize wr.alloc (.cells #[.int .i64 1,.int .i64 x,.int .i64 y] 128)=w3 at BG hE3 ⊢
     have HKP:Hid (∀ W,Blk W gE 128 #[.int .i64 1,.int .i64 x,.int .i64 y]→Blk W gE 128 #[.int .i64 1,.int .i64 x,.int .i64 y]∧W.cell? ⟨gE,0,none⟩=some (.int .i64 1)∧W.cell? ⟨gE,1,none⟩=some (.int .i64 x)∧W.cell? ⟨gE,2,none⟩=some (.int .i64 y)):=fun W hB=>⟨hB,hB.cell 0,hB.cell 1,hB.cell 2⟩
     have hb3:=BG.out
     have u0:=(HKP.out _ hb3).2.1
     have u1:=(HKP.out _ hb3).2.2.1
     have u2:=(HKP.out _ hb3).2.2.2
     clear c0 c1 c2
     go_region_held3 (fun W=>Blk W gE 128 #[.int .i64 1,.int .i64 x,.int .i64 y]∧W.cell? ⟨gE,0,none⟩=some (.int .i64 1)∧W.cell? ⟨gE,1,none⟩=some (.int .i64 x)∧W.cell? ⟨gE,2,none⟩=some (.int .i64 y))
      (exact HKP.out _ (by first | exact hb3 | assumption | exact fst_ (by assumption)))
      (first
       | (go_at_call 115;refine (HOF1.out _).mono ?_;rintro e w4 ⟨rfl,hx4⟩;have hE4:Ext wr w4:=Ext.trans hE3 (Ext.trans (Ext.drew _) hx4);have hb4:Blk w4 gE 128 #[.int .i64 1,.int .i64 x,.int .i64 y]:=(Blk.drew hb3).chg (Chg.of_below hx4) (by have:=(Blk.drew hb3).lt;omega);clear hx4)
       | (go_at_call 147;refine (HAC1.out _ hE4).mono ?_;rintro e w5 ⟨b,rfl,r3,r4⟩;have hb5:=r3 _ _ hb4;have HX5:=Lib.hid r4;clear r3 r4)
       | fail)
     rename_i hHeld
     have HN:=Lib.hid (HPO.out _ HX5.out)
     clear hHeld HPO HKP hb3 hb4 hb5 u0 u1 u2 hE3 hE4
     go_wp2
     go_ret2
     exact HN.out
    ·have HOF1:Hid (∀ W,Calls Tryz.prog 115 #[.agg #[.int .i64 2,.int .i64 x,.int .i64 y]] W fun e w'=>e=.returned (.func (.func 148) #[] #[])∧Ext W w'):=HOF.out
     have HAC1:Hid (∀ W,Ext wr W→Calls Tryz.prog 148 #[.pointer (some ⟨g1,0,none⟩),.agg #[.int .i64 2,.int .i64 x,.int .i64 y]] W fun e w'=>∃ b:Bool,e=.returned (.tuple #[.bool b,errV kf])∧(∀ k cs,Blk W k 128 cs→Blk w' k 128 cs)∧Ext w w'):=HAC0.out
     clear HOF HAC0 HR HR0
     go_upto_region 8 with fail
     have BG:=Lib.hid (Blk.new wr 128 #[.int .i64 2,.int .i64 x,.int .i64 y])
     have hE3:Ext wr (wr.alloc (.cells #[.int .i64 2,.int .i64 x,.int .i64 y] 128)):=Ext.alloc wr _
     obtain ⟨gE,hGe⟩:∃ G,wr.heap.size=G:=⟨_,rfl⟩
     rw [hGe] at BG ⊢
     clear hGe
     generalize wr.alloc (.cells #[.int .i64 2,.int .i64 x,.int .i64 y] 128)=w3 at BG hE3 ⊢
     have HKP:Hid (∀ W,Blk W gE 128 #[.int .i64 2,.int .i64 x,.int .i64 y]→Blk W gE 128 #[.int .i64 2,.int .i64 x,.int .i64 y]∧W.cell? ⟨gE,0,none⟩=some (.int .i64 2)∧W.cell? ⟨gE,1,none⟩=some (.int .i64 x)∧W.cell? ⟨gE,2,none⟩=some (.int .i64 y)):=fun W hB=>⟨hB,hB.cell 0,hB.cell 1,hB.cell 2⟩
     have hb3:=BG.out
     have u0:=(HKP.out _ hb3).2.1
     have u1:=(HKP.out _ hb3).2.2.1
     have u2:=(HKP.out _ hb3).2.2.2
     clear c0 c1 c2
     go_region_held3 (fun W=>Blk W gE 128 #[.int .i64 2,.int .i64 x,.int .i64 y]∧W.cell? ⟨gE,0,none⟩=some (.int .i64 2)∧W.cell? ⟨gE,1,none⟩=some (.int .i64 x)∧W.cell? ⟨gE,2,none⟩=some (.int .i64 y))
      (exact HKP.out _ (by first | exact hb3 | assumption | exact fst_ (by assumption)))
      (first
       | (go_at_call 115;refine (HOF1.out _).mono ?_;rintro e w4 ⟨rfl,hx4⟩;have hE4:Ext wr w4:=Ext.trans hE3 (Ext.trans (Ext.drew _) hx4);have hb4:Blk w4 gE 128 #[.int .i64 2,.int .i64 x,.int .i64 y]:=(Blk.drew hb3).chg (Chg.of_below hx4) (by have:=(Blk.drew hb3).lt;omega);clear hx4)
       | (go_at_call 148;refine (HAC1.out _ hE4).mono ?_;rintro e w5 ⟨b,rfl,r3,r4⟩;have hb5:=r3 _ _ hb4;have HX5:=Lib.hid r4;clear r3 r4)
       | fail)
     rename_i hHeld
     have HN:=Lib.hid (HPO.out _ HX5.out)
     clear hHeld HPO HKP hb3 hb4 hb5 u0 u1 u2 hE3 hE4
     go_wp2
     go_ret2
     exact HN.out
    ·have HOF1:Hid (∀ W,Calls Tryz.prog 115 #[.agg #[.int .i64 3,.int .i64 x,.int .i64 y]] W fun e w'=>e=.returned (.func (.func 150) #[] #[])∧Ext W w'):=HOF.out
     have HAC1:Hid (∀ W,Ext wr W→Calls Tryz.prog 150 #[.pointer (some ⟨g1,0,none⟩),.agg #[.int .i64 3,.int .i64 x,.int .i64 y]] W fun e w'=>∃ b:Bool,e=.returned (.tuple #[.bool b,errV kf])∧(∀ k cs,Blk W k 128 cs→Blk w' k 128 cs)∧Ext w w'):=HAC0.out
     clear HOF HAC0 HR HR0
     go_upto_region 8 with fail
     have BG:=Lib.hid (Blk.new wr 128 #[.int .i64 3,.int .i64 x,.int .i64 y])
     have hE3:Ext wr (wr.alloc (.cells #[.int .i64 3,.int .i64 x,.int .i64 y] 128)):=Ext.alloc wr _
     obtain ⟨gE,hGe⟩:∃ G,wr.heap.size=G:=⟨_,rfl⟩
     rw [hGe] at BG ⊢
     clear hGe
     generalize wr.alloc (.cells #[.int .i64 3,.int .i64 x,.int .i64 y] 128)=w3 at BG hE3 ⊢
     have HKP:Hid (∀ W,Blk W gE 128 #[.int .i64 3,.int .i64 x,.int .i64 y]→Blk W gE 128 #[.int .i64 3,.int .i64 x,.int .i64 y]∧W.cell? ⟨gE,0,none⟩=some (.int .i64 3)∧W.cell? ⟨gE,1,none⟩=some (.int .i64 x)∧W.cell? ⟨gE,2,none⟩=some (.int .i64 y)):=fun W hB=>⟨hB,hB.cell 0,hB.cell 1,hB.cell 2⟩
     have hb3:=BG.out
     have u0:=(HKP.out _ hb3).2.1
     have u1:=(HKP.out _ hb3).2.2.1
     have u2:=(HKP.out _ hb3).2.2.2
     clear c0 c1 c2
     go_region_held3 (fun W=>Blk W gE 128 #[.int .i64 3,.int .i64 x,.int .i64 y]∧W.cell? ⟨gE,0,none⟩=some (.int .i64 3)∧W.cell? ⟨gE,1,none⟩=some (.int .i64 x)∧W.cell? ⟨gE,2,none⟩=some (.int .i64 y))
      (exact HKP.out _ (by first | exact hb3 | assumption | exact fst_ (by assumption)))
      (first
       | (go_at_call 115;refine (HOF1.out _).mono ?_;rintro e w4 ⟨rfl,hx4⟩;have hE4:Ext wr w4:=Ext.trans hE3 (Ext.trans (Ext.drew _) hx4);have hb4:Blk w4 gE 128 #[.int .i64 3,.int .i64 x,.int .i64 y]:=(Blk.drew hb3).chg (Chg.of_below hx4) (by have:=(Blk.drew hb3).lt;omega);clear hx4)
       | (go_at_call 150;refine (HAC1.out _ hE4).mono ?_;rintro e w5 ⟨b,rfl,r3,r4⟩;have hb5:=r3 _ _ hb4;have HX5:=Lib.hid r4;clear r3 r4)
       | fail)
     rename_i hHeld
     have HN:=Lib.hid (HPO.out _ HX5.out)
     clear hHeld HPO HKP hb3 hb4 hb5 u0 u1 u2 hE3 hE4
     go_wp2
     go_ret2
     exact HN.out
    ·have HOF1:Hid (∀ W,Calls Tryz.prog 115 #[.agg #[.int .i64 V,.int .i64 x,.int .i64 y]] W fun e w'=>e=.returned (.func (.func 152) #[] #[])∧Ext W w'):=fun W=>by have q:=HOF.out W;rwa [show actF V=152 by unfold actF;rw [if_neg hV1,if_neg hV2,if_neg hV3]] at q
     have HAC1:Hid (∀ W,Ext wr W→Calls Tryz.prog 152 #[.pointer (some ⟨g1,0,none⟩),.agg #[.int .i64 V,.int .i64 x,.int .i64 y]] W fun e w'=>∃ b:Bool,e=.returned (.tuple #[.bool b,errV kf])∧(∀ k cs,Blk W k 128 cs→Blk w' k 128 cs)∧Ext w w'):=fun W hW=>by have q:=HAC0.out W hW;rwa [show actF V=152 by unfold actF;rw [if_neg hV1,if_neg hV2,if_neg hV3]] at q
     clear HOF HAC0 HR HR0
     go_upto_region 8 with fail
     have BG:=Lib.hid (Blk.new wr 128 #[.int .i64 V,.int .i64 x,.int .i64 y])
     have hE3:Ext wr (wr.alloc (.cells #[.int .i64 V,.int .i64 x,.int .i64 y] 128)):=Ext.alloc wr _
     obtain ⟨gE,hGe⟩:∃ G,wr.heap.size=G:=⟨_,rfl⟩
     rw [hGe] at BG ⊢
     clear hGe
     generalize wr.alloc (.cells #[.int .i64 V,.int .i64 x,.int .i64 y] 128)=w3 at BG hE3 ⊢
     have HKP:Hid (∀ W,Blk W gE 128 #[.int .i64 V,.int .i64 x,.int .i64 y]→Blk W gE 128 #[.int .i64 V,.int .i64 x,.int .i64 y]∧W.cell? ⟨gE,0,none⟩=some (.int .i64 V)∧W.cell? ⟨gE,1,none⟩=some (.int .i64 x)∧W.cell? ⟨gE,2,none⟩=some (.int .i64 y)):=fun W hB=>⟨hB,hB.cell 0,hB.cell 1,hB.cell 2⟩
     have hb3:=BG.out
     have u0:=(HKP.out _ hb3).2.1
     have u1:=(HKP.out _ hb3).2.2.1
     have u2:=(HKP.out _ hb3).2.2.2
     clear c0 c1 c2
     go_region_held3 (fun W=>Blk W gE 128 #[.int .i64 V,.int .i64 x,.int .i64 y]∧W.cell? ⟨gE,0,none⟩=some (.int .i64 V)∧W.cell? ⟨gE,1,none⟩=some (.int .i64 x)∧W.cell? ⟨gE,2,none⟩=some (.int .i64 y))
      (exact HKP.out _ (by first | exact hb3 | assumption | exact fst_ (by assumption)))
      (first
       | (go_at_call 115;refine (HOF1.out _).mono ?_;rintro e w4 ⟨rfl,hx4⟩;have hE4:Ext wr w4:=Ext.trans hE3 (Ext.trans (Ext.drew _) hx4);have hb4:Blk w4 gE 128 #[.int .i64 V,.int .i64 x,.int .i64 y]:=(Blk.drew hb3).chg (Chg.of_below hx4) (by have:=(Blk.drew hb3).lt;omega);clear hx4)
       | (go_at_call 152;refine (HAC1.out _ hE4).mono ?_;rintro e w5 ⟨b,rfl,r3,r4⟩;have hb5:=r3 _ _ hb4;have HX5:=Lib.hid r4;clear r3 r4)
       | fail)
     rename_i hHeld
     have HN:=Lib.hid (HPO.out _ HX5.out)
     clear hHeld HPO HKP hb3 hb4 hb5 u0 u1 u2 hE3 hE4
     go_wp2
     go_ret2
     exact HN.out
  ·obtain rfl:i=m:=by omega
   have hx:=HR.out.2.2.ext
   have hb1:Blk wr kb 71 (dkC gs G.gb n):=HB.out.chg (Chg.of_below hx) (by have:=HB.out.lt;omega)
   have e1:wr.cell? ⟨kb,1,none⟩=some (.pointer (some ⟨G.gb,0,none⟩)):=hb1.cell 1
   have e2:wr.frozen? ⟨kb,1,none⟩=false:=hb1.frozen 1
   have HP:Hid (DoPost w kb gs n A l (.returned (.tuple #[.slice Ao q co,.nilIface])) (wr.setCell ⟨kb,1,none⟩ (.pointer (some ⟨g1,0,none⟩)))):=by
    obtain ⟨r1,r2,r3⟩:=HR.out
    obtain ⟨G',f',hG',gg⟩:=r3.g
    have hnT:¬ G'.T kb:=gg.at_.m.notyp (by decide) hb1
    have hnR:(Value.slice Ao q co).ownBlock≠some kb:=own_ne r3.row hb1 (by decide)
    have hc:Chg (fun k=>k=kb) wr (wr.setCell ⟨kb,1,none⟩ (.pointer (some ⟨g1,0,none⟩))):=(Chg.refl (fun k=>k=kb) wr).setCell (fun _=>rfl) _
    refine .inr ⟨by have:=HL.out;omega,by rw [HL.out];exact r2,?_⟩
    rw [HL.out,r1]
    refine ⟨Ao,co,_,G',f',rfl,own_chg (by rw [←r1];have:=r3.row;rw [r1] at this ⊢;exact this) hc (fun k hk e=>hnR (by rw [hk,e])),r3.new,⟨gg.at_.m.chg hc (fun k hk e=>hnT (e ▸ .inl hk)) (fun i F hi e=>hnT (e ▸ .inr ⟨i,F,hi,rfl⟩)) (fun k e cs hb2=>by subst e;exact absurd (blk_ty hb1 hb2) (by decide)),gg.at_.k,gg.at_.few,gg.at_.nN⟩,gg.new,?_,?_⟩
    ·have:=hb1.set_ 1 (.pointer (some ⟨g1,0,none⟩))
     rw [←hG'] at this ⊢
     exact this
    ·exact (Chg.new hx (fun k=>k=kb)).setCell (fun _=>rfl) _
   clear HR hb1 hx
   go_wp2
   go_ret2
   exact HP.out
end Go.Proofs.YtkoajpeabicpdaaGreatDoor
