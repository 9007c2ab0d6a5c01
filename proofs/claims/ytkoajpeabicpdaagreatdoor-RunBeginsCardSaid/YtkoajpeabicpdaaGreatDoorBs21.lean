/-
Walk of graph's Add. Condition: the graph lies in memory as 'GrI' says.
-/
import Derived.Test.YtkoajpeabicpdaaGreatDoorBs19
import Derived.Test.YtkoajpeabicpdaaGreatDoorBs20
import Derived.Deep.DeepCutAuto
import Derived.Test.YtkoajpeabicpdaaGreatDoorBs17
set_option linter.unusedVariables false
set_option maxHeartbeats 8000000
namespace Go.Proofs.YtkoajpeabicpdaaGreatDoor
open Go Go.RowKit SQ TR DF PD
structure GrI (w:World) (G:GrP) (n N:Nat) (A:List AK.Ed) (f:AK.Ed→GM.St):Prop where
 m:GrM w G n N A f (GM.lvl f A)
 k:GM.GOk n G.Fs.length A f
 few:G.Fs.length≤6
 nN:n≤N
section
variable {w w':World} {G:GrP} {n N N':Nat} {A:List AK.Ed} {f:AK.Ed→GM.St} {Es:Nat→List AK.Ed}
theorem GrI.ext (h:GrI w G n N A f) (hx:Ext w w'):GrI w' G n N A f:=⟨h.m.ext hx,h.k,h.few,h.nN⟩
theorem GrI.mono (h:GrI w G n N A f) (hN:N≤N'):GrI w G n N' A f:=⟨h.m.mono hN,h.k,h.few,Nat.le_trans h.nN hN⟩
theorem GrM.lenE (h:GrM w G n N A f Es) (ty:TypeId):(Builtin.len_ #[137] ty #[.map (some G.eb)]).run Tryz.prog w=.ok (.int .i64 A.length) w:=by
 obtain ⟨me,m1,m2⟩:=h.edges
 obtain ⟨D,h1,h2,h3⟩:=m1
 have:=h1.len Tryz.underlying137 ty
 rw [h2] at this
 exact this
structure GRd (W:World) (G:GrP) (B:Nat) (u v:Int) (x:AK.Ed) (z:Value) (ok:Bool):Prop where
 c1:W.cell? ⟨G.gb,1,none⟩=some (.map (some G.eb))
 y0:W.cell? ⟨B,0,none⟩=some (.int .i64 u)
 y1:W.cell? ⟨B,1,none⟩=some (.int .i64 v)
 lk:(Instr.lookup 137 (.map (some G.eb)) (.agg #[.int .i64 u,.int .i64 v]) true).run Tryz.prog W=.ok (.tuple #[z,.bool ok]) W
theorem GrM.read (h:GrM w G n N A f Es) {B:Nat} {u v:Int} (hB:Blk w B 93 #[.int .i64 u,.int .i64 v]) (hx:okE (u,v)) {z:Value} {ok:Bool} (hz:(if (u,v)∈A then stV (f (u,v)) else .agg #[.int .i64 0,.bool false])=z) (hk:decide ((u,v)∈A)=ok)
  {W:World} (hW:Ext w W):GRd W G B u v (u,v) z ok:=by
 have hlt:=h.blk.lt
 have h':=h.ext hW
 have hB':Blk W B 93 #[.int .i64 u,.int .i64 v]:=hB.chg (Chg.of_below hW) (by have:=hB.lt;omega)
 exact ⟨h'.blk.cell 1,hB'.cell 0,hB'.cell 1,h'.look_ok (u,v) hx hz hk⟩
end
section
variable {w:World} {G:GrP} {n N:Nat} {A:List AK.Ed} {f:AK.Ed→GM.St} {Es:Nat→List AK.Ed}
theorem edV_ek (a b:Int):edV (AK.ek a b)=.agg #[.int .i64 (min a b),.int .i64 (max a b)]:=rfl
def addFault (n:Nat) (A:List AK.Ed) (a b:Int):Nat:=if ¬ (0≤a∧a < n)∨¬ (0≤b∧b < n) then 1 else if a=b then 2 else if AK.ek a b∈A then 6 else if A.length=200 then 3 else 0
def GAddPost (w:World) (G:GrP) (n N:Nat) (A:List AK.Ed) (f:AK.Ed→GM.St) (a b:Int) (e:Ending) (w':World):Prop:=
 (∃ k,addFault n A a b=k∧k≠0∧e=.returned (errV k)∧Ext w w')∨(addFault n A a b=0∧∃ s,e=.returned .nilIface∧GrI w' G n (N+2) (putE (AK.ek a b) A) (GM.updS f (AK.ek a b) ⟨0,s⟩)∧GrC w w' G G)
set_option maxRecDepth 100000 in
theorem gadd_bad (h:GrI w G n N A f) (a b:Int) (ha:-9223372036854775808≤a∧a≤9223372036854775807) (hb:-9223372036854775808≤b∧b≤9223372036854775807) {k:Nat} (hk:addFault n A a b=k) (hk0:k≠0):
  Calls Tryz.prog 68 #[.pointer (some ⟨G.gb,0,none⟩),.int .i64 a,.int .i64 b] w fun e w'=>e=.returned (errV k)∧Ext w w':=by
 have h60:=h.m.hn
 have H:=Lib.hid h.m
 have hxx:okE (AK.ek a b):=⟨WalkArith.wf_i64 (by unfold AK.ek;simp only;omega),WalkArith.wf_i64 (by unfold AK.ek;simp only;omega)⟩
 have HK:Hid (addFault n A a b=k∧k≠0):=⟨hk,hk0⟩
 obtain ⟨z,hz⟩:∃ z:GM.St,(if AK.ek a b∈A then stV (f (AK.ek a b)) else .agg #[.int .i64 0,.bool false])=stV z:=by
  by_cases q:AK.ek a b∈A
  ·exact ⟨_,if_pos q⟩
  ·exact ⟨⟨0,false⟩,if_neg q⟩
 obtain ⟨ok,hok⟩:∃ ok,decide (AK.ek a b∈A)=ok:=⟨_,rfl⟩
 have HX:Hid (okE (AK.ek a b)∧(if AK.ek a b∈A then stV (f (AK.ek a b)) else .agg #[.int .i64 0,.bool false])=stV z∧decide (AK.ek a b∈A)=ok):=⟨hxx,hz,hok⟩
 have hkk:Hid ((¬ (0≤a∧a < n)∨¬ (0≤b∧b < n))∧k=1∨((0≤a∧a < n)∧(0≤b∧b < n))∧a=b∧k=2∨((0≤a∧a < n)∧(0≤b∧b < n))∧a≠b∧ok=true∧k=6∨((0≤a∧a < n)∧(0≤b∧b < n))∧a≠b∧ok=false∧A.length=200∧k=3):=by
  unfold addFault at hk
  split at hk
  ·left;exact ⟨by assumption,hk.symm⟩
  ·rename_i q
   have q2:(0≤a∧a < n)∧(0≤b∧b < n):=by omega
   split at hk
   ·right;left;exact ⟨q2,by assumption,hk.symm⟩
   ·split at hk
    ·right;right;left;exact ⟨q2,by assumption,by rw [←hok];simpa using by assumption,hk.symm⟩
    ·split at hk
     ·right;right;right;exact ⟨q2,by assumption,by rw [←hok];simpa using by assumption,by assumption,hk.symm⟩
     ·exact absurd hk.symm hk0
 have HN:Hid (∀ W,Ext w W→∀ (c:Int) (r:Bool),r=decide (0≤c∧c < n)→Calls Tryz.prog 105 #[.pointer (some ⟨G.gb,0,none⟩),.int .i64 c] W fun e w'=>e=.returned (.bool r)∧W=w'):=fun W hW c r hr=>gnode_any (h.m.ext hW) c r hr
 have HL:Hid (∀ W,Ext w W→∀ ty,(Builtin.len_ #[137] ty #[.map (some G.eb)]).run Tryz.prog W=.ok (.int .i64 A.length) W):=fun W hW ty=>(h.m.ext hW).lenE ty
 clear hxx hz hok hk hk0 h
 go_enter Tryz.func68,Tryz.ntmps68
 go_wp2_with fail
 refine (of_any _ a b).mono ?_
 rintro e w1 ⟨rfl,hb1⟩
 have X1:Hid (Ext w w1):=hb1
 rw [edV_ek]
 have HXA:Hid (okE (min a b,max a b)∧(if (min a b,max a b)∈A then stV (f (min a b,max a b)) else .agg #[.int .i64 0,.bool false])=stV z∧decide ((min a b,max a b)∈A)=ok):=HX.out
 generalize min a b=u at HXA ⊢
 generalize max a b=v at HXA ⊢
 clear hb1 HX
 go_wp2_with fail
 have X2:Hid (Ext w (w1.alloc (.cells #[.int .i64 u,.int .i64 v] 93))):=X1.out.trans (Ext.alloc _ _)
 have KG:Hid (∀ W,Ext (w1.alloc (.cells #[.int .i64 u,.int .i64 v] 93)) W→GRd W G w1.heap.size u v (u,v) (stV z) ok):=fun W hW=>(H.out.ext X2.out).read (Blk.new w1 _ _) HXA.out.1 HXA.out.2.1 HXA.out.2.2 hW
 generalize w1.heap.size=B at KG ⊢
 generalize w1.alloc (.cells #[.int .i64 u,.int .i64 v] 93)=w2 at X2 KG ⊢
 unfold stV at KG
 clear X1 HXA
 go_region_held3 (fun W=>Ext w2 W∧GRd W G B u v (u,v) (.agg #[.int .i64 z.lv,.bool z.tr]) ok∧W.cell? ⟨G.gb,1,none⟩=some (.map (some G.eb))∧W.cell? ⟨B,0,none⟩=some (.int .i64 u)∧W.cell? ⟨B,1,none⟩=some (.int .i64 v)∧(Instr.lookup 137 (.map (some G.eb)) (.agg #[.int .i64 u,.int .i64 v]) true).run Tryz.prog W=.ok (.tuple #[.agg #[.int .i64 z.lv,.bool z.tr],.bool ok]) W)
  ((refine (fun hE=>⟨hE,KG.out _ hE,(KG.out _ hE).c1,(KG.out _ hE).y0,(KG.out _ hE).y1,(KG.out _ hE).lk⟩:Ext w2 _→_) ?_;first | assumption | exact fst_ (by assumption) | exact Ext.refl _ | exact Ext.trans (by assumption) (Ext.alloc _ _) | exact Ext.drew _ | exact (Ext.alloc _ _).trans (Ext.drew _) | exact Ext.set_ (Ext.set_ (by assumption) (Nat.le_refl _) _) (Nat.le_refl _) _ | exact Ext.trans (fst_ (by assumption)) (by assumption) | (trace_state;fail)))
  (fail)
 all_goals
  rename_i hHeld
  have X3:Hid (Ext w (w2.alloc (Obj.cells #[.int .i64 z.lv,.bool z.tr] 150)).drew):=X2.out.trans (fst_ hHeld)
  have R3:Hid (GRd (w2.alloc (Obj.cells #[.int .i64 z.lv,.bool z.tr] 150)).drew G B u v (u,v) (.agg #[.int .i64 z.lv,.bool z.tr]) ok):=hHeld.2.1
  clear hHeld KG X2
  generalize (w2.alloc (Obj.cells #[.int .i64 z.lv,.bool z.tr] 150)).drew=w3 at X3 R3 ⊢
  generalize w2.heap.size=B2
  have N3:=Lib.hid (HN.out w3 X3.out)
  have L3:Hid (∀ ty,(Builtin.len_ #[137] ty #[.map (some G.eb)]).run Tryz.prog w3=.ok (.int .i64 A.length) w3):=HL.out w3 X3.out
  clear HN HL H
  rcases hkk.out with ⟨hr,rfl⟩ | ⟨⟨ha',hb'⟩,rfl,rfl⟩ | ⟨⟨ha',hb'⟩,hne,rfl,rfl⟩ | ⟨⟨ha',hb'⟩,hne,rfl,hl,rfl⟩
  ·by_cases ha1:0≤a∧a < n
   ·have hb1:¬ (0≤b∧b < n):=by omega
    have n1:=Lib.hid (N3.out a true (by simp [ha1]))
    have n2:=Lib.hid (N3.out b false (by simp only [hb1,decide_false]))
    clear N3 L3 hr hkk HK ha hb ha1 hb1 R3
    go_wp2_with fail
    refine n1.out.mono ?_
    rintro e w' ⟨rfl,rfl⟩
    go_wp2_with fail
    refine n2.out.mono ?_
    rintro e w' ⟨rfl,rfl⟩
    go_wp2
    go_ret
    exact ⟨rfl,X3.out⟩
   ·have n1:=Lib.hid (N3.out a false (by simp only [ha1,decide_false]))
    clear N3 L3 hr hkk HK ha hb ha1 R3
    go_wp2_with fail
    refine n1.out.mono ?_
    rintro e w' ⟨rfl,rfl⟩
    go_wp2
    go_ret
    exact ⟨rfl,X3.out⟩
  ·have n1:=Lib.hid (N3.out a true (by simp [ha']))
   clear N3 L3 hkk HK R3 ha hb ha' hb'
   go_wp2_with fail
   refine n1.out.mono ?_
   rintro e w' ⟨rfl,rfl⟩
   go_wp2_with fail
   refine n1.out.mono ?_
   rintro e w' ⟨rfl,rfl⟩
   go_wp2
   go_ret
   exact ⟨rfl,X3.out⟩
  ·have n1:=Lib.hid (N3.out a true (by simp [ha']))
   have n2:=Lib.hid (N3.out b true (by simp [hb']))
   have q:(a == b)=false:=by rw [beq_eq_false_iff_ne];exact hne
   clear N3 L3 hkk HK R3 ha hb ha' hb' hne
   go_wp2_with fail
   refine n1.out.mono ?_
   rintro e w' ⟨rfl,rfl⟩
   go_wp2_with fail
   refine n2.out.mono ?_
   rintro e w' ⟨rfl,rfl⟩
   go_wp2
   go_ret
   exact ⟨rfl,X3.out⟩
  ·have n1:=Lib.hid (N3.out a true (by simp [ha']))
   have n2:=Lib.hid (N3.out b true (by simp [hb']))
   have q:(a == b)=false:=by rw [beq_eq_false_iff_ne];exact hne
   have c1:=R3.out.c1
   have l3:=L3.out
   rw [hl] at l3
   clear N3 L3 hkk HK R3 ha hb ha' hb' hne hl
   go_wp2_with fail
   refine n1.out.mono ?_
   rintro e w' ⟨rfl,rfl⟩
   go_wp2_with fail
   refine n2.out.mono ?_
   rintro e w' ⟨rfl,rfl⟩
   go_wp2
   go_ret
   exact ⟨rfl,X3.out⟩
end
section
variable {w w':World} {G:GrP} {n N N':Nat} {A:List AK.Ed} {f:AK.Ed→GM.St} {Es:Nat→List AK.Ed}
theorem addFault_0 {a b:Int} (h:addFault n A a b=0):(0≤a∧a < n)∧(0≤b∧b < n)∧a≠b∧AK.ek a b ∉ A∧A.length≠200:=by
 unfold addFault at h
 split at h
 ·simp at h
 ·split at h
  ·simp at h
  ·split at h
   ·simp at h
   ·split at h
    ·simp at h
    ·rename_i q1 q2 q3 q4
     exact ⟨by omega,by omega,q2,q3,q4⟩
theorem GrI.added (h:GrI w G n N A f) {a b:Nat} (ha:a < n) (hb:b < n) (hne:a≠b) (hm:AK.ek a b ∉ A) {s:Bool} (hs:s=true↔¬ Cn (adj (GM.lvl f A 0)) a b)
  (hM:GrM w' G n (N+1) A f (fun j=>if j=0 then (if s then putE (AK.ek a b) (GM.lvl f A 0) else GM.lvl f A 0) else GM.lvl f A j)) (hN:N+1 < 1000000) (hc:Chg G.S w w') {W:World} (hW:Ext w' W):
  ∃ W2,(Instr.mapUpdate 137 (.map (some G.eb)) (edV (AK.ek a b)) (.agg #[.int .i64 0,.bool s])).run Tryz.prog W=.ok () W2∧GrI W2 G n (N+2) (putE (AK.ek a b) A) (GM.updS f (AK.ek a b) ⟨0,s⟩)∧GrC w W2 G G:=by
 have h60:=h.m.hn
 obtain ⟨W2,hr,hM2,hc2,hsz⟩:=(hM.ext hW).write hN (AK.ek a b) (okE_ek (by omega) (by omega)) ⟨0,s⟩
 obtain ⟨k1,k2,k3⟩:=h.k.add (by have:=h.m.pos;omega) ha hb hne hm hs
 rw [if_neg hm] at hM2
 refine ⟨W2,hr,⟨hM2.congr fun i hi=>?_,k1,h.few,by have:=h.nN;omega⟩,GrC.same (((hc.trans (Chg.of_below hW) (fun i hi hs=>by have:=hc.size;omega)).trans hc2 (fun i _ hi=>.inr (.inl hi)))) (fun _ h=>h)⟩
 by_cases e:i=0
 ·subst e;rw [if_pos rfl];exact k2
 ·rw [if_neg e];exact k3 i (by omega)
set_option maxRecDepth 100000 in
theorem gadd_ok (h:GrI w G n N A f) (hN:N+1 < 1000000) (a b:Nat) (ha:a < n) (hb:b < n) (hne:a≠b) (hm:AK.ek a b ∉ A) (hl:A.length≠200):
  Calls Tryz.prog 68 #[.pointer (some ⟨G.gb,0,none⟩),.int .i64 a,.int .i64 b] w fun e w'=>∃ s,e=.returned .nilIface∧GrI w' G n (N+2) (putE (AK.ek a b) A) (GM.updS f (AK.ek a b) ⟨0,s⟩)∧GrC w w' G G:=by
 have h60:=h.m.hn
 have H:=Lib.hid h
 have hxx:okE (AK.ek a b):=okE_ek (by omega) (by omega)
 obtain ⟨F,hF⟩:=h.m.get h.m.pos
 have HF:Hid (G.Fs[0]?=some F∧okE (AK.ek a b)∧AK.ek a b ∉ A):=⟨hF,hxx,hm⟩
 have HN:Hid (∀ W,Ext w W→∀ (c:Nat),c < n→Calls Tryz.prog 105 #[.pointer (some ⟨G.gb,0,none⟩),.int .i64 c] W fun e w'=>e=.returned (.bool true)∧W=w'):=fun W hW c hc=>gnode_any (h.m.ext hW) c true (by simp [hc])
 have hq:((a:Int) == (b:Int))=false:=by rw [beq_eq_false_iff_ne];omega
 have hpos:(0:Int) < (G.Fs.length:Int):=by have:=h.m.pos;omega
 have hl2:((A.length:Int) == 200)=false:=by rw [beq_eq_false_iff_ne];omega
 obtain ⟨F0,hF0⟩:∃ F0,F.fb=F0:=⟨_,rfl⟩
 have HFB:=Lib.hid hF0
 clear hxx h hm hF hne hl hF0
 go_enter Tryz.func68,Tryz.ntmps68
 go_wp2_with fail
 refine (of_any _ (a:Int) (b:Int)).mono ?_
 rintro e w1 ⟨rfl,hb1⟩
 have X1:Hid (Ext w w1):=hb1
 rw [edV_ek]
 have HXA:Hid (AK.ek (a:Int) b=(min (a:Int) b,max (a:Int) b)):=rfl
 generalize min (a:Int) b=u at HXA ⊢
 generalize max (a:Int) b=v at HXA ⊢
 clear hb1
 go_wp2_with fail
 have X2:Hid (Ext w (w1.alloc (.cells #[.int .i64 u,.int .i64 v] 93))):=X1.out.trans (Ext.alloc _ _)
 have B2:Hid (Blk (w1.alloc (.cells #[.int .i64 u,.int .i64 v] 93)) w1.heap.size 93 #[.int .i64 u,.int .i64 v]∧w.heap.size≤w1.heap.size):=⟨Blk.new w1 _ _,X1.out.size⟩
 generalize w1.heap.size=B at B2 ⊢
 generalize w1.alloc (.cells #[.int .i64 u,.int .i64 v] 93)=w2 at X2 B2 ⊢
 have KG:Hid (∀ W,Ext w2 W→GRd W G B u v (u,v) (.agg #[.int .i64 0,.bool false]) false):=fun W hW=>by
  have hm:=HF.out.2.2
  rw [HXA.out] at hm
  exact (H.out.m.ext X2.out).read B2.out.1 (by have:=HF.out.2.1;rw [HXA.out] at this;exact this) (by rw [if_neg hm]) (by simp [hm]) hW
 clear X1
 go_region_held3 (fun W=>Ext w2 W∧GRd W G B u v (u,v) (.agg #[.int .i64 0,.bool false]) false∧W.cell? ⟨G.gb,1,none⟩=some (.map (some G.eb))∧W.cell? ⟨B,0,none⟩=some (.int .i64 u)∧W.cell? ⟨B,1,none⟩=some (.int .i64 v)∧(Instr.lookup 137 (.map (some G.eb)) (.agg #[.int .i64 u,.int .i64 v]) true).run Tryz.prog W=.ok (.tuple #[.agg #[.int .i64 0,.bool false],.bool false]) W)
  ((refine (fun hE=>⟨hE,KG.out _ hE,(KG.out _ hE).c1,(KG.out _ hE).y0,(KG.out _ hE).y1,(KG.out _ hE).lk⟩:Ext w2 _→_) ?_;first | assumption | exact fst_ (by assumption) | exact Ext.refl _ | exact Ext.trans (by assumption) (Ext.alloc _ _) | exact Ext.drew _ | exact (Ext.alloc _ _).trans (Ext.drew _) | exact Ext.set_ (Ext.set_ (by assumption) (Nat.le_refl _) _) (Nat.le_refl _) _ | exact Ext.trans (fst_ (by assumption)) (by assumption) | (trace_state;fail)))
  (fail)
 all_goals
  rename_i hHeld
  have X3:Hid (Ext w (w2.alloc (Obj.cells #[.int .i64 0,.bool false] 150)).drew):=X2.out.trans (fst_ hHeld)
  have B3:Hid (Blk (w2.alloc (Obj.cells #[.int .i64 0,.bool false] 150)).drew B 93 #[.int .i64 u,.int .i64 v]):=B2.out.1.chg (Chg.of_below (fst_ hHeld)) (by have:=B2.out.1.lt;omega)
  clear hHeld KG X2
  generalize (w2.alloc (Obj.cells #[.int .i64 0,.bool false] 150)).drew=w3 at X3 B3 ⊢
  generalize w2.heap.size=B9
  have H3:=Lib.hid (H.out.m.ext X3.out)
  have n1:=Lib.hid (HN.out w3 X3.out a ha)
  have n2:=Lib.hid (HN.out w3 X3.out b hb)
  have c1:w3.cell? ⟨G.gb,1,none⟩=some (.map (some G.eb)):=H3.out.blk.cell 1
  have c2:w3.cell? ⟨G.gb,2,none⟩=some (.slice (some ⟨G.ob,0,none⟩) G.Fs.length G.c):=H3.out.blk.cell 2
  have c3:=H3.out.cellF HF.out.1
  rw [HFB.out] at c3
  have l3:=H3.out.lenE
  go_wp2_with fail
  refine n1.out.mono ?_
  rintro e w' ⟨rfl,rfl⟩
  go_wp2_with fail
  refine n2.out.mono ?_
  rintro e w' ⟨rfl,rfl⟩
  clear HN n1 n2
  have hF3:=H3.out.fo 0 F HF.out.1
  by_cases hc:Cn (adj (GM.lvl f A 0)) a b
  ·have TS:=tsame_ok hF3 a b ha hb true (by simp [hc])
   rw [HFB.out] at TS
   have TS:=Lib.hid TS
   have HC:Hid ((false:Bool)=true↔¬ Cn (adj (GM.lvl f A 0)) a b):=by simp [Hid,hc]
   clear hc hF3
   go_wp2_with fail
   refine TS.out.mono ?_
   rintro e w4 ⟨rfl,hx4⟩
   have H4:Hid (GrM w4 G n (N+1) A f (fun j=>if j=0 then (if (false:Bool) then putE (AK.ek (a:Int) b) (GM.lvl f A 0) else GM.lvl f A 0) else GM.lvl f A j)):=((H3.out.ext hx4).mono (by omega)).congr fun i _=>by by_cases e:i=0 <;> simp [e]
   have B4:Hid (Blk w4 B 93 #[.int .i64 u,.int .i64 v]):=B3.out.chg (Chg.of_below hx4) (by have:=B3.out.lt;omega)
   have C4:Hid (Chg G.S w w4):=Chg.new (X3.out.trans hx4) _
   have d1:w4.cell? ⟨G.gb,1,none⟩=some (.map (some G.eb)):=H4.out.blk.cell 1
   have y0:w4.cell? ⟨B,0,none⟩=some (.int .i64 u):=B4.out.cell 0
   have y1:w4.cell? ⟨B,1,none⟩=some (.int .i64 v):=B4.out.cell 1
   obtain ⟨W2,hr,hf,hg⟩:=H.out.added ha hb (fun e=>by subst e;simp at hq) HF.out.2.2 HC.out H4.out hN C4.out (Ext.drew w4)
   have HR:Hid (GrI W2 G n (N+2) (putE (AK.ek (a:Int) b) A) (GM.updS f (AK.ek (a:Int) b) ⟨0,false⟩)∧GrC w W2 G G):=⟨hf,hg⟩
   rw [HXA.out,show edV (u,v)=.agg #[.int .i64 u,.int .i64 v] from rfl] at hr
   clear hx4 hf hg H3 H4 B3 B4 C4 X3 TS HC c1 c2 c3 l3
   go_wp2
   go_still_tail 8,(by kernel_rfl)
   go_wp2
   go_ret
   exact ⟨false,rfl,HR.out⟩
  ·have TS:=tsame_ok hF3 a b ha hb false (by simp [hc])
   rw [HFB.out] at TS
   have TS:=Lib.hid TS
   have HC:Hid (¬ Cn (adj (GM.lvl f A 0)) a b):=hc
   clear hF3
   go_wp2_with fail
   refine TS.out.mono ?_
   rintro e w4 ⟨rfl,hx4⟩
   have H4:=Lib.hid (H3.out.ext hx4)
   have B4:Hid (Blk w4 B 93 #[.int .i64 u,.int .i64 v]):=B3.out.chg (Chg.of_below hx4) (by have:=B3.out.lt;omega)
   have X4:Hid (Ext w w4):=X3.out.trans hx4
   have d2:w4.cell? ⟨G.gb,2,none⟩=some (.slice (some ⟨G.ob,0,none⟩) G.Fs.length G.c):=H4.out.blk.cell 2
   have d3:=H4.out.cellF HF.out.1
   have TL:=tlink_ok (H4.out.fo 0 F HF.out.1) (by omega) a b ha hb hc
   rw [HFB.out] at d3 TL
   have TL:=Lib.hid TL
   clear hx4 H3 B3 X3 TS c1 c2 c3 l3 hc
   go_wp2_with fail
   refine TL.out.mono ?_
   rintro e w5 ⟨rfl,hf5,hc5⟩
   have H5:Hid (GrM w5 G n (N+1) A f (fun j=>if j=0 then (if (true:Bool) then putE (AK.ek (a:Int) b) (GM.lvl f A 0) else GM.lvl f A 0) else GM.lvl f A j)):=by
    have:=H4.out.turn HF.out.1 hf5 (by omega) hc5
    show GrM w5 G n (N+1) A f _
    simpa using this
   have B5:Hid (Blk w5 B 93 #[.int .i64 u,.int .i64 v]):=B4.out.chg hc5 (fun e=>by
    have h1:=(H.out.m.fo 0 F HF.out.1).lt.2 _ e
    have:=B2.out.2
    omega)
   have C5:Hid (Chg G.S w w5):=(Chg.new X4.out _).trans hc5 (fun i hi hs=>.inr (.inr (.inr ⟨0,F,HF.out.1,hs⟩)))
   have d1:w5.cell? ⟨G.gb,1,none⟩=some (.map (some G.eb)):=H5.out.blk.cell 1
   have y0:w5.cell? ⟨B,0,none⟩=some (.int .i64 u):=B5.out.cell 0
   have y1:w5.cell? ⟨B,1,none⟩=some (.int .i64 v):=B5.out.cell 1
   obtain ⟨W2,hr,hf,hg⟩:=H.out.added ha hb (fun e=>by subst e;simp at hq) HF.out.2.2 (s:=true) ⟨fun _=>HC.out,fun _=>rfl⟩ H5.out hN C5.out (Ext.drew w5)
   have HR:Hid (GrI W2 G n (N+2) (putE (AK.ek (a:Int) b) A) (GM.updS f (AK.ek (a:Int) b) ⟨0,true⟩)∧GrC w W2 G G):=⟨hf,hg⟩
   rw [HXA.out,show edV (u,v)=.agg #[.int .i64 u,.int .i64 v] from rfl] at hr
   clear hf hg H5 H4 B4 B5 C5 X4 TL HC d2 d3 hf5 hc5
   go_wp2
   go_still_tail 8,(by kernel_rfl)
   go_wp2
   go_ret
   exact ⟨true,rfl,HR.out⟩
theorem gadd_any (h:GrI w G n N A f) (hN:N+1 < 1000000) (a b:Int) (ha:-9223372036854775808≤a∧a≤9223372036854775807) (hb:-9223372036854775808≤b∧b≤9223372036854775807):
  Calls Tryz.prog 68 #[.pointer (some ⟨G.gb,0,none⟩),.int .i64 a,.int .i64 b] w (GAddPost w G n N A f a b):=by
 by_cases hk:addFault n A a b=0
 ·obtain ⟨h1,h2,h3,h4,h5⟩:=addFault_0 hk
  obtain ⟨a',rfl⟩:=Int.eq_ofNat_of_zero_le h1.1
  obtain ⟨b',rfl⟩:=Int.eq_ofNat_of_zero_le h2.1
  exact (gadd_ok h hN a' b' (by omega) (by omega) (by omega) h4 h5).mono fun e w' q=>.inr ⟨hk,q⟩
 ·exact (gadd_bad h a b ha hb rfl hk).mono fun e w' q=>.inl ⟨_,rfl,hk,q⟩
end
theorem comp_sz (n:Nat) (E:List AK.Ed) (a:Nat):(comp n E a).length=GM.sz n (adj E) a:=by
 unfold comp GM.sz
 rw [List.length_map]
 generalize (fun u=>by classical exact decide (Cn (adj E) a u):Nat→Bool)=p
 have:∀ m,((List.range m).filter p).length=PD.cnt p m:=by
  intro m
  induction m with
  | zero=>rfl
  | succ m ih=>
   rw [List.range_succ,List.filter_append,List.length_append,ih]
   show _=PD.cnt p m+if p m=true then 1 else 0
   cases h:p m <;> simp [h]
 exact this n
theorem gcomp_len (n:Nat) (E:List AK.Ed) (a:Nat):(comp n E a).length≤n:=by
 unfold comp
 rw [List.length_map]
 exact Nat.le_trans (List.length_filter_le _ _) (by simp)
theorem EdgesPost.use {w w':World} {E:List AK.Ed} {e:Ending} (h:EdgesPost w E e w'):∃ A c,e=.returned (.slice A E.length c)∧EdsAt w' A E∧Ext w w'∧E.length≤c∧∀ x,A=some x→w.heap.size≤x.block:=by
 obtain ⟨A,c,rfl,h1,h2,h3⟩:=h
 refine ⟨A,c,rfl,(DRow.eds h1 rfl).1,h2,(DRow.eds h1 rfl).2,fun x hx=>?_⟩
 rcases h1.2 with ⟨h4,_⟩ | ⟨g',c',cur,h4,_⟩
 ·simp at h4;rw [h4.1] at hx;cases hx
 ·simp only [Value.slice.injEq] at h4
  have h5:=h3 g' (by rw [h4.1];simp [Value.ownBlock])
  rw [h4.1] at hx
  injection hx with hx
  subst hx
  exact h5
theorem MemPost.use {w w':World} {xs:List Int} {e:Ending} (h:MemPost w xs e w'):∃ A c,e=.returned (.tuple #[.slice A xs.length c,.nilIface])∧IntsAt w' A xs∧Ext w w'∧xs.length≤c:=by
 obtain ⟨A,c,rfl,h1,h2,h3⟩:=h
 refine ⟨A,c,rfl,(IntsAt.of_own h1).1,h2,?_⟩
 rcases Nat.eq_zero_or_pos xs.length with h0 | h0
 ·omega
 ·obtain ⟨g,cap,hv,hc,_⟩:=own_form h1 h0
  simp only [Value.slice.injEq] at hv
  omega
def InAt (w:World) (mb:Nat) (S:List Int):Prop:=∃ N s m,N≤S.length∧VM kI w mb N s m∧∀ z,kI.ok z→m z=if z∈S then some (.int .i64 1) else none
section
variable {w w' w5 W:World} {mb:Nat} {S:List Int}
theorem InAt.made (w:World):InAt (w.alloc (.map #[] 0)) w.heap.size []:=⟨0,0,_,Nat.le_refl _,VM.made kI w,fun z _=>by simp⟩
theorem InAt.lt (h:InAt w mb S):mb < w.heap.size:=by obtain ⟨N,s,m,h0,h1,h2⟩:=h;exact h1.lt
theorem InAt.chg {T:Nat→Prop} (h:InAt w mb S) (hc:Chg T w w') (hn:¬ T mb):InAt w' mb S:=by
 obtain ⟨N,s,m,h0,h1,h2⟩:=h;exact ⟨N,s,m,h0,h1.chg hc hn,h2⟩
theorem InAt.ext (h:InAt w mb S) (hx:Ext w w'):InAt w' mb S:=h.chg (Chg.of_below hx) (by have:=h.lt;omega)
theorem zeroIntG (w:World):(zeroValue 3).run Tryz.prog w=.ok (.int .i64 0) w:=by kernel_rfl
theorem InAt.look (h:InAt w mb S) (z:Int) (hz:kI.ok z) {v:Int} (hv:v=if z∈S then 1 else 0):(Instr.lookup 300 (.map (some mb)) (.int .i64 z) false).run Tryz.prog w=.ok (.int .i64 v) w:=by
 obtain ⟨N,s,m,h0,h1,h2⟩:=h
 have:(Instr.lookup 300 (.map (some mb)) (.int .i64 z) false).run Tryz.prog w=_:=h1.look Tryz.underlying300 (zeroIntG _) z hz
 rw [this,h2 z hz,hv]
 by_cases q:z∈S
 ·rw [if_pos q,if_pos q];rfl
 ·rw [if_neg q,if_neg q];rfl
theorem InAt.put (h:InAt w mb S) (hl:S.length < 1000000) (z:Int) (hz:kI.ok z):∃ w',(Instr.mapUpdate 300 (.map (some mb)) (.int .i64 z) (.int .i64 1)).run Tryz.prog w=.ok () w'∧InAt w' mb (S++[z])∧Chg (fun k=>k=mb) w w':=by
 obtain ⟨N,s,m,h0,h1,h2⟩:=h
 obtain ⟨w2,hr,hv,hc,hs⟩:=h1.put Tryz.underlying300 (by omega) z hz (.int .i64 1)
 refine ⟨w2,hr,⟨N+1,_,_,by simp;omega,hv,fun y hy=>?_⟩,hc⟩
 unfold updV
 by_cases e:y=z
 ·subst e;simp
 ·rw [if_neg e,h2 y hy];simp [e]
theorem okI_of {z:Int} (h:-1000≤z∧z≤1000000):kI.ok z:=WalkArith.wf_i64 (by omega)
end
section
variable {w w' w5 W:World} {G G':GrP} {n N N' i:Nat} {A L:List AK.Ed} {f f' fk:AK.Ed→GM.St} {Es:Nat→List AK.Ed} {F:FoP} {x:AK.Ed} {S:Nat→Bool}
theorem GrM.congrF (h:GrM w G n N A f Es) (hf:∀ x∈A,f' x=f x):GrM w G n N A f' Es:=by
 obtain ⟨me,m1,m2⟩:=h.edges
 refine ⟨h.blk,h.hn,h.row,h.pos,h.fo,⟨me,m1,fun x hx=>?_⟩,h.ap,h.ap2⟩
 rw [m2 x hx]
 by_cases q:x∈A
 ·rw [if_pos q,if_pos q,hf x q]
 ·rw [if_neg q,if_neg q]
theorem GrM.raise (h:GrM w G n N A (GM.upL f i S L) (GM.lvl (GM.upL f i S L) A)) (hup:A.Pairwise ltE) (hL:∀ y∈L,(f y).tr=true) (hxA:x∈A) (hx:okE x) (htr:(f x).tr=true) (hxL:x ∉ L) (hxS:(f x).lv=i∧S x.1.toNat=true∧S x.2.toNat=true)
  (hF:G.Fs[i+1]?=some F) (hf:FoAt w5 F n (N+1) (putE x (GM.lvl (GM.upL f i S L) A (i+1)))) (hc:Chg F.S w w5) (hW:Ext w5 W) (hN:N+1 < 1000000):
  ∃ W2,(Instr.mapUpdate 137 (.map (some G.eb)) (edV x) (.agg #[.int .i64 ((i:Int)+1),.bool true])).run Tryz.prog W=.ok () W2∧GrM W2 G n (N+2) A (GM.upL f i S (L++[x])) (GM.lvl (GM.upL f i S (L++[x])) A)∧Chg G.S w W2:=by
 have h5:=h.turn hF hf (by omega) hc
 obtain ⟨W2,hr,hM2,hc2,hsz⟩:=(h5.ext hW).write hN x hx ⟨i+1,true⟩
 rw [if_pos hxA,←GM.upL_yes hxS] at hM2
 have hc1:Chg G.S w w5:=hc.mono fun k _ hk=>.inr (.inr (.inr ⟨_,F,hF,hk⟩))
 have hL':∀ y∈L++[x],(f y).tr=true:=fun y hy=>by
  rcases List.mem_append.1 hy with q | q
  ·exact hL y q
  ·rw [List.mem_singleton.1 q];exact htr
 refine ⟨W2,hr,hM2.congr fun j hj=>?_,(hc1.trans (Chg.of_below hW) (fun i hi hs=>by have:=hc1.size;omega)).trans hc2 (fun i _ hi=>.inr (.inl hi))⟩
 by_cases e:j=i+1
 ·subst e;rw [if_pos rfl];exact GM.lvl_upL_snoc hup hL hxA htr hxL hxS
 ·rw [if_neg e,GM.lvl_upL_ne hL' e,GM.lvl_upL_ne hL e]
theorem GrM.write' (h:GrM w G n N A fk Es) (hxA:x∈A) (hx:okE x) (hN:N < 1000000) (hW:Ext w W) (s:GM.St):
  ∃ W2,(Instr.mapUpdate 137 (.map (some G.eb)) (edV x) (stV s)).run Tryz.prog W=.ok () W2∧GrM W2 G n (N+1) A (GM.updS fk x s) Es∧Chg G.S w W2∧Chg G.S W W2:=by
 obtain ⟨W2,hr,hM2,hc2,hsz⟩:=(h.ext hW).write hN x hx s
 rw [if_pos hxA] at hM2
 have hc1:Chg G.S w W:=Chg.new hW _
 exact ⟨W2,hr,hM2,hc1.trans hc2 (fun i _ hi=>.inr (.inl hi)),hc2.mono (fun i _ hi=>.inr (.inl hi))⟩
end
def Pick2 (a b c d:Nat):Prop:=(c=a∧d=b)∨(c=b∧d=a)
theorem gints_at {w:World} {A:Option Addr} {xs:List Int} {i:Nat} (h:IntsAt w A xs) (hi:i < xs.length):∃ b off,A=some ⟨b,off,none⟩∧w.cell? ⟨b,off+i,none⟩=some (.int .i64 (xs.getD i 0)):=by
 rcases h with h | ⟨b,off,rfl,hb,hc⟩
 ·subst h;simp at hi
 ·exact ⟨b,off,rfl,hc i _ (by rw [List.getElem?_eq_getElem hi];simp [List.getD,List.getElem?_eq_getElem hi])⟩
theorem geds_at {w:World} {A:Option Addr} {E:List AK.Ed} {i:Nat} (h:EdsAt w A E) (hi:i < E.length):∃ b off x,A=some ⟨b,off,none⟩∧E[i]?=some x∧w.cell? ⟨b,off+i * 2,none⟩=some (.int .i64 x.1)∧w.cell? ⟨b,off+i * 2+1,none⟩=some (.int .i64 x.2):=by
 rcases h with h | ⟨b,off,rfl,hb,hc⟩
 ·subst h;simp at hi
 ·have:=List.getElem?_eq_getElem hi
  exact ⟨b,off,_,rfl,this,(hc i _ this).1,(hc i _ this).2⟩
theorem Ext.chg_new {w w1 w2:World} {T:Nat→Prop} (h:Ext w w1) (hc:Chg T w1 w2) (hT:∀ k,T k→w.heap.size≤k):Ext w w2:=
 ((Chg.of_below h).trans hc (fun i _ hi=>hT i hi)).below (Nat.le_refl _) (fun _ _ h=>h)
def inS (X:List Int) (v:Nat):Bool:=decide ((v:Int)∈X)
theorem side_of {n i a b c d:Nat} {A:List AK.Ed} {f:AK.Ed→GM.St} (hp:Pick2 a b c d) (ha:a < n) (hb:b < n):GM.Side n (adj (GM.lvl f A i)) a b (inS (comp n (GM.lvl f A i) c)):=by
 refine ⟨c,hp.imp (·.1) (·.1),?_,fun x hx=>?_⟩
 ·rcases hp with ⟨rfl,_⟩ | ⟨rfl,_⟩ <;> assumption
 ·unfold inS
  rw [decide_eq_true_eq,comp_mem]
  exact ⟨fun ⟨u,h1,h2,h3⟩=>by
     have:x=u:=by omega
     subst this;exact h2,fun h=>⟨x,hx,h,rfl⟩⟩
structure MdC (n t:Nat) (A:List AK.Ed) (f:AK.Ed→GM.St) (a b i:Nat) (X:List Int):Prop where
 bok:GM.BOk n t A f a b i
 side:GM.Side n (adj (GM.lvl f A i)) a b (inS X)
 half:∃ c,(c=a∨c=b)∧c < n∧(∀ x,x < n→(inS X x=true↔Cn (adj (GM.lvl f A i)) c x))∧GM.sz n (adj (GM.lvl f A i)) c * 2≤GM.sz n (Ad (adj (GM.lvl f A i)) a b) c
theorem mdC_of {n t i a b c d:Nat} {A:List AK.Ed} {f:AK.Ed→GM.St} (h:GM.BOk n t A f a b i) (hp:Pick2 a b c d) (ha:a < n) (hb:b < n) (hle:(comp n (GM.lvl f A i) c).length≤(comp n (GM.lvl f A i) d).length):MdC n t A f a b i (comp n (GM.lvl f A i) c):=by
 have hs:=side_of (f:=f) (A:=A) (i:=i) hp ha hb
 refine ⟨h,hs,c,hp.imp (·.1) (·.1),?_,fun x hx=>?_,?_⟩
 ·rcases hp with ⟨rfl,_⟩ | ⟨rfl,_⟩ <;> assumption
 ·unfold inS
  rw [decide_eq_true_eq,comp_mem]
  exact ⟨fun ⟨u,h1,h2,h3⟩=>by
     have:x=u:=by omega
     subst this;exact h2,fun h=>⟨x,hx,h,rfl⟩⟩
 ·rw [comp_sz,comp_sz] at hle
  exact GM.half h hp hle
theorem GM_base_mono {n t t':Nat} {A:List AK.Ed} {f:AK.Ed→GM.St} (h:GM.Base n t A f) (ht:t≤t'):GM.Base n t' A f:=⟨h.ok,h.up,h.fs,fun x hx=>Nat.lt_of_lt_of_le (h.top x hx) ht⟩
theorem MdC.mono {n t t' i a b:Nat} {A:List AK.Ed} {f:AK.Ed→GM.St} {X:List Int} (h:MdC n t A f a b i X) (ht:t≤t'):MdC n t' A f a b i X:=
 ⟨⟨GM_base_mono h.bok.toBase ht,h.bok.na,h.bok.hi,h.bok.lo,h.bok.smh,h.bok.sml⟩,h.side,h.half⟩
def Up1 (w5 wr:World) (G':GrP) (n N:Nat) (A:List AK.Ed) (f:AK.Ed→GM.St) (i:Nat) (X:List Int) (L:List AK.Ed):Prop:=GrM wr G' n N A (GM.upL f i (inS X) L) (GM.lvl (GM.upL f i (inS X) L) A)∧Chg G'.S w5 wr
theorem Up1.start {w5:World} {G':GrP} {n N i:Nat} {A T:List AK.Ed} {f:AK.Ed→GM.St} {X:List Int} (h:GrM w5 G' n N A f (GM.lvl f A)):Up1 w5 w5 G' n N A f i X (T.take 0):=by
 unfold Up1
 rw [List.take_zero,GM.upL_nil]
 exact ⟨h,Chg.refl _ _⟩
theorem inS_of {X:List Int} {v:Nat}:inS X v=true↔(v:Int)∈X:=by unfold inS;rw [decide_eq_true_eq]
theorem Up1.no {w5 wr w7:World} {G':GrP} {n N N' i:Nat} {A L:List AK.Ed} {f:AK.Ed→GM.St} {X:List Int} {x:AK.Ed} (h:Up1 w5 wr G' n N A f i X L) (hx:Ext wr w7) (hN:N≤N') (hno:¬ ((f x).lv=i∧inS X x.1.toNat=true∧inS X x.2.toNat=true)):Up1 w5 w7 G' n N' A f i X (L++[x]):=by
 unfold Up1
 rw [GM.upL_no hno]
 exact ⟨(h.1.ext hx).mono hN,h.2.trans (Chg.of_below hx) fun i hi hs=>by have:=h.2.size;omega⟩
def Ri1 (w5 wr:World) (G':GrP) (n N:Nat) (A:List AK.Ed) (f1:AK.Ed→GM.St) (a b i:Nat) (X:List Int) (k:Nat):Prop:=∃ fk,GM.M2 n G'.Fs.length A f1 a b i (inS X) k fk∧GrM wr G' n N A fk (GM.lvl fk A)∧Chg G'.S w5 wr
theorem Chg.step {S:Nat→Prop} {w5 wr w7:World} (h:Chg S w5 wr) (hc:Chg S wr w7):Chg S w5 w7:=h.trans hc fun _ _ h=>h
theorem Chg.stepE {S:Nat→Prop} {w5 wr w7:World} (h:Chg S w5 wr) (hx:Ext wr w7):Chg S w5 w7:=h.trans (Chg.of_below hx) fun i hi hs=>by have:=h.size;omega
theorem runFieldS (l:Int) (t:Bool) (w:World):(Instr.field 150 (.agg #[.int .i64 l,.bool t]) 0).run Tryz.prog w=.ok (.int .i64 l) w:=by kernel_rfl
theorem Up1.done {w5 wr:World} {G':GrP} {n N i:Nat} {A:List AK.Ed} {f:AK.Ed→GM.St} {X:List Int} (h:Up1 w5 wr G' n N A f i X (GM.lvl f A 0)):GrM wr G' n N A (GM.upT f A i (inS X)) (GM.lvl (GM.upT f A i (inS X)) A)∧Chg G'.S w5 wr:=by
 have hf:∀ x∈A,GM.upT f A i (inS X) x=GM.upL f i (inS X) (GM.lvl f A 0) x:=fun x hx=>(GM.upL_all x hx).symm
 exact ⟨(h.1.congrF hf).congr fun j _=>GM.lvl_congr hf j,h.2⟩
theorem Ri1.start {w:World} {G':GrP} {n N i a b:Nat} {A:List AK.Ed} {f1:AK.Ed→GM.St} {X:List Int} (h:GrM w G' n N A f1 (GM.lvl f1 A)) (hb:GM.BOk n G'.Fs.length A f1 a b i):Ri1 w w G' n N A f1 a b i X 0:=⟨f1,.start hb,h,Chg.refl _ _⟩
structure Ri2 (w5 wr:World) (G':GrP) (n N:Nat) (A:List AK.Ed) (f1 fk:AK.Ed→GM.St) (a b i:Nat) (X:List Int) (k u v:Nat):Prop where
 m:GM.M2 n G'.Fs.length A f1 a b i (inS X) k fk
 g:GrM wr G' n N A fk (GM.lvl fk A)
 c:Chg G'.S w5 wr
 x:A[k]?=some ((u:Int),(v:Int))
 ek:AK.ek u v=((u:Int),(v:Int))
 lt:u < v∧v < n
theorem Ri1.at_ {w5 wr:World} {G':GrP} {n N i a b k:Nat} {A:List AK.Ed} {f1:AK.Ed→GM.St} {X:List Int} (h:Ri1 w5 wr G' n N A f1 a b i X k) {x:AK.Ed} (hx:A[k]?=some x):∃ (fk:AK.Ed→GM.St) (u v:Nat),x=((u:Int),(v:Int))∧Ri2 w5 wr G' n N A f1 fk a b i X k u v:=by
 obtain ⟨fk,h1,h2,h3⟩:=h
 obtain ⟨u,v,e1,e2,rfl,e4⟩:=GM.ek_form (h1.ok.ok _ (List.mem_of_getElem? hx))
 exact ⟨fk,u,v,rfl,h1,h2,h3,hx,e4,e1,e2⟩
section
variable {w5 wr w7:World} {G':GrP} {n N N' i a b k u v:Nat} {A:List AK.Ed} {f1 fk:AK.Ed→GM.St} {X:List Int}
theorem Ri2.mem (h:Ri2 w5 wr G' n N A f1 fk a b i X k u v):((u:Int),(v:Int))∈A:=List.mem_of_getElem? h.x
theorem Ri2.ok (h:Ri2 w5 wr G' n N A f1 fk a b i X k u v):okE ((u:Int),(v:Int)):=by
 have:=h.g.hn;have:=h.lt
 exact okE_of (by simp only;omega) (by simp only;omega)
theorem Ri2.skip (h:Ri2 w5 wr G' n N A f1 fk a b i X k u v) (hx:Ext wr w7) (hN:N≤N') (hs:(fk ((u:Int),(v:Int))).tr=true∨(fk ((u:Int),(v:Int))).lv≠i∨(inS X u=false∧inS X v=false)):Ri1 w5 w7 G' n N' A f1 a b i X (k+1):=
 ⟨fk,h.m.skip h.x (by simpa using hs),(h.g.ext hx).mono hN,h.c.stepE hx⟩
theorem Ri2.rise (h:Ri2 w5 wr G' n N A f1 fk a b i X k u v) (hx:Ext wr w7) (hN:N < 1000000) (ht:(fk ((u:Int),(v:Int))).tr=false) (hl:(fk ((u:Int),(v:Int))).lv=i) (hs:inS X u=true∧inS X v=true)
  (hin:∀ x y,x < n→y < n→inS X x=true→inS X y=true→Cn (adj (GM.lvl f1 A (i+1))) x y) (hti:i+1 < G'.Fs.length):
  ∃ W2,(Instr.mapUpdate 137 (.map (some G'.eb)) (.agg #[.int .i64 u,.int .i64 v]) (.agg #[.int .i64 ((i:Int)+1),.bool false])).run Tryz.prog w7=.ok () W2∧Ri1 w5 W2 G' n (N+1) A f1 a b i X (k+1):=by
 obtain ⟨W2,hr,hM,hc,hc'⟩:=h.g.write' h.mem h.ok hN hx ⟨i+1,false⟩
 exact ⟨W2,hr,_,h.m.rise h.x ht hl (by simpa using hs) hin hti,hM.congr fun j _=>GM.lvl_nt ht rfl j,h.c.step hc⟩
structure Ri3 (w5 wr:World) (G':GrP) (n N:Nat) (A:List AK.Ed) (f1 fk f2:AK.Ed→GM.St) (i u v j:Nat):Prop where
 g:GrM wr G' n N A f2 (fun q=>if q < j then putE (AK.ek u v) (GM.lvl fk A q) else GM.lvl fk A q)
 c:Chg G'.S w5 wr
 k:GM.GOk n G'.Fs.length A f2
 lo:∀ j,j≤i→¬ Cn (adj (GM.lvl fk A j)) u v∧GM.lvl f2 A j=putE (AK.ek u v) (GM.lvl fk A j)
 hi:∀ j,i < j→GM.lvl f2 A j=GM.lvl fk A j
 up:∀ y∈A,(f1 y).lv≤(f2 y).lv
theorem Ri2.found (h:Ri2 w5 wr G' n N A f1 fk a b i X k u v) (hx:Ext wr w7) (hN:N < 1000000) (ht:(fk ((u:Int),(v:Int))).tr=false) (hl:(fk ((u:Int),(v:Int))).lv=i) (hS:GM.Side n (adj (GM.lvl f1 A i)) a b (inS X)) (hs:¬ (inS X u=true↔inS X v=true)):
  ∃ W2 f2,(Instr.mapUpdate 137 (.map (some G'.eb)) (.agg #[.int .i64 u,.int .i64 v]) (.agg #[.int .i64 i,.bool true])).run Tryz.prog w7=.ok () W2∧Ri3 w5 W2 G' n (N+1) A f1 fk f2 i u v 0∧Chg G'.S w7 W2:=by
 obtain ⟨W2,hr,hM,hc,hc'⟩:=h.g.write' h.mem h.ok hN hx ⟨i,true⟩
 obtain ⟨u',v',_,_,e1,e2,k1,k2,k3,k4⟩:=h.m.found hS h.x ht hl (by simpa using hs)
 rw [Prod.mk.injEq] at e1
 have hu:u'=u:=by omega
 have hv:v'=v:=by omega
 subst hu hv
 refine ⟨W2,_,hr,⟨hM.congr fun j _=>by rw [if_neg (Nat.not_lt_zero _)],h.c.step hc,k1,fun j hj=>?_,k3,k4⟩,hc'⟩
 rw [h.ek]
 exact k2 j hj
theorem Ri3.next {j:Nat} {f2:AK.Ed→GM.St} {F:FoP} (h:Ri3 w5 wr G' n N A f1 fk f2 i u v j) (hF:G'.Fs[j]?=some F) (hx:Ext wr w7) {w8:World} (hf:FoAt w8 F n (N+1) (putE (AK.ek u v) (GM.lvl fk A j))) (hc:Chg F.S w7 w8):Ri3 w5 w8 G' n (N+1) A f1 fk f2 i u v (j+1):=by
 refine ⟨((h.g.ext hx).turn hF hf (by omega) hc).congr fun q _=>?_,(h.c.stepE hx).step (hc.mono fun k _ hk=>.inr (.inr (.inr ⟨_,F,hF,hk⟩))),h.k,h.lo,h.hi,h.up⟩
 by_cases e:q=j
 ·subst e;simp
 ·rw [if_neg e]
  by_cases e2:q < j
  ·rw [if_pos e2,if_pos (by omega)]
  ·rw [if_neg e2,if_neg (by omega)]
theorem Ri3.end_ {f2:AK.Ed→GM.St} (h:Ri3 w5 wr G' n N A f1 fk f2 i u v (i+1)) (h6:G'.Fs.length≤6) (hnN:n≤N):GrI wr G' n N A f2:=by
 refine ⟨h.g.congr fun q _=>?_,h.k,h6,hnN⟩
 by_cases e:q < i+1
 ·rw [if_pos e];exact (h.lo q (by omega)).2
 ·rw [if_neg e];exact h.hi q (by omega)
end
def MendPost (w:World) (G:GrP) (n N:Nat) (A:List AK.Ed) (f:AK.Ed→GM.St) (a b i:Nat) (e:Ending) (w':World):Prop:=
 ∃ (G':GrP) (f':AK.Ed→GM.St),GrC w w' G G'∧(∀ x∈A,(f x).lv≤(f' x).lv)∧G'.Fs.length≤6∧G.Fs.length≤G'.Fs.length∧
  ((e=.returned (.tuple #[.bool true,.nilIface])∧GrI w' G' n (N+700) A f')∨
   (e=.returned (.tuple #[.bool false,.nilIface])∧GrM w' G' n (N+700) A f' (GM.lvl f' A)∧GM.BOk n G'.Fs.length A f' a b i∧(∀ u v,adj A u v→(f' (AK.ek u v)).lv=i→Cn (adj (GM.lvl f' A i)) u v)∧∀ j,j≤i→GM.Sm n (adj (GM.lvl f' A j)) j))
section
variable {w:World} {G:GrP} {n N a b i:Nat} {A:List AK.Ed} {f:AK.Ed→GM.St}
set_option maxRecDepth 100000 in
theorem gmend_any (h:GrM w G n N A f (GM.lvl f A)) (hB:GM.BOk n G.Fs.length A f a b i) (hi:i < G.Fs.length) (hi4:i≤4) (h6:G.Fs.length≤6) (hnN:n≤N) (hN:N+700 < 1000000) (ha:a < n) (hb:b < n) (hl:A.length≤200):
  Calls Tryz.prog 196 #[.pointer (some ⟨G.gb,0,none⟩),.int .i64 i,.int .i64 a,.int .i64 b] w (MendPost w G n N A f a b i):=by
 have h60:=h.hn
 have H:=Lib.hid h
 have HB:=Lib.hid hB
 obtain ⟨F,hF⟩:=h.get hi
 have HF:=Lib.hid hF
 obtain ⟨L,hL⟩:∃ L,G.Fs.length=L:=⟨_,rfl⟩
 have HL:=Lib.hid hL
 have c2:w.cell? ⟨G.gb,2,none⟩=some (.slice (some ⟨G.ob,0,none⟩) L G.c):=by rw [←hL];exact h.blk.cell 2
 have c3:=h.cellF hF
 have z1:(0:Int)≤(i:Int):=by omega
 have z2:(i:Int) < (L:Int):=by omega
 have T1:=Lib.hid (tmembers_ok (h.fo i F hF) a ha)
 have TB:Hid (∀ W,Ext w W→Calls Tryz.prog 123 #[.pointer (some ⟨F.fb,0,none⟩),.int .i64 b] W (MemPost W (comp n (GM.lvl f A i) b))):=fun W hW=>tmembers_ok ((h.ext hW).fo i F hF) b hb
 obtain ⟨F0,hF0⟩:∃ F0,F.fb=F0:=⟨_,rfl⟩
 rw [hF0] at c3 T1 TB
 rw [hL] at hi h6
 clear h hB hF hF0 hL
 have hmm:=@run_makeMap Tryz.prog
 have hfd:=runFieldS
 go_enter Tryz.func196,Tryz.ntmps196
 go_wp2_with fail
 refine T1.out.mono ?_
 intro e w1 hp
 obtain ⟨A1,k1,rfl,i1,x1,l1⟩:=hp.use
 have I1:=Lib.hid i1
 have X1:Hid (Ext w w1):=x1
 clear hp i1 x1 T1
 go_wp2_with fail
 refine (TB.out _ X1.out).mono ?_
 intro e w2 hp
 obtain ⟨A2,k2,rfl,i2,x2,l2⟩:=hp.use
 have I2:=Lib.hid i2
 have I1':Hid (IntsAt w2 A1 (comp n (GM.lvl f A i) a)):=I1.out.ext x2
 have X2:Hid (Ext w w2):=X1.out.trans x2
 have la:=gcomp_len n (GM.lvl f A i) a
 have lb:=gcomp_len n (GM.lvl f A i) b
 clear hp i2 x2 X1 I1 TB c2 c3 z2
 obtain ⟨la',hla⟩:∃ m,(comp n (GM.lvl f A i) a).length=m:=⟨_,rfl⟩
 obtain ⟨lb',hlb⟩:∃ m,(comp n (GM.lvl f A i) b).length=m:=⟨_,rfl⟩
 have HLA:=Lib.hid hla
 have HLB:=Lib.hid hlb
 rw [hla] at l1 la ⊢
 rw [hlb] at l2 lb ⊢
 clear hla hlb
 go_upto_if 55 with fail
 go_cut [11] (fun s11 wx=>∃ (c d lc:Nat) (Ax:Option Addr) (cx:Nat),s11=.slice Ax lc cx∧lc≤60∧Hid (Pick2 a b c d∧(comp n (GM.lvl f A i) c).length≤(comp n (GM.lvl f A i) d).length∧(comp n (GM.lvl f A i) c).length=lc∧IntsAt wx Ax (comp n (GM.lvl f A i) c)∧Ext w wx))
 case first=>
  by_cases q:(lb':Int) < (la':Int)
  ·have HR:Hid (Pick2 a b b a∧(comp n (GM.lvl f A i) b).length≤(comp n (GM.lvl f A i) a).length∧(comp n (GM.lvl f A i) b).length=lb'∧IntsAt w2 A2 (comp n (GM.lvl f A i) b)∧Ext w w2):=
    ⟨.inr ⟨rfl,rfl⟩,by rw [HLA.out,HLB.out];omega,HLB.out,I2.out,X2.out⟩
   go_wp2
   go_meet
   exact ⟨b,a,lb',A2,k2,rfl,by omega,HR.out⟩
  ·have HR:Hid (Pick2 a b a b∧(comp n (GM.lvl f A i) a).length≤(comp n (GM.lvl f A i) b).length∧(comp n (GM.lvl f A i) a).length=la'∧IntsAt w2 A1 (comp n (GM.lvl f A i) a)∧Ext w w2):=
    ⟨.inl ⟨rfl,rfl⟩,by rw [HLA.out,HLB.out];omega,HLA.out,I1'.out,X2.out⟩
   go_wp2
   go_meet
   exact ⟨a,b,la',A1,k1,rfl,by omega,HR.out⟩
 case rest=>
  obtain ⟨c,d,lc,Ax,cx,rfl,hlc,HC⟩:=hcut
  have HMD:Hid (MdC n L A f a b i (comp n (GM.lvl f A i) c)):=mdC_of (by rw [←HL.out];exact HB.out) HC.out.1 ha hb HC.out.2.1
  have HXR:Hid (∀ z∈comp n (GM.lvl f A i) c,0≤z∧z < n):=fun z hz=>by
   obtain ⟨u,u1,_,rfl⟩:=comp_mem.1 hz
   omega
  obtain ⟨X,hX⟩:∃ X,X=comp n (GM.lvl f A i) c:=⟨_,rfl⟩
  rw [←hX] at HC HMD HXR
  have IX:Hid (X.length=lc∧IntsAt wc Ax X):=⟨HC.out.2.2.1,HC.out.2.2.2.1⟩
  have XC:Hid (Ext w wc):=HC.out.2.2.2.2
  clear hX HC HB HLA HLB l1 l2 la lb I2 I1' X2
  have MM:Hid (InAt (wc.alloc (.map #[] 0)) wc.heap.size []):=InAt.made wc
  obtain ⟨mb,hmb⟩:∃ m,wc.heap.size=m:=⟨_,rfl⟩
  have HMB:=Lib.hid hmb
  rw [hmb] at MM
  go_wp2
  clear hmb
  go_loopw [60] (fun v60 wr=>∃ k:Nat,k≤lc∧v60=.int .i64 k∧Hid (InAt wr mb (X.take k)∧Ext wc wr)) (fun v60 _=>lc - (intOf v60).toNat)
  case atStart=>exact ⟨0,Nat.zero_le _,rfl,MM.out,Ext.alloc _ _⟩
  case round=>
   obtain ⟨k,hk,rfl,HR⟩:=hrel
   clear MM
   by_cases hlt:k < lc
   ·obtain ⟨b1,o1,hA,hc1⟩:=gints_at (IX.out.2.ext HR.out.2) (show k < X.length by rw [IX.out.1];exact hlt)
    subst hA
    have hmem:X.getD k 0∈X:=by
     have hkl:k < X.length:=by rw [IX.out.1];exact hlt
     simp [List.getD,List.getElem?_eq_getElem hkl]
    have hz:=HXR.out _ hmem
    have hts:X.take (k+1)=X.take k++[X.getD k 0]:=by
     have hkl:k < X.length:=by rw [IX.out.1];exact hlt
     rw [List.take_succ_eq_append_getElem hkl];simp [List.getD,List.getElem?_eq_getElem hkl]
    obtain ⟨W2,hr,hin,hch⟩:=HR.out.1.put (by have:=List.length_take_le k X;omega) (X.getD k 0) (okI_of (by omega))
    rw [←hts] at hin
    have HN:Hid (InAt W2 mb (X.take (k+1))∧Ext wc W2):=⟨hin,HR.out.2.chg_new hch (fun j hj=>by have:=HMB.out;omega)⟩
    have z3:(k:Int) < (lc:Int):=by omega
    have z4:(0:Int)≤(k:Int):=by omega
    clear hin hch hts hmem hz HR
    generalize X.getD k 0=z at hc1 hr ⊢
    go_wp2
    go_roundw
    case rel=>exact ⟨k+1,by omega,by go_num,HN⟩
    case measure=>simp [intOf];omega
   ·obtain rfl:k=lc:=by omega
    have M3:Hid (InAt wr mb X∧Ext wc wr):=⟨by have:=HR.out.1;rwa [List.take_of_length_le (by rw [IX.out.1];exact Nat.le_refl _)] at this,HR.out.2⟩
    clear HR hlt
    have H3:Hid (GrM wr G n N A f (GM.lvl f A)):=H.out.ext (XC.out.trans M3.out.2)
    have HFOR:Hid (Calls Tryz.prog 224 #[.pointer (some ⟨G.gb,0,none⟩),.int .i64 ((i:Int)+1)] wr (ForPost wr G n N A f (GM.lvl f A) (i+1))):=gforest_any H3.out hnN (i+1) (by rw [HL.out];omega) (by rw [HL.out];omega)
    go_wp2_with fail
    refine HFOR.out.mono ?_
    rintro e w4 ⟨G',Fa,rfl,hfa,hg4,hgc4,hl4,hl4',hl4''⟩
    clear HFOR
    have X4:Hid (Ext w wr):=XC.out.trans M3.out.2
    have GC4:Hid (GrC w w4 G G'):=GrC.pre X4.out hgc4
    have NM:Hid (¬ G'.S mb):=fun hs=>by
     rcases hgc4.s _ hs with q | q
     ·have h9:=H.out.lt _ q;have:=HMB.out;have:=XC.out.size;omega
     ·have:=M3.out.1.lt;omega
    obtain ⟨L',hL'⟩:∃ L',G'.Fs.length=L':=⟨_,rfl⟩
    have HL':Hid (G'.Fs.length=L'∧L≤L'∧L'≤6∧i+1 < L'∧G.Fs.length≤G'.Fs.length):=by
     have h1:=(List.getElem?_eq_some_iff.1 hfa).1
     have h2:=HL.out
     exact ⟨hL',by omega,by omega,by omega,by omega⟩
    have MD:Hid (MdC n L' A f a b i X):=HMD.out.mono HL'.out.2.1
    have H4:Hid (GrM w4 G' n N A f (GM.lvl f A)):=hg4.congr fun j hj=>by
     by_cases q:j < G.Fs.length
     ·rw [if_pos q]
     ·rw [if_neg q]
      have:GM.lvl f A j=[]:=by
       unfold GM.lvl
       rw [List.filter_eq_nil_iff]
       intro x hx
       have:=HMD.out.bok.top x hx
       have:=HL.out
       simp;intro _;omega
      exact this
    have HFA:=Lib.hid hfa
    have M4:Hid (InAt w4 mb X):=M3.out.1.chg hgc4.chg (fun e=>by have h9:=H.out.lt _ e;have:=HMB.out;have:=XC.out.size;omega)
    have hok:∀ x∈A,0≤x.1∧x.1 < x.2∧x.2 < (n:Int):=MD.out.bok.ok
    have HT:=Lib.hid (gtree_any H4.out hok MD.out.bok.up hl)
    have HGB:Hid (G'.gb=G.gb):=GC4.out.gb
    rw [HGB.out] at HT
    obtain ⟨Fb,hFb⟩:∃ Fb,Fa.fb=Fb:=⟨_,rfl⟩
    have HFB:=Lib.hid hFb
    rw [hFb]
    clear hfa hg4 hgc4 hl4 hl4' hl4'' hL' H3 M3 hok HMD hFb HL H HF X4
    go_wp2_with fail
    refine HT.out.mono ?_
    intro e w5 hp
    obtain ⟨A5,k5,rfl,e5,x5,l5,n5⟩:=hp.use
    have E5:=Lib.hid e5
    have H5:=Lib.hid (H4.out.ext x5)
    have M5:=Lib.hid (M4.out.ext x5)
    have GC5:=Lib.hid (GC4.out.ext x5)
    have N5:Hid (∀ x,A5=some x→¬ G'.S x.block):=fun x hx hs=>by have:=n5 x hx;have:=H4.out.lt _ hs;omega
    obtain ⟨T,hT⟩:∃ T,T=GM.lvl f A 0:=⟨_,rfl⟩
    rw [←hT] at E5 l5 ⊢
    have HTT:Hid (T=GM.lvl f A 0∧T.length≤200):=⟨hT,by rw [hT];exact Nat.le_trans (List.length_filter_le _ _) hl⟩
    clear hp e5 x5 n5 hT HT H4 M4 GC4
    have HUP:Hid (A.Pairwise ltE):=MD.out.bok.up
    have HOK:Hid (∀ x∈A,0≤x.1∧x.1 < x.2∧x.2 < (n:Int)):=MD.out.bok.ok
    have HBASE:Hid (GM.Base n L' A f):=MD.out.bok.toBase
    have hwi:IntKind.i64.wrap ((i:Int)+1)=(i:Int)+1:=IntWalk.i64_in _ (by omega)
    obtain ⟨tl,htl⟩:∃ m,T.length=m:=⟨_,rfl⟩
    have HTL:Hid (T.length=tl∧tl≤200):=⟨htl,by rw [←htl];exact HTT.out.2⟩
    have htl2:tl≤200:=HTL.out.2
    rw [htl] at l5 ⊢
    clear htl
    go_wp2
    go_loopw [80] (fun v80 wr=>∃ k:Nat,k≤tl∧v80=.int .i64 k∧Hid (Up1 w5 wr G' n (N+2 * k) A f i X (T.take k))) (fun v80 _=>tl - (intOf v80).toNat)
    case atStart=>exact ⟨0,Nat.zero_le _,rfl,Up1.start H5.out⟩
    case round=>
     obtain ⟨k2,hk2,rfl,HR⟩:=hrel
     clear H5
     by_cases hlt2:k2 < tl
     ·obtain ⟨b1,o1,x,hA,hxk,d0,d1⟩:=geds_at (E5.out.chg HR.out.2 (fun _ x hx=>N5.out x hx)) (show k2 < T.length by rw [HTL.out.1];exact hlt2)
      subst hA
      have hxT:x∈GM.lvl f A 0:=by rw [←HTT.out.1];exact List.mem_of_getElem? hxk
      obtain ⟨hxA,hxtr,_⟩:=GM.lvl_mem.1 hxT
      obtain ⟨u,v,huv,hvn,rfl,hek⟩:=GM.ek_form (HOK.out x hxA)
      simp only at d0 d1
      have hts:T.take (k2+1)=T.take k2++[((u:Int),(v:Int))]:=by
       have hkl:=(List.getElem?_eq_some_iff.1 hxk)
       rw [List.take_succ_eq_append_getElem hkl.1,hkl.2]
      have hxL:((u:Int),(v:Int)) ∉ T.take k2:=fun hm=>by
       obtain ⟨j,hj⟩:=List.mem_iff_getElem?.1 hm
       have hj1:=(List.getElem?_eq_some_iff.1 hj).1
       simp at hj1
       rw [List.getElem?_take_of_lt (by omega)] at hj
       have:=GM.idx_inj (A:=T) (by rw [HTT.out.1];exact HUP.out.filter _) hj hxk
       omega
      have hLtr:∀ y∈T.take k2,(f y).tr=true:=fun y hy=>by
       have:=List.mem_of_mem_take hy
       rw [HTT.out.1] at this
       exact (GM.lvl_mem.1 this).2.1
      obtain ⟨s,hs⟩:∃ s,f ((u:Int),(v:Int))=s:=⟨_,rfl⟩
      have HX:Hid ((f ((u:Int),(v:Int)))=s∧s.tr=true∧((u:Int),(v:Int))∈A∧T.take (k2+1)=T.take k2++[((u:Int),(v:Int))]∧((u:Int),(v:Int)) ∉ T.take k2∧AK.ek u v=((u:Int),(v:Int))∧u < v∧v < n):=⟨hs,by rw [←hs];exact hxtr,hxA,hts,hxL,hek,huv,hvn⟩
      have HLT:=Lib.hid hLtr
      have Hr:=Lib.hid HR.out.1
      have H6:Hid (GrM (wr.alloc (.cells #[.int .i64 (u:Nat),.int .i64 (v:Nat)] 93)) G' n (N+2 * k2) A (GM.upL f i (inS X) (T.take k2)) (GM.lvl (GM.upL f i (inS X) (T.take k2)) A)):=Hr.out.ext (Ext.alloc _ _)
      have B6:Hid (Blk (wr.alloc (.cells #[.int .i64 (u:Nat),.int .i64 (v:Nat)] 93)) wr.heap.size 93 #[.int .i64 (u:Nat),.int .i64 (v:Nat)]):=Blk.new wr _ _
      have M6:Hid (InAt (wr.alloc (.cells #[.int .i64 (u:Nat),.int .i64 (v:Nat)] 93)) mb X):=(M5.out.chg HR.out.2 NM.out).ext (Ext.alloc _ _)
      have X6:Hid (Ext wr (wr.alloc (.cells #[.int .i64 (u:Nat),.int .i64 (v:Nat)] 93))):=Ext.alloc _ _
      have z5:(k2:Int) < (tl:Int):=by omega
      have z6:(0:Int)≤(k2:Int):=by omega
      have HBlt:Hid (∀ k,G'.S k→k≠wr.heap.size):=fun k hk=>by have:=Hr.out.lt k hk;omega
      clear hxT hxA hxtr hek hts hxL hLtr hs
      go_wp2
      generalize wr.heap.size=B at B6 HBlt ⊢
      generalize wr.alloc (.cells #[.int .i64 (u:Nat),.int .i64 (v:Nat)] 93)=w6 at H6 B6 M6 X6 ⊢
      have c1:w6.cell? ⟨G.gb,1,none⟩=some (.map (some G'.eb)):=by rw [←HGB.out];exact H6.out.blk.cell 1
      have y0:w6.cell? ⟨B,0,none⟩=some (.int .i64 (u:Nat)):=B6.out.cell 0
      have y1:w6.cell? ⟨B,1,none⟩=some (.int .i64 (v:Nat)):=B6.out.cell 1
      have lk:∀ m,(Instr.lookup 137 (.map (some G'.eb)) (.agg #[.int .i64 (u:Nat),.int .i64 (v:Nat)]) false).run Tryz.prog (w6.drewN m)=.ok (.agg #[.int .i64 s.lv,.bool s.tr]) (w6.drewN m):=fun m=>
       (H6.out.ext (Ext.drewN _ _)).look ((u:Int),(v:Int)) (okE_of (by simp only;omega) (by simp only;omega)) (by rw [if_pos HX.out.2.2.1,GM.upL_out HX.out.2.2.2.2.1,HX.out.1];rfl)
      obtain ⟨su,hsu⟩:∃ su:Int,su=if (u:Int)∈X then 1 else 0:=⟨_,rfl⟩
      obtain ⟨sv,hsv⟩:∃ sv:Int,sv=if (v:Int)∈X then 1 else 0:=⟨_,rfl⟩
      have lu:∀ m,(Instr.lookup 300 (.map (some mb)) (.int .i64 (u:Nat)) false).run Tryz.prog (w6.drewN m)=.ok (.int .i64 su) (w6.drewN m):=fun m=>(M6.out.ext (Ext.drewN _ _)).look (u:Int) (okI_of (by omega)) hsu
      have lv:∀ m,(Instr.lookup 300 (.map (some mb)) (.int .i64 (v:Nat)) false).run Tryz.prog (w6.drewN m)=.ok (.int .i64 sv) (w6.drewN m):=fun m=>(M6.out.ext (Ext.drewN _ _)).look (v:Int) (okI_of (by omega)) hsv
      have HSU:Hid (su=1↔inS X u=true):=by
       show su=1↔_
       rw [inS_of,hsu]
       by_cases q:(u:Int)∈X <;> simp [q]
      have HSV:Hid (sv=1↔inS X v=true):=by
       show sv=1↔_
       rw [inS_of,hsv]
       by_cases q:(v:Int)∈X <;> simp [q]
      clear hsu hsv d0 d1 M6
      by_cases q:s.lv=i∧su=1∧sv=1
      ·obtain ⟨q1,q2,q3⟩:=q
       subst q2 q3
       have HQ:Hid ((f ((u:Int),(v:Int))).lv=i∧inS X u=true∧inS X v=true):=⟨by rw [HX.out.1];exact q1,HSU.out.1 rfl,HSV.out.1 rfl⟩
       have e1:((s.lv:Int) == (i:Int))=true:=by rw [beq_iff_eq];omega
       clear q1
       have HNO:Hid (¬ Cn (adj (GM.lvl (GM.upL f i (inS X) (T.take k2)) A (i+1))) u v):=
        GM.up_no HBASE.out HLT.out (by have:=HX.out.2.2.2.2.2.2;omega) (by rw [HX.out.2.2.2.2.2.1];exact GM.lvl_mem.2 ⟨HX.out.2.2.1,by rw [HX.out.1];exact HX.out.2.1,Nat.zero_le _⟩) (by rw [HX.out.2.2.2.2.2.1];exact HX.out.2.2.2.2.1) (by rw [HX.out.2.2.2.2.2.1];exact HQ.out.1)
       go_quiet (fail)
       clear lk lu lv
       have H7:Hid (GrM (w6.drewN nq) G' n (N+2 * k2) A (GM.upL f i (inS X) (T.take k2)) (GM.lvl (GM.upL f i (inS X) (T.take k2)) A)):=H6.out.ext (Ext.drewN _ _)
       have B7:Hid (Blk (w6.drewN nq) B 93 #[.int .i64 (u:Nat),.int .i64 (v:Nat)]):=B6.out.drewN _
       have X7:Hid (Ext wr (w6.drewN nq)):=X6.out.trans (Ext.drewN _ _)
       generalize w6.drewN nq=w7 at H7 B7 X7 ⊢
       have y70:w7.cell? ⟨B,0,none⟩=some (.int .i64 (u:Nat)):=B7.out.cell 0
       have y71:w7.cell? ⟨B,1,none⟩=some (.int .i64 (v:Nat)):=B7.out.cell 1
       have hun:u < n:=by omega
       have TL0:=tlink_ok (H7.out.fo (i+1) Fa HFA.out) (by omega) u v hun hvn HNO.out
       rw [HFB.out] at TL0
       have TL:=Lib.hid TL0
       clear TL0 y0 y1 c1 HNO H6 B6 X6
       go_wp2_with fail
       refine TL.out.mono ?_
       rintro e w8 ⟨rfl,hf8,hc8⟩
       have H8:=H7.out.turn HFA.out hf8 (by omega) hc8
       have B8:Hid (Blk w8 B 93 #[.int .i64 (u:Nat),.int .i64 (v:Nat)]):=B7.out.chg hc8 (fun hs=>HBlt.out _ (.inr (.inr (.inr ⟨_,Fa,HFA.out,hs⟩))) rfl)
       have y80:w8.cell? ⟨B,0,none⟩=some (.int .i64 (u:Nat)):=B8.out.cell 0
       have y81:w8.cell? ⟨B,1,none⟩=some (.int .i64 (v:Nat)):=B8.out.cell 1
       have c81:w8.cell? ⟨G.gb,1,none⟩=some (.map (some G'.eb)):=by rw [←HGB.out];exact H8.blk.cell 1
       rw [HX.out.2.2.2.2.2.1] at hf8
       obtain ⟨W2,hr,hf2,hc2⟩:=H7.out.raise HUP.out HLT.out HX.out.2.2.1 (okE_of (by simp only;omega) (by simp only;omega)) (by rw [HX.out.1];exact HX.out.2.1) HX.out.2.2.2.2.1 (by simpa using HQ.out) HFA.out hf8 hc8 (Ext.drew w8) (by omega)
       have HZ:Hid (Up1 w5 W2 G' n (N+2 * (k2+1)) A f i X (T.take (k2+1))):=by
        rw [HX.out.2.2.2.1]
        exact ⟨hf2.mono (by omega),(HR.out.2.stepE X7.out).step hc2⟩
       rw [show edV ((u:Int),(v:Int))=.agg #[.int .i64 (u:Nat),.int .i64 (v:Nat)] from rfl] at hr
       clear hf8 hc8 H8 B8 hf2 hc2 y70 y71 H7 B7 TL
       go_wp2
       go_still_tail 8,(by kernel_rfl)
       go_wp2
       go_roundw
       case rel=>exact ⟨k2+1,by omega,by go_num,HZ⟩
       case measure=>simp [intOf];omega
      ·have HQ:Hid (¬ ((f ((u:Int),(v:Int))).lv=i∧inS X u=true∧inS X v=true)):=fun ⟨a1,a2,a3⟩=>q ⟨by rw [←HX.out.1];exact a1,HSU.out.2 a2,HSV.out.2 a3⟩
       have HN:Hid (∀ W,Ext wr W→Up1 w5 W G' n (N+2 * (k2+1)) A f i X (T.take (k2+1))):=fun W hW=>by
        rw [HX.out.2.2.2.1]
        exact HR.out.no hW (by omega) (by simpa using HQ.out)
       by_cases q1:s.lv=i
       ·have e1:((s.lv:Int) == (i:Int))=true:=by rw [beq_iff_eq];omega
        by_cases q2:su=1
        ·have e2:(su == 1)=true:=by rw [beq_iff_eq];exact q2
         have e3:(sv == 1)=false:=by rw [beq_eq_false_iff_ne];exact fun w=>q ⟨q1,q2,w⟩
         clear q q1 q2
         go_quiet (fail)
         go_wp2
         go_roundw
         case rel=>exact ⟨k2+1,by omega,by go_num,HN.out _ (X6.out.trans (Ext.drewN _ _))⟩
         case measure=>simp [intOf];omega
        ·have e2:(su == 1)=false:=by rw [beq_eq_false_iff_ne];exact q2
         clear q q1 q2
         go_quiet (fail)
         go_wp2
         go_roundw
         case rel=>exact ⟨k2+1,by omega,by go_num,HN.out _ (X6.out.trans (Ext.drewN _ _))⟩
         case measure=>simp [intOf];omega
       ·have e1:((s.lv:Int) == (i:Int))=false:=by rw [beq_eq_false_iff_ne];omega
        clear q q1
        go_quiet (fail)
        go_wp2
        go_roundw
        case rel=>exact ⟨k2+1,by omega,by go_num,HN.out _ (X6.out.trans (Ext.drewN _ _))⟩
        case measure=>simp [intOf];omega
     ·obtain rfl:k2=tl:=by omega
      have hup:Up1 w5 wr G' n (N+2 * k2) A f i X (GM.lvl f A 0):=by
       have:=HR.out
       rw [List.take_of_length_le (by rw [HTL.out.1];exact Nat.le_refl _),HTT.out.1] at this
       exact this
      obtain ⟨hg6,hc6⟩:=hup.done
      have H6:=Lib.hid hg6
      obtain ⟨c',hc',hcn',hcS',hch'⟩:=MD.out.half
      have hb6:=MD.out.bok.upT hc' hcn' hcS' hch' (by have:=HL'.out;omega)
      have HB6:=Lib.hid hb6.1
      have HIN:=Lib.hid hb6.2
      have HLV:Hid (∀ x∈A,(f x).lv≤(GM.upT f A i (inS X) x).lv):=fun x _=>(GM.upT_lv f A i (inS X) x).1
      have HSD:Hid (GM.Side n (adj (GM.lvl (GM.upT f A i (inS X)) A i)) a b (inS X)):=by
       unfold Hid
       rw [GM.upT_low (inS X) (Nat.le_refl i)];exact MD.out.side
      obtain ⟨f1,hf1⟩:∃ f1,f1=GM.upT f A i (inS X):=⟨_,rfl⟩
      rw [←hf1] at H6 HB6 HIN HLV HSD
      have M6:Hid (InAt wr mb X):=M5.out.chg hc6 NM.out
      have GC6:Hid (GrC w wr G G'):=GC5.out.trans (GrC.same hc6 fun _ h=>h)
      have HT:=Lib.hid (gedges_any H6.out HOK.out HUP.out hl)
      rw [HGB.out] at HT
      clear hf1 hb6 hcS' hch' hg6 hc6 hup HR hlt2 HTL HTT E5 N5 M5 GC5 MD hcn' hc'
      go_wp2_with fail
      refine HT.out.mono ?_
      intro e w7 hp
      obtain ⟨A7,k7,rfl,e7,x7,l7,n7⟩:=hp.use
      have E7:=Lib.hid e7
      have M7:=Lib.hid (M6.out.ext x7)
      have GC7:=Lib.hid (GC6.out.ext x7)
      have N7:Hid (∀ x,A7=some x→¬ G'.S x.block):=fun x hx hs=>by have:=n7 x hx;have:=H6.out.lt _ hs;omega
      have R7:Hid (Ri1 w7 w7 G' n (N+2 * k2) A f1 a b i X 0):=Ri1.start (H6.out.ext x7) (by rw [HL'.out.1];exact HB6.out)
      obtain ⟨al,hal⟩:∃ m,A.length=m:=⟨_,rfl⟩
      have HAL:=Lib.hid hal
      rw [hal] at l7 hl ⊢
      clear hp e7 x7 n7 hal HT H6 HB6 M6 GC6
      go_wp2
      go_loopw [128] (fun v128 wr=>∃ k:Nat,k≤al∧v128=.int .i64 k∧Hid (Ri1 w7 wr G' n (N+2 * k2+k) A f1 a b i X k)) (fun v128 _=>al - (intOf v128).toNat)
      case atStart=>exact ⟨0,Nat.zero_le _,rfl,R7.out⟩
      case round=>
       obtain ⟨k3,hk3,rfl,HR⟩:=hrel
       clear R7
       by_cases hlt3:k3 < al
       ·have hcw:Hid (Chg G'.S w7 wr):=by obtain ⟨_,_,_,h3⟩:=HR.out;exact h3
        obtain ⟨b1,o1,x,hA,hxk,d0,d1⟩:=geds_at (E7.out.chg hcw.out (fun _ x hx=>N7.out x hx)) (show k3 < A.length by rw [HAL.out];exact hlt3)
        subst hA
        obtain ⟨fk,u,v,rfl,h2⟩:=HR.out.at_ hxk
        have H2:=Lib.hid h2
        simp only at d0 d1
        obtain ⟨huv,hvn⟩:=h2.lt
        have hun:u < n:=by omega
        obtain ⟨s,hs⟩:∃ s,fk ((u:Int),(v:Int))=s:=⟨_,rfl⟩
        have HS:=Lib.hid hs
        have X6:Hid (Ext wr (wr.alloc (.cells #[.int .i64 (u:Nat),.int .i64 (v:Nat)] 93))):=Ext.alloc _ _
        have B6:Hid (Blk (wr.alloc (.cells #[.int .i64 (u:Nat),.int .i64 (v:Nat)] 93)) wr.heap.size 93 #[.int .i64 (u:Nat),.int .i64 (v:Nat)]):=Blk.new wr _ _
        have HBlt:Hid (∀ k,G'.S k→k < wr.heap.size):=h2.g.lt
        have MW:Hid (InAt wr mb X):=M7.out.chg hcw.out NM.out
        have z5:(k3:Int) < (al:Int):=by omega
        have z6:(0:Int)≤(k3:Int):=by omega
        clear h2 hs hxk
        go_wp2
        generalize wr.heap.size=B at B6 HBlt ⊢
        generalize wr.alloc (.cells #[.int .i64 (u:Nat),.int .i64 (v:Nat)] 93)=w6 at B6 X6 ⊢
        have KG:Hid (∀ W,Ext w6 W→W.cell? ⟨G.gb,1,none⟩=some (.map (some G'.eb))∧W.cell? ⟨B,0,none⟩=some (.int .i64 (u:Nat))∧W.cell? ⟨B,1,none⟩=some (.int .i64 (v:Nat))∧(Instr.lookup 137 (.map (some G'.eb)) (.agg #[.int .i64 (u:Nat),.int .i64 (v:Nat)]) false).run Tryz.prog W=.ok (.agg #[.int .i64 s.lv,.bool s.tr]) W):=fun W hW=>by
         have hB:=B6.out.chg (Chg.of_below hW) (by have:=B6.out.lt;omega)
         have hg:=(H2.out.g.ext X6.out).ext hW
         exact ⟨by rw [←HGB.out];exact hg.blk.cell 1,hB.cell 0,hB.cell 1,hg.look ((u:Int),(v:Int)) H2.out.ok (by rw [if_pos H2.out.mem,HS.out];rfl)⟩
        clear d0 d1
        go_upto_region 31 with fail
        go_cut [23] (fun s23 wx=>∃ B2:Nat,s23=.pointer (some ⟨B2,0,none⟩)∧Hid (Ext w6 wx∧Blk wx B2 150 #[.int .i64 s.lv,.bool s.tr]∧w6.heap.size≤B2))
        case first=>
         go_region_held3 (fun W=>Ext w6 W∧W.cell? ⟨G.gb,1,none⟩=some (.map (some G'.eb))∧W.cell? ⟨B,0,none⟩=some (.int .i64 (u:Nat))∧W.cell? ⟨B,1,none⟩=some (.int .i64 (v:Nat))∧(Instr.lookup 137 (.map (some G'.eb)) (.agg #[.int .i64 (u:Nat),.int .i64 (v:Nat)]) false).run Tryz.prog W=.ok (.agg #[.int .i64 s.lv,.bool s.tr]) W)
          ((refine (fun hE=>⟨hE,KG.out _ hE⟩:Ext w6 _→_) ?_;first | assumption | exact fst_ (by assumption) | exact Ext.refl _ | exact Ext.trans (by assumption) (Ext.alloc _ _) | exact Ext.drew _ | exact (Ext.alloc _ _).trans (Ext.drew _) | exact Ext.set_ (Ext.set_ (by assumption) (Nat.le_refl _) _) (Nat.le_refl _) _ | exact Ext.trans (fst_ (by assumption)) (by assumption) | (trace_state;fail)))
          (fail)
         all_goals
          rename_i hHeld
          have HH:Hid (Ext w6 (w6.alloc (Obj.cells #[.int .i64 s.lv,.bool s.tr] 150)).drew∧Blk (w6.alloc (Obj.cells #[.int .i64 s.lv,.bool s.tr] 150)).drew w6.heap.size 150 #[.int .i64 s.lv,.bool s.tr]∧w6.heap.size≤w6.heap.size):=⟨fst_ hHeld,(Blk.new w6 _ _).drew,Nat.le_refl _⟩
          clear hHeld
          go_wp2
          go_meet
          exact ⟨_,rfl,HH.out⟩
        case rest=>
         obtain ⟨B2,rfl,HB2⟩:=hcut
         have hk:=KG.out wc HB2.out.1
         have c1:wc.cell? ⟨G.gb,1,none⟩=some (.map (some G'.eb)):=hk.1
         have y0:wc.cell? ⟨B,0,none⟩=some (.int .i64 (u:Nat)):=hk.2.1
         have y1:wc.cell? ⟨B,1,none⟩=some (.int .i64 (v:Nat)):=hk.2.2.1
         have q0:wc.cell? ⟨B2,0,none⟩=some (.int .i64 s.lv):=HB2.out.2.1.cell 0
         have q1:wc.cell? ⟨B2,1,none⟩=some (.bool s.tr):=HB2.out.2.1.cell 1
         have XW:Hid (Ext wr wc):=X6.out.trans HB2.out.1
         have BW:Hid (Blk wc B 93 #[.int .i64 (u:Nat),.int .i64 (v:Nat)]):=B6.out.chg (Chg.of_below HB2.out.1) (by have:=B6.out.lt;omega)
         clear hk KG B6 X6
         by_cases t1:s.tr=true
         ·have HN:Hid (Ri1 w7 wc G' n (N+2 * k2+(k3+1)) A f1 a b i X (k3+1)):=H2.out.skip XW.out (by omega) (.inl (by rw [HS.out];exact t1))
          clear H2 MW HB2 XW BW
          go_wp2
          go_roundw
          case rel=>first | exact ⟨k3+1,by omega,by go_num,HN.out⟩ | ((repeat apply Exists.intro);exact ⟨⟨k3+1,by omega,by go_num,HN.out⟩,rfl⟩)
          case measure=>simp [intOf];omega
         ·have t1':s.tr=false:=by simpa using t1
          clear t1
          by_cases t2:s.lv=i
          ·have t2':((s.lv:Int) != (i:Int))=false:=by simp;omega
           obtain ⟨su,hsu⟩:∃ su:Int,su=if (u:Int)∈X then 1 else 0:=⟨_,rfl⟩
           obtain ⟨sv,hsv⟩:∃ sv:Int,sv=if (v:Int)∈X then 1 else 0:=⟨_,rfl⟩
           have lu:(Instr.lookup 300 (.map (some mb)) (.int .i64 (u:Nat)) false).run Tryz.prog wc=.ok (.int .i64 su) wc:=(MW.out.ext XW.out).look (u:Int) (okI_of (by omega)) hsu
           have lv:(Instr.lookup 300 (.map (some mb)) (.int .i64 (v:Nat)) false).run Tryz.prog wc=.ok (.int .i64 sv) wc:=(MW.out.ext XW.out).look (v:Int) (okI_of (by omega)) hsv
           have HSU:Hid (su=1∧inS X u=true∨su=0∧inS X u=false):=by
            rw [hsu]
            unfold Hid inS
            by_cases q:(u:Int)∈X <;> simp [q]
           have HSV:Hid (sv=1∧inS X v=true∨sv=0∧inS X v=false):=by
            rw [hsv]
            unfold Hid inS
            by_cases q:(v:Int)∈X <;> simp [q]
           have su1:0≤su∧su≤1:=by rcases HSU.out with ⟨q,_⟩ | ⟨q,_⟩ <;> omega
           have sv1:0≤sv∧sv≤1:=by rcases HSV.out with ⟨q,_⟩ | ⟨q,_⟩ <;> omega
           obtain ⟨su0,su1⟩:=su1
           obtain ⟨sv0,sv1⟩:=sv1
           have HTL2:Hid ((fk ((u:Int),(v:Int))).tr=false∧(fk ((u:Int),(v:Int))).lv=i):=⟨by rw [HS.out];exact t1',by rw [HS.out];exact t2⟩
           clear hsu hsv t2 MW
           by_cases t3:su+sv=0
           ·have t3':(su+sv == 0)=true:=by rw [beq_iff_eq];exact t3
            have HN:Hid (Ri1 w7 wc G' n (N+2 * k2+(k3+1)) A f1 a b i X (k3+1)):=H2.out.skip XW.out (by omega) (.inr (.inr (by
             rcases HSU.out with ⟨q,_⟩ | ⟨_,q⟩
             ·omega
             ·rcases HSV.out with ⟨q2,_⟩ | ⟨_,q2⟩
              ·omega
              ·exact ⟨q,q2⟩)))
            clear H2 HB2 XW BW t3
            go_wp2
            go_roundw
            case rel=>first | exact ⟨k3+1,by omega,by go_num,HN.out⟩ | ((repeat apply Exists.intro);exact ⟨⟨k3+1,by omega,by go_num,HN.out⟩,rfl⟩)
            case measure=>simp [intOf];omega
           ·have t3':(su+sv == 0)=false:=by rw [beq_eq_false_iff_ne];exact t3
            by_cases t4:su+sv=2
            ·have t4':(su+sv == 2)=true:=by rw [beq_iff_eq];exact t4
             obtain ⟨W2,hr,hw2⟩:=H2.out.rise (XW.out.trans (Ext.drew wc)) (by omega) HTL2.out.1 HTL2.out.2 (by
              rcases HSU.out with ⟨_,q⟩ | ⟨q,_⟩
              ·rcases HSV.out with ⟨_,q2⟩ | ⟨q2,_⟩
               ·exact ⟨q,q2⟩
               ·omega
              ·omega) HIN.out (by rw [HL'.out.1];exact HL'.out.2.2.2.1)
             have HN:Hid (Ri1 w7 W2 G' n (N+2 * k2+(k3+1)) A f1 a b i X (k3+1)):=by
              rw [←Nat.add_assoc];exact hw2
             clear H2 HB2 XW BW t3 t4 hw2
             go_wp2
             go_still_tail 8,(by kernel_rfl)
             go_wp2
             go_roundw
             case rel=>first | exact ⟨k3+1,by omega,by go_num,HN.out⟩ | ((repeat apply Exists.intro);exact ⟨⟨k3+1,by omega,by go_num,HN.out⟩,rfl⟩)
             case measure=>simp [intOf];omega
            ·have t4':(su+sv == 2)=false:=by rw [beq_eq_false_iff_ne];exact t4
             obtain ⟨W2,f2,hr,hw2,hch2⟩:=H2.out.found (XW.out.trans (Ext.drew wc)) (by omega) HTL2.out.1 HTL2.out.2 HSD.out (by
              rcases HSU.out with ⟨q1,q⟩ | ⟨q1,q⟩
              ·rcases HSV.out with ⟨q3,q2⟩ | ⟨q3,q2⟩
               ·omega
               ·rw [q,q2];simp
              ·rcases HSV.out with ⟨q3,q2⟩ | ⟨q3,q2⟩
               ·rw [q,q2];simp
               ·omega)
             have R3:=Lib.hid hw2
             have B3:Hid (∀ wr',Chg G'.S W2 wr'→wr'.cell? ⟨B,0,none⟩=some (.int .i64 (u:Nat))∧wr'.cell? ⟨B,1,none⟩=some (.int .i64 (v:Nat))):=fun wr' hc=>by
              have hb:=(BW.out.drew.chg hch2 (fun hs=>by have:=HBlt.out _ hs;omega)).chg hc (fun hs=>by have:=HBlt.out _ hs;omega)
              exact ⟨hb.cell 0,hb.cell 1⟩
             clear H2 HB2 XW t3 t4 hw2 hch2 HSU HSV BW
             go_wp2
             go_still_tail 7,(by kernel_rfl)
             go_wp2
             go_loopw [185] (fun v185 wr4=>∃ j:Nat,j≤i+1∧v185=.int .i64 j∧Hid (Ri3 w7 wr4 G' n (N+2 * k2+k3+1+j) A f1 fk f2 i u v j∧Chg G'.S W2 wr4)) (fun v185 _=>i+1 - (intOf v185).toNat)
             case atStart=>exact ⟨0,Nat.zero_le _,rfl,R3.out,Chg.refl _ _⟩
             case round=>
              obtain ⟨j,hj,rfl,HJ⟩:=hrel
              clear R3 hr y0 y1 c1 q0 q1 lu lv
              by_cases hlt4:j < i+1
              ·obtain ⟨Fj,hFj⟩:=HJ.out.1.g.get (show j < G'.Fs.length by have:=HL'.out;omega)
               have HFJ:=Lib.hid hFj
               have c2:wr.cell? ⟨G.gb,2,none⟩=some (.slice (some ⟨G'.ob,0,none⟩) L' G'.c):=by rw [←HGB.out,←HL'.out.1];exact HJ.out.1.g.blk.cell 2
               have c3:=HJ.out.1.g.cellF hFj
               obtain ⟨y0,y1⟩:=B3.out _ HJ.out.2
               have p0:(0:Int)≤(j:Int):=by omega
               have p1:(j:Int) < (L':Int):=by have:=HL'.out;omega
               have p2:(j:Int) < (i:Int)+1:=by omega
               have hfj:=(HJ.out.1.g.ext (Ext.drew _)).fo j Fj hFj
               rw [if_neg (Nat.lt_irrefl _)] at hfj
               have TL0:=tlink_ok hfj (by omega) u v hun hvn (HJ.out.1.lo j (by omega)).1
               obtain ⟨F9,hF9⟩:∃ F9,Fj.fb=F9:=⟨_,rfl⟩
               rw [hF9] at c3 TL0
               have TL:=Lib.hid TL0
               clear TL0 hfj hFj hF9
               go_wp2
               go_still_tail 11,(by kernel_rfl)
               go_wp2_with fail
               refine TL.out.mono ?_
               rintro e w9 ⟨rfl,hf9,hc9⟩
               have HN:Hid (Ri3 w7 w9 G' n (N+2 * k2+k3+1+(j+1)) A f1 fk f2 i u v (j+1)∧Chg G'.S W2 w9):=by
                refine ⟨?_,(HJ.out.2.stepE (Ext.drew _)).step (hc9.mono fun k _ hk=>.inr (.inr (.inr ⟨_,Fj,HFJ.out,hk⟩)))⟩
                rw [←Nat.add_assoc]
                exact HJ.out.1.next HFJ.out (Ext.drew _) hf9 hc9
               clear hf9 hc9 TL HJ
               go_wp2
               go_roundw
               case rel=>exact ⟨j+1,by omega,by go_num,HN⟩
               case measure=>simp [intOf];omega
              ·obtain rfl:j=i+1:=by omega
               have HF2:Hid (MendPost w G n N A f a b i (.returned (.tuple #[.bool true,.nilIface])) wr):=
                ⟨G',f2,GC7.out.trans (GrC.same HJ.out.1.c fun _ h=>h),fun x hx=>Nat.le_trans (HLV.out x hx) (HJ.out.1.up x hx),by have:=HL'.out;omega,HL'.out.2.2.2.2,.inl ⟨rfl,(HJ.out.1.end_ (by have:=HL'.out;omega) (by omega)).mono (by omega)⟩⟩
               have p3:¬ (((i+1:Nat):Int) < (i:Int)+1):=by omega
               clear HJ
               go_wp2
               go_ret2
               exact HF2.out
          ·have t2':((s.lv:Int) != (i:Int))=true:=by simp;omega
           have HN:Hid (Ri1 w7 wc G' n (N+2 * k2+(k3+1)) A f1 a b i X (k3+1)):=H2.out.skip XW.out (by omega) (.inr (.inl (by rw [HS.out];exact t2)))
           clear H2 MW HB2 XW BW t2
           go_wp2
           go_roundw
           case rel=>first | exact ⟨k3+1,by omega,by go_num,HN.out⟩ | ((repeat apply Exists.intro);exact ⟨⟨k3+1,by omega,by go_num,HN.out⟩,rfl⟩)
           case measure=>simp [intOf];omega
       ·obtain rfl:k3=al:=by omega
        obtain ⟨fk,hm2,hg2,hc2⟩:=HR.out
        have hmn:=hm2
        rw [←HAL.out] at hmn
        have hnn:=hmn.none HSD.out
        have HF2:Hid (MendPost w G n N A f a b i (.returned (.tuple #[.bool false,.nilIface])) wr):=
         ⟨G',fk,GC7.out.trans (GrC.same hc2 fun _ h=>h),fun x hx=>Nat.le_trans (HLV.out x hx) (hm2.up x hx),by have:=HL'.out;omega,HL'.out.2.2.2.2,.inr ⟨rfl,hg2.mono (by omega),hm2.ok,hnn.1,hnn.2⟩⟩
        clear hm2 hg2 hc2 hmn hnn HR
        go_wp2
        go_ret2
        exact HF2.out
end
def GDropPost (w:World) (G:GrP) (n N:Nat) (A:List AK.Ed) (f:AK.Ed→GM.St) (x:AK.Ed) (e:Ending) (w':World):Prop:=
 ∃ (G':GrP) (f':AK.Ed→GM.St),e=.returned .nilIface∧GrI w' G' n (N+4000) (cutE x A) f'∧GrC w w' G G'∧∀ y∈cutE x A,(f y).lv≤(f' y).lv
structure Dr1 (w wr:World) (G:GrP) (n N:Nat) (A:List AK.Ed) (f:AK.Ed→GM.St) (x:AK.Ed) (j:Nat):Prop where
 g:GrM wr G n N (cutE x A) f (fun q=>if q < j then cutE x (GM.lvl f A q) else GM.lvl f A q)
 c:Chg G.S w wr
structure Dr2 (w wr:World) (G G':GrP) (n N:Nat) (A B:List AK.Ed) (f f':AK.Ed→GM.St):Prop where
 g:GrM wr G' n N B f' (GM.lvl f' B)
 c:GrC w wr G G'
 six:G'.Fs.length≤6
 le:G.Fs.length≤G'.Fs.length
 up:∀ y∈B,(f y).lv≤(f' y).lv
def DrZ (w wr:World) (G:GrP) (n N:Nat) (A B:List AK.Ed) (f:AK.Ed→GM.St) (a b:Nat) (z:Int):Prop:=
 ∃ (G':GrP) (f':AK.Ed→GM.St),Dr2 w wr G G' n N A B f f'∧((∃ k:Nat,z=k∧k < G'.Fs.length∧GM.BOk n G'.Fs.length B f' a b k)∨(z=-1∧GM.GOk n G'.Fs.length B f'))
section
variable {w w' wr W:World} {G G':GrP} {n N N' a b j k:Nat} {A B:List AK.Ed} {f f':AK.Ed→GM.St} {Es:Nat→List AK.Ed} {F:FoP} {x:AK.Ed}
theorem Dr1.next (h:Dr1 w wr G n N A f x j) (hF:G.Fs[j]?=some F) (hf:FoAt w' F n (N+2) (cutE x (GM.lvl f A j))) (hc:Chg F.S wr w'):Dr1 w w' G n (N+2) A f x (j+1):=by
 refine ⟨(h.g.turn hF hf (by omega) hc).congr fun q _=>?_,h.c.step (hc.mono fun k _ hk=>.inr (.inr (.inr ⟨_,F,hF,hk⟩)))⟩
 by_cases e:q=j
 ·subst e;simp
 ·rw [if_neg e]
  by_cases e2:q < j
  ·rw [if_pos e2,if_pos (by omega)]
  ·rw [if_neg e2,if_neg (by omega)]
theorem Dr1.done (h:Dr1 w wr G n N A f x ((f x).lv+1)) (h6:G.Fs.length≤6):Dr2 w wr G G n N A (cutE x A) f f:=by
 refine ⟨h.g.congr fun q _=>?_,GrC.same h.c fun _ h=>h,h6,Nat.le_refl _,fun _ _=>Nat.le_refl _⟩
 by_cases e:q < (f x).lv+1
 ·rw [if_pos e];exact GM.lvl_cut x q
 ·rw [if_neg e];exact GM.cut_lvl_hi (by omega)
theorem Dr2.mended {e:Ending} (h:Dr2 w wr G G' n N A B f f') (hn:n≤N) (hk:k < G'.Fs.length) (hm:MendPost wr G' n N B f' a b k e w'):
  (e=.returned (.tuple #[.bool true,.nilIface])∧∃ (G2:GrP) (f2:AK.Ed→GM.St),GrI w' G2 n (N+700) B f2∧GrC w w' G G2∧∀ y∈B,(f y).lv≤(f2 y).lv)∨
  (e=.returned (.tuple #[.bool false,.nilIface])∧DrZ w w' G n (N+700) A B f a b ((k:Int) - 1)):=by
 obtain ⟨G2,f2,c2,u2,s2,l2,hcase⟩:=hm
 have hu:∀ y∈B,(f y).lv≤(f2 y).lv:=fun y hy=>Nat.le_trans (h.up y hy) (u2 y hy)
 rcases hcase with ⟨rfl,hg⟩ | ⟨rfl,hg,hb,hcon,hsm⟩
 ·exact .inl ⟨rfl,G2,f2,hg,h.c.trans c2,hu⟩
 ·refine .inr ⟨rfl,G2,f2,⟨hg,h.c.trans c2,s2,Nat.le_trans h.le l2,hu⟩,?_⟩
  rcases Nat.eq_zero_or_pos k with rfl | hp
  ·refine .inr ⟨by omega,hb.done hcon fun j=>?_⟩
   rcases Nat.eq_zero_or_pos j with rfl | hj
   ·exact hsm 0 (Nat.le_refl _)
   ·exact hb.smh j hj
  ·obtain ⟨k',rfl⟩:∃ k',k=k'+1:=⟨k - 1,by omega⟩
   exact .inl ⟨k',by omega,by omega,hb.down hcon (hsm _ (Nat.le_refl _))⟩
theorem gdrop_range (h:GrM w G n N A f Es) (a b:Int) (hr:¬ (0≤a∧a < n)∨¬ (0≤b∧b < n)):
  Calls Tryz.prog 149 #[.pointer (some ⟨G.gb,0,none⟩),.int .i64 a,.int .i64 b] w fun e w'=>e=.returned (errV 1)∧w=w':=by
 by_cases ha:0≤a∧a < n
 ·have hb:¬ (0≤b∧b < n):=by omega
  have h1:=Lib.hid (gnode_any h a true (by simp [ha]))
  have h2:=Lib.hid (gnode_any h b false (by simp only [hb,decide_false]))
  clear hr ha hb h
  go_enter Tryz.func149,Tryz.ntmps149
  go_wp2_with fail
  refine h1.out.mono ?_
  rintro e w' ⟨rfl,rfl⟩
  go_wp2_with fail
  refine h2.out.mono ?_
  rintro e w' ⟨rfl,rfl⟩
  go_wp2
  go_ret
  exact ⟨rfl,rfl⟩
 ·have h1:=Lib.hid (gnode_any h a false (by simp only [ha,decide_false]))
  clear hr ha h
  go_enter Tryz.func149,Tryz.ntmps149
  go_wp2_with fail
  refine h1.out.mono ?_
  rintro e w' ⟨rfl,rfl⟩
  go_wp2
  go_ret
  exact ⟨rfl,rfl⟩
set_option maxRecDepth 100000 in
theorem gdrop_none (h:GrM w G n N A f Es) (a b:Nat) (ha:a < n) (hb:b < n) (hm:AK.ek a b ∉ A):
  Calls Tryz.prog 149 #[.pointer (some ⟨G.gb,0,none⟩),.int .i64 a,.int .i64 b] w fun e w'=>e=.returned (errV 4)∧Ext w w':=by
 have h60:=h.hn
 have H:=Lib.hid h
 have hxx:okE (AK.ek a b):=okE_ek (by omega) (by omega)
 have HF:Hid (okE (AK.ek a b)∧AK.ek a b ∉ A):=⟨hxx,hm⟩
 have n1:=Lib.hid (gnode_any h a true (by simp [ha]))
 have n2:=Lib.hid (gnode_any h b true (by simp [hb]))
 clear hxx h hm
 go_enter Tryz.func149,Tryz.ntmps149
 go_wp2_with fail
 refine n1.out.mono ?_
 rintro e w' ⟨rfl,rfl⟩
 go_wp2_with fail
 refine n2.out.mono ?_
 rintro e w' ⟨rfl,rfl⟩
 go_wp2_with fail
 refine (of_any _ (a:Int) (b:Int)).mono ?_
 rintro e w1 ⟨rfl,hb1⟩
 have X1:Hid (Ext w w1):=hb1
 rw [edV_ek]
 have HXA:Hid (AK.ek (a:Int) b=(min (a:Int) b,max (a:Int) b)):=rfl
 generalize min (a:Int) b=u at HXA ⊢
 generalize max (a:Int) b=v at HXA ⊢
 clear hb1 n1 n2
 go_wp2_with fail
 have X2:Hid (Ext w (w1.alloc (.cells #[.int .i64 u,.int .i64 v] 93))):=X1.out.trans (Ext.alloc _ _)
 have B2:Hid (Blk (w1.alloc (.cells #[.int .i64 u,.int .i64 v] 93)) w1.heap.size 93 #[.int .i64 u,.int .i64 v]):=Blk.new w1 _ _
 generalize w1.heap.size=B at B2 ⊢
 generalize w1.alloc (.cells #[.int .i64 u,.int .i64 v] 93)=w2 at X2 B2 ⊢
 have KG:Hid (∀ W,Ext w2 W→GRd W G B u v (u,v) (.agg #[.int .i64 0,.bool false]) false):=fun W hW=>by
  have hm:=HF.out.2
  rw [HXA.out] at hm
  exact (H.out.ext X2.out).read B2.out (by have:=HF.out.1;rw [HXA.out] at this;exact this) (by rw [if_neg hm]) (by simp [hm]) hW
 clear X1
 go_region_held3 (fun W=>Ext w2 W∧W.cell? ⟨G.gb,1,none⟩=some (.map (some G.eb))∧W.cell? ⟨B,0,none⟩=some (.int .i64 u)∧W.cell? ⟨B,1,none⟩=some (.int .i64 v)∧(Instr.lookup 137 (.map (some G.eb)) (.agg #[.int .i64 u,.int .i64 v]) true).run Tryz.prog W=.ok (.tuple #[.agg #[.int .i64 0,.bool false],.bool false]) W)
  ((refine (fun hE=>⟨hE,(KG.out _ hE).c1,(KG.out _ hE).y0,(KG.out _ hE).y1,(KG.out _ hE).lk⟩:Ext w2 _→_) ?_;first | assumption | exact fst_ (by assumption) | exact Ext.refl _ | exact Ext.trans (by assumption) (Ext.alloc _ _) | exact Ext.drew _ | exact (Ext.alloc _ _).trans (Ext.drew _) | exact Ext.set_ (Ext.set_ (by assumption) (Nat.le_refl _) _) (Nat.le_refl _) _ | exact Ext.trans (fst_ (by assumption)) (by assumption) | (trace_state;fail)))
  (fail)
 all_goals
  rename_i hHeld
  have X3:Hid (Ext w (w2.alloc (Obj.cells #[.int .i64 0,.bool false] 150)).drew):=X2.out.trans (fst_ hHeld)
  clear hHeld KG X2
  go_wp2
  go_ret
  exact ⟨rfl,X3.out⟩
end
section
variable {w:World} {G:GrP} {n N a b:Nat} {A:List AK.Ed} {f:AK.Ed→GM.St}
set_option maxRecDepth 100000 in
theorem gdrop_ok (h:GrI w G n N A f) (hN:N+4000 < 1000000) (hl:A.length≤200) (ha:a < n) (hb:b < n) (hm:AK.ek a b∈A):
  Calls Tryz.prog 149 #[.pointer (some ⟨G.gb,0,none⟩),.int .i64 a,.int .i64 b] w (GDropPost w G n N A f (AK.ek a b)):=by
 have h60:=h.m.hn
 have hnN:=h.nN
 have H:=Lib.hid h
 have hxx:okE (AK.ek a b):=okE_ek (by omega) (by omega)
 have HF:Hid (okE (AK.ek a b)∧AK.ek a b∈A):=⟨hxx,hm⟩
 have hab:a≠b:=by
  have:=h.k.ok _ hm
  unfold AK.ek at this
  simp only at this
  omega
 have HAD:Hid (adj A a b):=(h.k.adj_ek hab).1 hm
 obtain ⟨s,hs⟩:∃ s,f (AK.ek a b)=s:=⟨_,rfl⟩
 have HS:=Lib.hid hs
 have hlv:s.lv≤4:=by rw [←hs];exact h.k.lv_le h60.2 HAD.out
 have htop:Hid (s.lv < G.Fs.length):=by rw [←hs];exact h.k.top _ hm
 have n1:=Lib.hid (gnode_any h.m a true (by simp [ha]))
 have n2:=Lib.hid (gnode_any h.m b true (by simp [hb]))
 have HAB:=Lib.hid hab
 clear hxx h hm hs hab
 go_enter Tryz.func149,Tryz.ntmps149
 go_wp2_with fail
 refine n1.out.mono ?_
 rintro e w' ⟨rfl,rfl⟩
 go_wp2_with fail
 refine n2.out.mono ?_
 rintro e w' ⟨rfl,rfl⟩
 go_wp2_with fail
 refine (of_any _ (a:Int) (b:Int)).mono ?_
 rintro e w1 ⟨rfl,hb1⟩
 have X1:Hid (Ext w w1):=hb1
 rw [edV_ek]
 have HXA:Hid (AK.ek (a:Int) b=(min (a:Int) b,max (a:Int) b)):=rfl
 generalize min (a:Int) b=u at HXA ⊢
 generalize max (a:Int) b=v at HXA ⊢
 clear hb1 n1 n2
 go_wp2_with fail
 have X2:Hid (Ext w (w1.alloc (.cells #[.int .i64 u,.int .i64 v] 93))):=X1.out.trans (Ext.alloc _ _)
 have B2:Hid (Blk (w1.alloc (.cells #[.int .i64 u,.int .i64 v] 93)) w1.heap.size 93 #[.int .i64 u,.int .i64 v]∧w.heap.size≤w1.heap.size):=⟨Blk.new w1 _ _,X1.out.size⟩
 generalize w1.heap.size=B at B2 ⊢
 generalize w1.alloc (.cells #[.int .i64 u,.int .i64 v] 93)=w2 at X2 B2 ⊢
 have KG:Hid (∀ W,Ext w2 W→GRd W G B u v (u,v) (.agg #[.int .i64 s.lv,.bool s.tr]) true):=fun W hW=>by
  have hm:=HF.out.2
  have hs:=HS.out
  rw [HXA.out] at hm hs
  exact (H.out.m.ext X2.out).read B2.out.1 (by have:=HF.out.1;rw [HXA.out] at this;exact this) (by rw [if_pos hm,hs];rfl) (by simp [hm]) hW
 clear X1
 go_upto_region 4 with fail
 go_cut [8,9] (fun s8 s9 wx=>∃ C2:Nat,s8=.pointer (some ⟨C2,0,none⟩)∧s9=.bool true∧Hid (Ext w2 wx∧Blk wx C2 150 #[.int .i64 s.lv,.bool s.tr]∧w2.heap.size≤C2))
 case first=>
  go_region_held3 (fun W=>Ext w2 W∧W.cell? ⟨G.gb,1,none⟩=some (.map (some G.eb))∧W.cell? ⟨B,0,none⟩=some (.int .i64 u)∧W.cell? ⟨B,1,none⟩=some (.int .i64 v)∧(Instr.lookup 137 (.map (some G.eb)) (.agg #[.int .i64 u,.int .i64 v]) true).run Tryz.prog W=.ok (.tuple #[.agg #[.int .i64 s.lv,.bool s.tr],.bool true]) W)
   ((refine (fun hE=>⟨hE,(KG.out _ hE).c1,(KG.out _ hE).y0,(KG.out _ hE).y1,(KG.out _ hE).lk⟩:Ext w2 _→_) ?_;first | assumption | exact fst_ (by assumption) | exact Ext.refl _ | exact Ext.trans (by assumption) (Ext.alloc _ _) | exact Ext.drew _ | exact (Ext.alloc _ _).trans (Ext.drew _) | exact Ext.set_ (Ext.set_ (by assumption) (Nat.le_refl _) _) (Nat.le_refl _) _ | exact Ext.trans (fst_ (by assumption)) (by assumption) | (trace_state;fail)))
   (fail)
  all_goals
   rename_i hHeld
   have HH:Hid (Ext w2 (w2.alloc (Obj.cells #[.int .i64 s.lv,.bool s.tr] 150)).drew∧Blk (w2.alloc (Obj.cells #[.int .i64 s.lv,.bool s.tr] 150)).drew w2.heap.size 150 #[.int .i64 s.lv,.bool s.tr]∧w2.heap.size≤w2.heap.size):=⟨fst_ hHeld,(Blk.new w2 _ _).drew,Nat.le_refl _⟩
   clear hHeld
   go_wp2
   go_meet
   exact ⟨_,rfl,rfl,HH.out⟩
 case rest=>
  obtain ⟨C2,rfl,rfl,HC⟩:=hcut
  have hk:=KG.out wc HC.out.1
  have c1:=hk.c1
  have y0:=hk.y0
  have y1:=hk.y1
  have XW:Hid (Ext w wc):=X2.out.trans HC.out.1
  have HG:=H.out.m.ext XW.out
  obtain ⟨W3,hr0,hg3,hc3,hsz3⟩:=(HG.ext (Ext.drew wc)).strike (H.out.k.up.imp (fun {x y} h=>by intro e;subst e;unfold ltE at h;omega)) (AK.ek a b) HF.out.1 HF.out.2
  have hr:∀ ty,(Builtin.delete_ #[137,93] ty #[.map (some G.eb),.agg #[.int .i64 u,.int .i64 v]]).run Tryz.prog wc.drew=.ok (.tuple #[]) W3:=fun ty=>by
   have:=hr0 ty
   rw [HXA.out] at this
   exact this
  have C3:Hid (Chg G.S w W3):=(Chg.new (XW.out.trans (Ext.drew wc)) G.S).trans hc3 (fun k _ hk=>Or.inr (Or.inl hk))
  have HW3:Hid (GrM W3 G n N (cutE (AK.ek a b) A) f (GM.lvl f A)):=hg3
  have hC2:Hid (∀ k,G.S k→k < C2):=fun k hk=>by
   have h1:=H.out.m.lt k hk
   have h2:=X2.out.size
   have h3:=HC.out.2.2
   omega
  have S3:Hid (Blk W3 C2 150 #[.int .i64 s.lv,.bool s.tr]):=(HC.out.2.1.drew).chg hc3 (fun e=>by have:=hC2.out _ (.inr (.inl e));omega)
  have q0:W3.cell? ⟨C2,0,none⟩=some (.int .i64 s.lv):=S3.out.cell 0
  have q1:W3.cell? ⟨C2,1,none⟩=some (.bool s.tr):=S3.out.cell 1
  clear hk hr0 hg3 hc3 hsz3 HG KG HC X2 B2
  by_cases ht:s.tr=true
  ·have hbk:=H.out.k.torn HAD.out (by rw [HS.out];exact ht)
   rw [HS.out] at hbk
   have HBK:=Lib.hid hbk
   have D0:Hid (Dr1 w W3 G n (N+2 * 0) A f (AK.ek a b) 0):=⟨HW3.out.congr fun q _=>if_neg (Nat.not_lt_zero _),C3.out⟩
   clear hbk HW3 C3 XW
   go_wp2
   go_still_tail 5,(by kernel_rfl)
   go_wp2
   go_loopw [52] (fun v52 wr=>∃ j:Nat,j≤s.lv+1∧v52=.int .i64 j∧Hid (Dr1 w wr G n (N+2 * j) A f (AK.ek a b) j∧Chg G.S W3 wr)) (fun v52 _=>s.lv+1 - (intOf v52).toNat)
   case atStart=>exact ⟨0,Nat.zero_le _,rfl,D0.out,Chg.refl _ _⟩
   case round=>
    obtain ⟨j,hj,rfl,HR⟩:=hrel
    clear D0 q0 q1 hr c1 y0 y1
    by_cases hlt:j < s.lv+1
    ·obtain ⟨Fj,hFj⟩:=HR.out.1.g.get (show j < G.Fs.length by have:=htop.out;omega)
     have HFJ:=Lib.hid hFj
     have c2:wr.cell? ⟨G.gb,2,none⟩=some (.slice (some ⟨G.ob,0,none⟩) G.Fs.length G.c):=HR.out.1.g.blk.cell 2
     have c3:=HR.out.1.g.cellF hFj
     have p0:(0:Int)≤(j:Int):=by omega
     have p1:(j:Int) < (G.Fs.length:Int):=by have:=htop.out;omega
     have p2:(j:Int) < (s.lv:Int)+1:=by omega
     have hfj:=HR.out.1.g.fo j Fj hFj
     rw [if_neg (Nat.lt_irrefl _)] at hfj
     have hadj:adj (GM.lvl f A j) a b:=(H.out.k.lvl_ek HAB.out).2 ⟨HAD.out,by rw [HS.out];exact ht,by rw [HS.out];omega⟩
     have TL0:=tcut_ok hfj (by omega) a b hadj
     obtain ⟨F9,hF9⟩:∃ F9,Fj.fb=F9:=⟨_,rfl⟩
     rw [hF9] at c3 TL0
     have TL:=Lib.hid TL0
     clear TL0 hfj hFj hF9 hadj
     go_wp2_with fail
     refine TL.out.mono ?_
     rintro e w9 ⟨rfl,hf9,hc9⟩
     have HN:Hid (Dr1 w w9 G n (N+2 * (j+1)) A f (AK.ek a b) (j+1)∧Chg G.S W3 w9):=
      ⟨HR.out.1.next HFJ.out hf9 hc9,HR.out.2.step (hc9.mono fun k _ hk=>.inr (.inr (.inr ⟨_,Fj,HFJ.out,hk⟩)))⟩
     clear hf9 hc9 TL HR
     go_wp2
     go_roundw
     case rel=>exact ⟨j+1,by omega,by go_num,HN⟩
     case measure=>simp [intOf];omega
    ·obtain rfl:j=s.lv+1:=by omega
     have p3:¬ (((s.lv+1:Nat):Int) < (s.lv:Int)+1):=by omega
     have S4:=S3.out.chg HR.out.2 (fun hk=>by have:=hC2.out _ hk;omega)
     have q0:wr.cell? ⟨C2,0,none⟩=some (.int .i64 s.lv):=S4.cell 0
     have hd:=HR.out.1
     rw [←HS.out] at hd
     have hd2:=hd.done H.out.few
     rw [HS.out] at hd2
     have Z0:Hid (DrZ w wr G n (N+10+700 * (s.lv - s.lv)) A (cutE (AK.ek a b) A) f a b (s.lv:Int)):=
      ⟨G,f,⟨hd2.g.mono (by omega),hd2.c,hd2.six,hd2.le,hd2.up⟩,.inl ⟨s.lv,rfl,htop.out,HBK.out⟩⟩
     clear S4 hd hd2 HR HBK S3 htop
     go_wp2
     go_loopw [12] (fun v12 wr=>∃ z:Int,-1≤z∧z≤s.lv∧v12=.int .i64 z∧Hid (DrZ w wr G n (N+10+700 * (s.lv - z).toNat) A (cutE (AK.ek a b) A) f a b z)) (fun v12 _=>(intOf v12+1).toNat)
     case atStart=>exact ⟨s.lv,by omega,by omega,rfl,by show DrZ _ _ _ _ _ _ _ _ _ _ _;simpa using Z0.out⟩
     case round=>
      obtain ⟨z,hz1,hz2,rfl,HZ⟩:=hrel
      clear Z0 q0
      by_cases hz:0≤z
      ·obtain ⟨k,rfl⟩:=Int.eq_ofNat_of_zero_le hz
       have hcl:(cutE (AK.ek a b) A).length≤200:=Nat.le_trans (List.length_filter_le _ _) hl
       obtain ⟨G',f',hd,hcase⟩:=HZ.out
       obtain ⟨hkl,hbk⟩:k < G'.Fs.length∧GM.BOk n G'.Fs.length (cutE (AK.ek a b) A) f' a b k:=by
        rcases hcase with ⟨k',e,h1,h2⟩ | ⟨e,_⟩
        ·have:k'=k:=by omega
         subst this;exact ⟨h1,h2⟩
        ·omega
       have HD:=Lib.hid hd
       have HKL:=Lib.hid hkl
       have hgb:=hd.c.gb
       have MC0:=gmend_any hd.g hbk hkl (by omega) hd.six (by omega) (by omega) ha hb hcl
       rw [hgb] at MC0
       have MC:=Lib.hid MC0
       clear MC0 hd hcase hkl hbk hgb HZ hcl
       go_wp2_with fail
       refine MC.out.mono ?_
       intro e w9 hp
       rcases HD.out.mended (by omega) HKL.out hp with ⟨rfl,G2,f2,g1,g2,g3⟩ | ⟨rfl,hz9⟩
       ·have HP:Hid (GDropPost w G n N A f (AK.ek a b) (.returned .nilIface) w9):=⟨G2,f2,rfl,g1.mono (by omega),g2,g3⟩
        clear hp g1 g2 g3 MC HD
        go_wp2
        go_ret
        exact HP.out
       ·have HN:Hid (DrZ w w9 G n (N+10+700 * (s.lv - ((k:Int) - 1)).toNat) A (cutE (AK.ek a b) A) f a b ((k:Int) - 1)):=by
         have e:N+10+700 * (s.lv - (k:Int)).toNat+700=N+10+700 * (s.lv - ((k:Int) - 1)).toNat:=by omega
         rw [←e];exact hz9
        clear hp hz9 MC HD
        go_wp2
        go_roundw
        case rel=>exact ⟨(k:Int) - 1,by omega,by omega,rfl,HN⟩
        case measure=>simp [intOf]
      ·have HP:Hid (GDropPost w G n N A f (AK.ek a b) (.returned .nilIface) wr):=by
        obtain ⟨G',f',hd,hcase⟩:=HZ.out
        rcases hcase with ⟨k',e,h1,h2⟩ | ⟨e,hgk⟩
        ·exact absurd (by omega:0≤z) hz
        ·exact ⟨G',f',rfl,⟨hd.g.mono (by omega),hgk,hd.six,by omega⟩,hd.c,hd.up⟩
       clear HZ
       go_wp2
       go_ret
       exact HP.out
  ·have ht':s.tr=false:=by simpa using ht
   have HP:Hid (GDropPost w G n N A f (AK.ek a b) (.returned .nilIface) W3):=by
    have hf:(f (AK.ek a b)).tr=false:=by rw [HS.out];exact ht'
    exact ⟨G,f,rfl,⟨(HW3.out.congr fun q _=>GM.cut_lvl hf q).mono (by omega),H.out.k.less hf,H.out.few,by omega⟩,GrC.same C3.out fun _ h=>h,fun _ _=>Nat.le_refl _⟩
   clear HW3 C3 XW S3
   go_wp2
   go_still_tail 5,(by kernel_rfl)
   go_wp2
   go_ret
   exact HP.out
end
end Go.Proofs.YtkoajpeabicpdaaGreatDoor
namespace Go.Proofs.YtkoajpeabicpdaaGreatDoor
open Go SQ TR DF PD PT
structure CutC (n:Nat) (E:List AK.Ed) (u v:Nat):Prop where
 no:¬ Cn (adj (cutE (AK.ek u v) E)) u v
 uv:Cn (adj E) u v
 both:∀ z,Cn (adj E) u z↔Cn (adj (cutE (AK.ek u v) E)) u z∨Cn (adj (cutE (AK.ek u v) E)) v z
 apart:∀ z,¬ (Cn (adj (cutE (AK.ek u v) E)) u z∧Cn (adj (cutE (AK.ek u v) E)) v z)
theorem up_nodup {l:List Int} (h:l.Pairwise (fun x y=>x < y)):l.Nodup:=h.imp fun h=>by omega
theorem cut_len {n u v:Nat} {E:List AK.Ed} (h:CutC n E u v):(comp n (cutE (AK.ek u v) E) u).length+(comp n (cutE (AK.ek u v) E) v).length=(comp n E u).length:=by
 have nd:(comp n (cutE (AK.ek u v) E) u++comp n (cutE (AK.ek u v) E) v).Nodup:=by
  rw [List.nodup_append]
  refine ⟨up_nodup (comp_up ..),up_nodup (comp_up ..),fun x hx y hy e=>?_⟩
  subst e
  obtain ⟨a,a1,a2,rfl⟩:=comp_mem.1 hx
  obtain ⟨b,b1,b2,b3⟩:=comp_mem.1 hy
  have:b=a:=by omega
  subst this
  exact h.apart b ⟨a2,b2⟩
 have mem:∀ x,x∈comp n (cutE (AK.ek u v) E) u++comp n (cutE (AK.ek u v) E) v↔x∈comp n E u:=fun x=>by
  rw [List.mem_append,comp_mem,comp_mem,comp_mem]
  constructor
  ·rintro (⟨a,a1,a2,a3⟩ | ⟨a,a1,a2,a3⟩)
   ·exact ⟨a,a1,(h.both a).2 (.inl a2),a3⟩
   ·exact ⟨a,a1,(h.both a).2 (.inr a2),a3⟩
  ·rintro ⟨a,a1,a2,a3⟩
   rcases (h.both a).1 a2 with c | c
   ·exact .inl ⟨a,a1,c,a3⟩
   ·exact .inr ⟨a,a1,c,a3⟩
 have h1:=nodup_le nd fun x hx=>(mem x).1 hx
 have h2:=nodup_le (up_nodup (comp_up n E u)) fun x hx=>(mem x).2 hx
 rw [List.length_append] at h1 h2
 omega
noncomputable def ldr (E:List AK.Ed) (a:Nat):Bool:=by classical exact decide (∀ u,u < a→¬ Cn (adj E) a u)
theorem ldr_iff {E:List AK.Ed} {a:Nat}:ldr E a=true↔∀ u,u < a→¬ Cn (adj E) a u:=by unfold ldr;simp
theorem ldr_count {n:Nat} {E:List AK.Ed} (h:Fo n E):PD.cnt (ldr E) n+E.length=n:=by
 let es:List (Nat × Nat):=E.map fun x=>(x.1.toNat,x.2.toNat)
 have key:∀ x y:Nat,((x:Int),(y:Int))∈E↔(x,y)∈es:=fun x y=>by
  simp only [es,List.mem_map]
  constructor
  ·intro h;exact ⟨_,h,by simp⟩
  ·rintro ⟨z,hz,e⟩
   have:=h.ok z hz
   have e1:=congrArg Prod.fst e
   have e2:=congrArg Prod.snd e
   simp only at e1 e2
   have:z=((x:Int),(y:Int)):=Prod.ext (by simp only;omega) (by simp only;omega)
   rwa [←this]
 have he:∀ x y,adj E x y↔(x,y)∈es∨(y,x)∈es:=fun x y=>by unfold adj;rw [key,key]
 obtain ⟨p,hp⟩:=exists_parts n es fun x y w=>by have:=adj_in h.ok ((he x y).2 (.inl w));exact ⟨this.1,this.2.1⟩
 have h1:=count_fs h.ok (rises_nodup h.up) h.fs he hp
 have h2:PD.cnt (ldr E) n=cntP n p:=by
  refine cnt_congr fun i hi=>?_
  rw [fx_true,ldr_iff]
  obtain ⟨v,v1,v2,v3⟩:=hp.get hi
  have c:Cn (adj E) i v:=(con_iff he i v).1 v3
  refine Iff.symm ?_
  constructor
  ·intro hh
   rw [v1] at hh
   have:v=i:=Option.some.inj hh
   subst this
   intro u hu cu
   have:=hp.least v1 (by omega) ((con_iff he v u).2 cu)
   omega
  ·intro hl
   rcases Nat.lt_or_ge v i with q | q
   ·exact absurd c (hl v q)
   ·rw [v1];congr 1;omega
 omega
open Go.RowKit
structure GcS (w wr:World) (G:GrP) (n N:Nat) (A:List AK.Ed) (f:AK.Ed→GM.St):Prop where
 at_:GrI wr G n N A f
 ext:Ext w wr
 new:∀ k,G.T k→w.heap.size≤k
section
variable {w wr w':World} {G G':GrP} {n N N':Nat} {A A':List AK.Ed} {f f':AK.Ed→GM.St}
theorem GcS.moved (h:GcS w wr G n N A f) (hx:Ext wr w'):GcS w w' G n N A f:=⟨h.at_.ext hx,h.ext.trans hx,h.new⟩
theorem GcS.mono (h:GcS w wr G n N A f) (hN:N≤N'):GcS w wr G n N' A f:=⟨h.at_.mono hN,h.ext,h.new⟩
theorem GcS.step (h:GcS w wr G n N A f) (h':GrI w' G' n N' A' f') (hc:GrC wr w' G G'):GcS w w' G' n N' A' f':=
 ⟨h',h.ext.chg_new hc.chg (fun k hk=>h.new k (.inl hk)),fun k hk=>(hc.t k hk).elim (fun x=>h.new k x) (fun x=>Nat.le_trans h.ext.size x)⟩
theorem GcS.made {e:Ending} (hx:Ext w wr) (hp:GNewPost wr n e w'):∃ G:GrP,e=.returned (.tuple #[.pointer (some ⟨G.gb,0,none⟩),.nilIface])∧GcS w w' G n n [] (fun _=>⟨0,false⟩)∧Ext wr w':=by
 obtain ⟨G,rfl,h1,h2,h3,h4⟩:=hp
 refine ⟨G,rfl,⟨⟨(h1 _).congr fun i _=>?_,by rw [h2];exact .start n _,by omega,Nat.le_refl _⟩,hx.trans h3,fun k hk=>Nat.le_trans hx.size (h4 k hk)⟩,h3⟩
 rfl
end
def GDropAll (w:World) (G:GrP) (n N:Nat) (A:List AK.Ed) (f:AK.Ed→GM.St) (a b:Int) (e:Ending) (w':World):Prop:=
 ((¬ (0≤a∧a < n)∨¬ (0≤b∧b < n))∧e=.returned (errV 1)∧Ext w w')∨((0≤a∧a < n)∧(0≤b∧b < n)∧AK.ek a b ∉ A∧e=.returned (errV 4)∧Ext w w')∨
  ((0≤a∧a < n)∧(0≤b∧b < n)∧AK.ek a b∈A∧GDropPost w G n N A f (AK.ek a b) e w')
section
variable {w wr w':World} {G G':GrP} {n N N':Nat} {A A':List AK.Ed} {f f':AK.Ed→GM.St}
theorem gdrop_any (h:GrI w G n N A f) (hN:N+4000 < 1000000) (hl:A.length≤200) (a b:Int):Calls Tryz.prog 149 #[.pointer (some ⟨G.gb,0,none⟩),.int .i64 a,.int .i64 b] w (GDropAll w G n N A f a b):=by
 by_cases hr:¬ (0≤a∧a < n)∨¬ (0≤b∧b < n)
 ·refine (gdrop_range h.m a b hr).mono ?_
  rintro e w' ⟨rfl,rfl⟩
  exact .inl ⟨hr,rfl,Ext.refl _⟩
 ·obtain ⟨a',rfl⟩:=Int.eq_ofNat_of_zero_le (show 0≤a by omega)
  obtain ⟨b',rfl⟩:=Int.eq_ofNat_of_zero_le (show 0≤b by omega)
  by_cases hm:AK.ek (a':Int) b'∈A
  ·exact (gdrop_ok h hN hl (by omega) (by omega) hm).mono fun e w' q=>.inr (.inr ⟨by omega,by omega,hm,q⟩)
  ·refine (gdrop_none h.m a' b' (by omega) (by omega) hm).mono ?_
   rintro e w' ⟨rfl,hx⟩
   exact .inr (.inl ⟨by omega,by omega,hm,rfl,hx⟩)
theorem cutE_len_le (x:AK.Ed) (A:List AK.Ed):(cutE x A).length≤A.length:=List.length_filter_le _ _
theorem tree_len (h:GrI w G n N A f):PD.cnt (ldr A) n+(GM.lvl f A 0).length=n:=by
 have h1:=ldr_count (h.k.fo 0)
 have:PD.cnt (ldr (GM.lvl f A 0)) n=PD.cnt (ldr A) n:=by
  refine cnt_congr fun i _=>?_
  rw [ldr_iff,ldr_iff]
  exact ⟨fun q u hu c=>q u hu (h.k.joins.1 c),fun q u hu c=>q u hu (h.k.joins.2 c)⟩
 omega
theorem comp_joins (h:GrI w G n N A f) (a:Nat):comp n (GM.lvl f A 0) a=comp n A a:=
 up_ext (comp_up ..) (comp_up ..) fun x=>by
  rw [comp_mem,comp_mem]
  exact ⟨fun ⟨u,h1,h2,h3⟩=>⟨u,h1,h.k.joins.2 h2,h3⟩,fun ⟨u,h1,h2,h3⟩=>⟨u,h1,h.k.joins.1 h2,h3⟩⟩
end
section
variable {w w':World} {G:GrP} {n N:Nat} {A:List AK.Ed} {f:AK.Ed→GM.St} {Es:Nat→List AK.Ed} {F:FoP} {E:List AK.Ed}
theorem FoAt.notyp (h:FoAt w F n N E) {t:TypeId} (ht:¬ (t=216∨t=3)) {k:Nat} {cs:Array Value} (hb:Blk w k t cs):¬ (F.S k∨k=F.fb):=by
 obtain ⟨p,s,m,h1,h2,h3,h4⟩:=h.ways
 obtain ⟨me,k1,k2⟩:=h.edges
 rintro ((rfl | rfl | rfl) | rfl)
 ·exact h3.blk_ne hb rfl
 ·exact own_ne h2 hb (fun e=>ht (.inr e.symm)) rfl
 ·exact k1.blk_ne hb rfl
 ·exact (h.blk.ne_ hb (fun e=>ht (.inl e.symm))) rfl
theorem GrM.notyp (h:GrM w G n N A f Es) {t:TypeId} (ht:¬ (t=140∨t=141∨t=216∨t=3)) {k:Nat} {cs:Array Value} (hb:Blk w k t cs):¬ G.T k:=by
 obtain ⟨me,m1,m2⟩:=h.edges
 have hF:∀ (i:Nat) (F:FoP),G.Fs[i]?=some F→¬ (F.S k∨k=F.fb):=fun i F hi=>(h.fo i F hi).notyp (fun e=>ht (e.elim (fun e=>.inr (.inr (.inl e))) fun e=>.inr (.inr (.inr e)))) hb
 rintro ((rfl | rfl | rfl | ⟨i,F,hi,hk⟩) | ⟨i,F,hi,hk⟩)
 ·exact (h.blk.ne_ hb (fun e=>ht (.inl e.symm))) rfl
 ·exact m1.blk_ne hb rfl
 ·exact own_ne h.row hb (fun e=>ht (.inr (.inl e.symm))) rfl
 ·exact hF i F hi (.inl hk)
 ·exact hF i F hi (.inr hk)
end
end Go.Proofs.YtkoajpeabicpdaaGreatDoor
