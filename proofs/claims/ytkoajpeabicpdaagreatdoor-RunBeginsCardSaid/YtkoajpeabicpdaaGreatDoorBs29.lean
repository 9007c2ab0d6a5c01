/-
A desk on its disk through a law; its Save. Conditions: they lie as 'DkS' says.
-/
import Derived.Test.YtkoajpeabicpdaaGreatDoorBs23
import Derived.Test.YtkoajpeabicpdaaGreatDoorBs27
import Derived.Test.YtkoajpeabicpdaaGreatDoorBs28
set_option linter.unusedVariables false
set_option maxHeartbeats 8000000
namespace Go.Proofs.YtkoajpeabicpdaaGreatDoor
open Go Go.RowKit SQ TR DF PD PT
structure DkS (W wr:World) (d:DK.D) (gu gs t:Nat) (b:List Int) (dn:Bool) (kb n N:Nat) (G:GrP) (A:List AK.Ed) (f:AK.Ed→GM.St):Prop where
 sk:SkR W 62 d gu gs t b dn none wr
 blk:Blk wr kb 71 (dkC gs G.gb n)
 g:GrI wr G n N A f
 new:(∀ k,G.T k→W.heap.size≤k)∧W.heap.size≤kb
 le:A.length≤200
section
variable {W wr w':World} {d d':DK.D} {gu gs t t':Nat} {b b':List Int} {dn dn':Bool} {kb n N:Nat} {G:GrP} {A:List AK.Ed} {f:AK.Ed→GM.St}
theorem DkS.moved (h:DkS W wr d gu gs t b dn kb n N G A f) (hx:Ext wr w'):DkS W w' d gu gs t b dn kb n N G A f:=
 ⟨h.sk.ext hx,h.blk.chg (Chg.of_below hx) (by have:=h.blk.lt;omega),h.g.ext hx,h.new,h.le⟩
theorem DkS.ext (h:DkS W wr d gu gs t b dn kb n N G A f):Ext W wr:=h.sk.bel
theorem DkS.store (h:DkS W wr d gu gs t b dn kb n N G A f) (hs:SkR W 62 d' gu gs t' b' dn' none w') (hk:Keeps wr w'):DkS W w' d' gu gs t' b' dn' kb n N G A f:=
 ⟨hs,hk.blk h.blk (by decide),hk.graph h.g,h.new,h.le⟩
theorem DkS.enc (h:DkS W wr d gu gs t b dn kb n N G A f):(edgF n A).2=0:=edgF_iff.2 ⟨by have:=h.g.m.hn;omega,by have:=h.g.m.hn;omega,h.le,h.g.k.ok,h.g.k.up⟩
end
theorem Keeps.after {wr w5 w6:World} (hx:Ext wr w5) (hk:Keeps w5 w6):Keeps wr w6:=by
 obtain ⟨S,hc,hS⟩:=hk
 refine ⟨S,(Chg.new hx S).trans hc (fun _ _ h=>h),fun k hs=>?_⟩
 by_cases hlt:k < wr.heap.size
 ·rcases hS k hs with q | ⟨t,cs,hb,ht⟩
  ·have:=hx.size;omega
  ·refine .inr ⟨t,cs,?_,ht⟩
   unfold Blk at hb ⊢
   rw [←hb]
   exact (hx.block k hlt).symm
 ·exact .inl (by omega)
def DvPost (W:World) (d:DK.D) (gu gs t:Nat) (b:List Int) (kb n N:Nat) (G:GrP) (A:List AK.Ed) (f:AK.Ed→GM.St) (e:Ending) (w':World):Prop:=
 (∃ d',e=.returned .nilIface∧DkS W w' d' gu gs (t+1) (NT.encL n A) false kb n N G A f∧Good 62 d' (t+1) (NT.encL n A)∧(d.left=-1→d'.left=-1))∨
 (∃ d',e=.returned (derrV 8)∧d.left≠-1∧DkS W w' d' gu gs t b true kb n N G A f∧∀ keep,Good 62 (DK.crash d' keep) t b∨Good 62 (DK.crash d' keep) (t+1) (NT.encL n A))
section
variable {W wr w':World} {d:DK.D} {gu gs t:Nat} {b:List Int} {kb n N:Nat} {G:GrP} {A:List AK.Ed} {f:AK.Ed→GM.St}
set_option maxRecDepth 100000 in
theorem dsave_any (h:DkS W wr d gu gs t b false kb n N G A f) (hg:Good 62 d t b) (ht:t+1≤790):
  Calls Tryz.prog 43 #[.pointer (some ⟨kb,0,none⟩)] wr fun e w'=>DvPost W d gu gs t b kb n N G A f e w'∧Keeps wr w':=by
 have hbl:=h.blk.lt
 have HH:=Lib.hid h
 have HGD:=Lib.hid hg
 have HGE:Hid (∀ W',Ext wr W'→Calls Tryz.prog 37 #[.pointer (some ⟨G.gb,0,none⟩)] W' (EdgesPost W' A)):=fun W' hW=>gedges_any (h.g.ext hW).m h.g.k.ok h.g.k.up h.le
 have HC:Hid (∀ W',Ext wr W'→Ext wr W'∧W'.cell? ⟨kb,1,none⟩=some (.pointer (some ⟨G.gb,0,none⟩))∧W'.cell? ⟨kb,2,none⟩=some (.int .i64 (n:Nat))):=fun W' hW=>⟨hW,(hW.cell (p:=⟨kb,1,none⟩) hbl).trans (h.blk.cell 1),(hW.cell (p:=⟨kb,2,none⟩) hbl).trans (h.blk.cell 2)⟩
 have HEN:Hid (∀ W' A4 c,EdsAt W' A4 A→Calls Tryz.prog 16 #[.int .i64 n,.slice A4 A.length c] W' fun e w'=>∃ A5 c5,e=.returned (.tuple #[.slice A5 (2+2 * A.length) c5,.nilIface])∧BytesAt w' A5 (NT.encL n A)∧2+2 * A.length≤c5∧c5≤maxLen∧(∀ x,A5=some x→∃ cs,Blk w' x.block 5 cs)∧Ext W' w'):=fun W' A4 c hE=>by
  refine (encode_any W' n A4 A.length c A rfl (by have:=HH.out.le;omega) hE).mono ?_
  rintro e w5 ⟨hx5,⟨hbad,_⟩ | ⟨_,A5,c5,rfl,hb5,hc5,hm5,hn5⟩⟩
  ·exact absurd HH.out.enc hbad
  ·exact ⟨A5,c5,rfl,hb5,hc5,hm5,fun x hx=>(hn5 x hx).2,hx5⟩
 have hle:=h.le
 have c1:=(HC.out wr (Ext.refl wr)).2.1
 have c2:=(HC.out wr (Ext.refl wr)).2.2
 clear h hg
 go_enter Tryz.func43,Tryz.ntmps43
 go_wp2
 go_region_held3 (fun W'=>Ext wr W'∧W'.cell? ⟨kb,1,none⟩=some (.pointer (some ⟨G.gb,0,none⟩))∧W'.cell? ⟨kb,2,none⟩=some (.int .i64 (n:Nat)))
  (exact HC.out _ (by first | exact Ext.drew _ | assumption | exact fst_ (by assumption) | exact Ext.trans (fst_ (by assumption)) (by assumption)))
  (first
   | (go_at_call 37;refine (HGE.out _ (Ext.drew _)).mono ?_;rintro e w4 ⟨A4,c4,rfl,hd4,hx4,_⟩;have hF4:Ext wr w4:=Ext.trans (Ext.drew _) hx4;have HE4:=Lib.hid (DRow.eds hd4 rfl).1;clear hd4 hx4)
   | (go_at_call 16;refine (HEN.out _ _ _ HE4.out).mono ?_;rintro e w5 ⟨A5,c5,rfl,hb5,hc5,hm5,hn5,hx5⟩;have hF5:Ext wr w5:=Ext.trans hF4 hx5;have H5:Hid (BytesAt w5 A5 (NT.encL n A)∧2+2 * A.length≤c5∧c5≤maxLen∧∀ x,A5=some x→∃ cs,Blk w5 x.block 5 cs):=⟨hb5,hc5,hm5,hn5⟩;clear hb5 hc5 hm5 hn5)
   | fail)
 rename_i hHeld
 have H6:=Lib.hid (HH.out.moved hF5)
 have c0:w5.cell? ⟨kb,0,none⟩=some (.pointer (some ⟨gs,0,none⟩)):=H6.out.blk.cell 0
 have HSV:=Lib.hid (sk_save2 H6.out.sk (Nat.le_refl _) HGD.out ht A5 (2+2 * A.length) c5 (c:=NT.encL n A) (NT.encL_len _ _) (by omega) H5.out.2.1 H5.out.2.2.1 H5.out.1 (fun _ x hx=>.inr (H5.out.2.2.2 x hx)))
 have HX5:Hid (Ext wr w5):=hF5
 clear hHeld H5 HC HEN HGE hF4 hF5 c1 c2 HE4 hx5
 go_wp2_with fail
 refine HSV.out.mono ?_
 rintro e w6 ⟨⟨d',rfl,q1,q2,q3⟩ | ⟨d',rfl,q1,q2,q3⟩,hk⟩
 ·have HP:Hid (DvPost W d gu gs t b kb n N G A f (.returned .nilIface) w6∧Keeps wr w6):=⟨.inl ⟨d',rfl,H6.out.store q1 hk,q2,q3⟩,Keeps.after HX5.out hk⟩
  clear q1 q2 q3 hk HSV
  go_wp2
  go_ret
  exact HP.out
 ·have HP:Hid (DvPost W d gu gs t b kb n N G A f (.returned (derrV 8)) w6∧Keeps wr w6):=⟨.inr ⟨d',rfl,q1,H6.out.store q2 hk,q3⟩,Keeps.after HX5.out hk⟩
  clear q1 q2 q3 hk HSV
  go_wp2
  go_ret
  exact HP.out
end
structure DkE (n:Nat) (l:List AK.Ed):Prop where
 hn:1≤n∧n≤60
 ok:∀ x∈l,0≤x.1∧x.1 < x.2∧x.2 < (n:Int)
 up:l.Pairwise ltE
 le:l.length≤200
theorem DkE.nil {n:Nat} (hn:1≤n∧n≤60):DkE n []:=⟨hn,by simp,.nil,Nat.zero_le _⟩
theorem DkS.de {W wr:World} {d:DK.D} {gu gs t:Nat} {b:List Int} {dn:Bool} {kb n N:Nat} {G:GrP} {A:List AK.Ed} {f:AK.Ed→GM.St} (h:DkS W wr d gu gs t b dn kb n N G A f):DkE n A:=⟨h.g.m.hn,h.g.k.ok,h.g.k.up,h.le⟩
theorem DkE.enc {n:Nat} {l:List AK.Ed} (h:DkE n l):(edgF n l).2=0:=edgF_iff.2 ⟨by have:=h.hn;omega,by have:=h.hn;omega,h.le,h.ok,h.up⟩
def DoPenPost (W:World) (d:DK.D) (gu t n:Nat) (l:List AK.Ed) (e:Ending) (w':World):Prop:=
 ∃ (kb gs:Nat) (G:GrP) (f:AK.Ed→GM.St),e=.returned (.tuple #[.pointer (some ⟨kb,0,none⟩),.nilIface])∧DkS W w' d gu gs t (NT.encL n l) false kb n (n+2 * l.length) G l f
set_option maxRecDepth 100000 in
theorem dopen_any {W wr:World} {d:DK.D} {gu gs0 t t0 n:Nat} {b0:List Int} {dn:Bool} {l:List AK.Ed} (h:SkR W 62 d gu gs0 t0 b0 dn none wr) (hg:Good 62 d t (NT.encL n l)) (hl:DkE n l):
  Calls Tryz.prog 9 #[.pointer (some ⟨gu,0,none⟩)] wr fun e w'=>DoPenPost W d gu t n l e w'∧Ext wr w':=by
 have HO:=Lib.hid (sk_open2 h (Nat.le_refl _) hg)
 have HLE:=Lib.hid hl
 have hle:=hl.le
 have hn:=hl.hn
 have hlen:=NT.encL_len n l
 have HLEN:=Lib.hid hlen
 clear h hg hl hlen
 go_enter Tryz.func9,Tryz.ntmps9
 go_wp2_with fail
 refine HO.out.mono ?_
 rintro e w1 ⟨⟨gs,rfl,h1⟩,hx1⟩
 have H1:=Lib.hid h1
 have X1:Hid (Ext wr w1):=hx1
 clear h1 hx1 HO
 go_wp2_with fail
 refine (sk_load2 H1.out (by rw [HLEN.out];omega)).mono ?_
 rintro e w2 ⟨A2,c2,rfl,hb2,h2,hx2⟩
 have H2:=Lib.hid h2
 have HB2:=Lib.hid hb2
 have X2:Hid (Ext wr w2):=X1.out.trans hx2
 rw [HLEN.out]
 clear hb2 h2 hx2 H1
 have HDC:Hid (Calls Tryz.prog 20 #[.slice A2 (2+2 * l.length) c2] w2 fun e w'=>∃ A3 c3,e=.returned (.tuple #[.int .i64 (n:Nat),.slice A3 l.length c3,.nilIface])∧EdsAt w' A3 l∧Ext w2 w'):=by
  refine (decode_enc w2 A2 (2+2 * l.length) c2 l.length n l rfl (by omega) rfl HB2.out (by omega) (fun x hx=>by have:=HLE.out.ok x hx;omega)).mono ?_
  rintro e w3 ⟨hx3,⟨hbad,_⟩ | ⟨_,A3,c3,rfl,hE3⟩⟩
  ·exact absurd HLE.out.enc hbad
  ·exact ⟨A3,c3,rfl,hE3,hx3⟩
 go_wp2_with fail
 refine HDC.out.mono ?_
 rintro e w3 ⟨A3,c3,rfl,hE3,hx3⟩
 have H3:=Lib.hid (H2.out.ext hx3)
 have HE3:=Lib.hid hE3
 have X3:Hid (Ext wr w3):=X2.out.trans hx3
 clear hE3 hx3 H2 HB2 HDC
 go_wp2_with fail
 refine (build_ok w3 n hn A3 l.length c3 l rfl hle HE3.out HLE.out.ok HLE.out.up).mono ?_
 rintro e w4 ⟨G,f,rfl,h4⟩
 have X4:Hid (Ext wr (w4.alloc (.cells (dkC gs G.gb n) 71))):=(X3.out.trans h4.ext).trans (Ext.alloc _ _)
 have HP:Hid (DkS W (w4.alloc (.cells (dkC gs G.gb n) 71)) d gu gs t (NT.encL n l) false w4.heap.size n (n+2 * l.length) G l f):=by
  have hb:Ext W w4:=H3.out.bel.trans (Below.mono h4.ext H3.out.bel.size)
  exact ⟨(H3.out.ext h4.ext).ext (Ext.alloc _ _),Blk.new _ _ _,h4.at_.ext (Ext.alloc _ _),⟨fun k hk=>Nat.le_trans H3.out.bel.size (h4.new k hk),hb.size⟩,HLE.out.le⟩
 clear h4 H3 HE3
 go_wp2
 go_ret2
 exact ⟨⟨w4.heap.size,gs,G,f,rfl,HP.out⟩,X4.out⟩
def DfPost (W:World) (gu n:Nat) (e:Ending) (w':World):Prop:=
 e=.returned .nilIface∧∃ gs d,SkR W 62 d gu gs 1 (NT.encL n []) false none w'∧Good 62 d 1 (NT.encL n [])∧d.left=-1
theorem sk_open02 {W wr:World} {n t:Nat} {d:DK.D} {b:List Int} (u:Dsk) (h:DAt wr u n d) (hb:Below W.heap.size W wr) (hf:∀ k,u.fp k→W.heap.size≤k) (hn:62≤n) (hg:Good n d t b):Calls Tryz.prog 18 #[.pointer (some ⟨u.g,0,none⟩)] wr fun e w'=>SkOpen W n d u.g t b none e w'∧Ext wr w':=by
 refine (open_good wr u h hn hg).mono ?_
 rintro e w' ⟨g,v,rfl,q1,q2,q3,q4⟩
 have:=hb.size
 exact ⟨⟨g,rfl,⟨u,v,h.ext q2,rfl,q1,hf,fun k hk=>Nat.le_trans this (q4 k hk)⟩,hb.trans (Below.mono q2 this),Nat.le_trans this q3,fun _ _ h=>by simp at h⟩,q2⟩
set_option maxRecDepth 100000 in
theorem dformat_new {W wr:World} {n:Nat} (u:Dsk) (h:DAt wr u 62 (DK.new 62)) (hb:Ext W wr) (hf:∀ k,u.fp k→W.heap.size≤k) (hn:1≤n∧n≤60):
  Calls Tryz.prog 8 #[.pointer (some ⟨u.g,0,none⟩),.int .i64 n] wr (DfPost W u.g n):=by
 have HH:Hid (DAt wr u 62 (DK.new 62)∧Ext W wr∧∀ k,u.fp k→W.heap.size≤k):=⟨h,hb,hf⟩
 have HEN:Hid (Calls Tryz.prog 16 #[.int .i64 n,.slice none 0 0] wr fun e w'=>∃ A5 c5,e=.returned (.tuple #[.slice A5 2 c5,.nilIface])∧BytesAt w' A5 (NT.encL n [])∧2≤c5∧c5≤maxLen∧(∀ x,A5=some x→∃ cs,Blk w' x.block 5 cs)∧Ext wr w'):=by
  refine (encode_any wr n none 0 0 [] rfl (by omega) (.inl rfl)).mono ?_
  rintro e w5 ⟨hx5,⟨hbad,_⟩ | ⟨_,A5,c5,rfl,hb5,hc5,hm5,hn5⟩⟩
  ·exact absurd (DkE.nil hn).enc hbad
  ·exact ⟨A5,c5,rfl,hb5,hc5,hm5,fun x hx=>(hn5 x hx).2,hx5⟩
 obtain ⟨gu,hgu⟩:∃ g,u.g=g:=⟨_,rfl⟩
 have HGU:=Lib.hid hgu
 rw [hgu]
 clear h hb hf hgu
 go_enter Tryz.func8,Tryz.ntmps8
 go_wp2_with fail
 refine HEN.out.mono ?_
 rintro e w1 ⟨A5,c5,rfl,hb5,hc5,hm5,hn5,hx1⟩
 have H1:Hid (DAt w1 u 62 (DK.new 62)∧Ext W w1):=⟨HH.out.1.ext hx1,HH.out.2.1.trans hx1⟩
 have H5:Hid (BytesAt w1 A5 (NT.encL n [])∧2≤c5∧c5≤maxLen∧∀ x,A5=some x→∃ cs,Blk w1 x.block 5 cs):=⟨hb5,hc5,hm5,hn5⟩
 have HFM:=format_yes w1 u 62 H1.out.1 (Nat.le_refl _)
 rw [HGU.out] at HFM
 have HFM:=Lib.hid HFM
 clear hb5 hc5 hm5 hn5 hx1 HEN
 go_wp2_with fail
 refine HFM.out.mono ?_
 rintro e w2 ⟨u',rfl,hd2,hg2,hc2,hf2⟩
 have hE2:Ext W w2:=H1.out.2.chg_new hc2 (fun k hk=>HH.out.2.2 k hk)
 have hfp:∀ k,u'.fp k→W.heap.size≤k:=fun k hk=>(hf2 k hk).elim (fun q=>HH.out.2.2 k q) (fun q=>by have:=H1.out.2.size;omega)
 have H52:Hid (BytesAt w2 A5 (NT.encL n [])∧∀ x,A5=some x→∃ cs,Blk w2 x.block 5 cs):=by
  have off:∀ x,A5=some x→¬ u.fp x.block:=fun x hx=>by
   obtain ⟨cs,hb⟩:=H5.out.2.2.2 x hx
   exact H1.out.1.notyp hb (by decide)
  refine ⟨H5.out.1.chg hc2 (fun _ x hx=>off x hx),fun x hx=>?_⟩
  obtain ⟨cs,hb⟩:=H5.out.2.2.2 x hx
  exact ⟨cs,hb.chg hc2 (off x hx)⟩
 have hOP:=sk_open02 u' hd2 hE2 hfp (Nat.le_refl _) (fmt_good (Nat.le_refl 62)).1
 rw [hg2,HGU.out] at hOP
 have HOP:=Lib.hid hOP
 have HE2:=Lib.hid hE2
 clear hd2 hg2 hc2 hf2 hE2 hfp hOP HFM
 go_wp2_with fail
 refine HOP.out.mono ?_
 rintro e w3 ⟨⟨gs,rfl,h3⟩,hx3⟩
 have H53:Hid (BytesAt w3 A5 (NT.encL n [])∧∀ x,A5=some x→∃ cs,Blk w3 x.block 5 cs):=⟨H52.out.1.ext hx3,fun x hx=>by
  obtain ⟨cs,hb⟩:=H52.out.2 x hx
  exact ⟨cs,hb.chg (Chg.of_below hx3) (by have:=hb.lt;omega)⟩⟩
 have HSV:=Lib.hid (sk_save2 h3 (Nat.le_refl _) (fmt_good (Nat.le_refl 62)).1 (by omega) A5 2 c5 (c:=NT.encL n []) (NT.encL_len _ _) (by omega) H5.out.2.1 H5.out.2.2.1 H53.out.1 (fun _ x hx=>.inr (H53.out.2 x hx)))
 clear h3 hx3 H5 H52 H53 HOP HE2
 go_wp2_with fail
 refine HSV.out.mono ?_
 rintro e w4 ⟨⟨d',rfl,q1,q2,q3⟩ | ⟨d',_,q1,_⟩,hk⟩
 ·have HP:Hid (DfPost W gu n (.returned .nilIface) w4):=⟨rfl,gs,d',q1,q2,q3 (fmt_good (Nat.le_refl 62)).2⟩
  clear q1 q2 q3 hk HSV
  go_wp2
  go_ret
  exact HP.out
 ·exact absurd (fmt_good (Nat.le_refl 62)).2 q1
section
variable {W wr w':World} {d:DK.D} {gu gs t nn:Nat} {b:List Int} {dn:Bool} {kb n N:Nat} {G:GrP} {A:List AK.Ed} {f:AK.Ed→GM.St}
theorem SkR.other (h:SkR W nn d gu gs t b dn none wr) {cs:Array Value} (hc:Chg (fun k=>k=kb) wr w') (hb:Blk wr kb 71 cs) (hk:W.heap.size≤kb):SkR W nn d gu gs t b dn none w':=by
 obtain ⟨u,v,h1,h2,h3,h4,h5⟩:=h.all
 have n1:¬ u.fp kb:=h1.notyp hb (by decide)
 have n2:gs≠kb:=h3.blk.ne_ hb (by decide)
 have n3:v.ownBlock≠some kb:=own_ne h3.row hb (by decide)
 exact ⟨⟨u,v,h1.chg hc (fun k hk e=>n1 (e ▸ hk)),h2,h3.chg hc n2 (fun k hk e=>n3 (by rw [hk,e])),h4,h5⟩,h.bel.trans (hc.below h.bel.size (fun k _ e=>by rw [e];exact hk)),h.gs,fun _ _ h=>by simp at h⟩
theorem DkS.did (h:DkS W wr d gu gs t b dn kb n N G A f) {G':GrP} {f':AK.Ed→GM.St} {A':List AK.Ed} {N':Nat} (hg:GrI w' G' n N' A' f') (hT:∀ k,G'.T k→wr.heap.size≤k) (hb:Blk w' kb 71 (dkC gs G'.gb n)) (hc:Chg (fun k=>k=kb) wr w') (hA:A'.length≤200):DkS W w' d gu gs t b dn kb n N' G' A' f':=
 ⟨h.sk.other hc h.blk h.new.2,hb,hg,⟨fun k hk=>Nat.le_trans h.sk.bel.size (hT k hk),h.new.2⟩,hA⟩
theorem dturn_any (h:DkS W wr d gu gs t b dn kb n N G A f):Calls Tryz.prog 44 #[.pointer (some ⟨kb,0,none⟩)] wr fun e w'=>e=.returned (.int .i64 t)∧Ext wr w':=by
 have c0:wr.cell? ⟨kb,0,none⟩=some (.pointer (some ⟨gs,0,none⟩)):=h.blk.cell 0
 have HT:=Lib.hid (sk_turn h.sk)
 clear h
 go_enter Tryz.func44,Tryz.ntmps44
 go_wp2_with fail
 refine HT.out.mono ?_
 rintro e w1 ⟨rfl,rfl⟩
 go_wp2
 go_ret
 exact ⟨rfl,Ext.refl _⟩
theorem dnodes_any (h:DkS W wr d gu gs t b dn kb n N G A f):Calls Tryz.prog 36 #[.pointer (some ⟨kb,0,none⟩)] wr fun e w'=>e=.returned (.int .i64 n)∧Ext wr w':=by
 have c0:wr.cell? ⟨kb,2,none⟩=some (.int .i64 (n:Nat)):=h.blk.cell 2
 clear h
 go_enter Tryz.func36,Tryz.ntmps36
 go_wp2
 go_ret
 exact ⟨rfl,Ext.refl _⟩
end
end Go.Proofs.YtkoajpeabicpdaaGreatDoor
