/-
A builder beside a session: its WriteString with all that it leaves as it is; that no answer holds the byte 20, with which a store's bytes begin. Conditions: as each says.
-/
import Derived.Test.YtkoajpeabicpdaaGreatDoorBs47
import Derived.Test.YtkoajpeabicpdaaGreatDoorBs48
set_option linter.unusedVariables false
set_option maxHeartbeats 8000000
namespace Go.Proofs.YtkoajpeabicpdaaGreatDoor
open Go Go.RowKit SQ TR DF PD PT
namespace RN
open Lib NT
theorem dec_no20:∀ (k u:Nat),u≤k→∀ x∈decDigits u,x≠20
 | 0,u,h=>by
  obtain rfl:u=0:=by omega
  rw [decDigits_one (by omega)]
  decide
 | k+1,u,h=>by
  have hd:∀ d:Nat,d < 10→∀ x∈[UInt8.ofNat (48+d)],x≠20:=fun d hd=>by
   have:d=0∨d=1∨d=2∨d=3∨d=4∨d=5∨d=6∨d=7∨d=8∨d=9:=by omega
   rcases this with rfl | rfl | rfl | rfl | rfl | rfl | rfl | rfl | rfl | rfl <;> decide
  by_cases h10:u < 10
  ·rw [decDigits_one h10];exact hd u h10
  ·rw [dec_cut h10]
   intro x hx
   rcases List.mem_append.1 hx with hx | hx
   ·exact dec_no20 k (u / 10) (by omega) x hx
   ·exact hd (u % 10) (by omega) x hx
theorem digs_no20 (u:Nat):∀ x∈decDigits u,x≠20:=dec_no20 u u (Nat.le_refl _)
theorem name_no20 (k:Nat):∀ x∈nameOf k,x≠20:=by
 unfold nameOf
 split <;> decide
theorem joinW_mem {x:UInt8}:∀ {ws:List (List UInt8)},x∈joinW ws→x=32∨∃ y∈ws,x∈y
 | [],h=>by simp [joinW,Lib.join,List.intercalate] at h
 | [y],h=>by rw [joinW_one] at h;exact .inr ⟨y,by simp,h⟩
 | y::z::r,h=>by
  unfold joinW Lib.join at h
  simp only [List.intercalate] at h
  rw [List.intersperse_cons_cons,List.flatten_cons,List.flatten_cons] at h
  rcases List.mem_append.1 h with h | h
  ·exact .inr ⟨y,by simp,h⟩
  ·rcases List.mem_append.1 h with h | h
   ·exact .inl (by simpa using h)
   ·rcases joinW_mem (ws:=z::r) h with q | ⟨v,hv,q⟩
    ·exact .inl q
    ·exact .inr ⟨v,List.mem_cons_of_mem _ hv,q⟩
theorem words_no20 {none:List UInt8} {ws:List (List UInt8)} (hn:∀ x∈none,x≠20) (h:∀ y∈ws,∀ x∈y,x≠20):∀ x∈wordsT none ws,x≠20:=by
 unfold wordsT
 split
 ·exact hn
 ·intro x hx
  rcases joinW_mem hx with rfl | ⟨y,hy,hxy⟩
  ·decide
  ·exact h y hy x hxy
theorem AnsR.no20 {c:Cmd} {E S:List AK.Ed} {t:Nat} {o:List UInt8} {E1 S1:List AK.Ed} {t1:Nat} (h:AnsR c E S t o E1 S1 t1):∀ x∈o,x≠20:=by
 cases c with
 | bad=>obtain ⟨rfl,_⟩:=h;decide
 | doo l=>
  obtain ⟨_,_,⟨k,_,rfl,_⟩ | ⟨xs,hx,rfl⟩⟩:=h
  ·exact name_no20 k
  ·refine words_no20 (by decide) (fun y hy=>?_)
   obtain ⟨b,_,rfl⟩:=List.mem_map.1 hy
   cases b <;> decide
 | parts=>obtain ⟨rfl,_⟩:=h;exact digs_no20 _
 | size a=>
  obtain ⟨rfl,_⟩:=h
  split
  ·exact digs_no20 _
  ·exact name_no20 1
 | way a b=>
  obtain ⟨⟨ha,hb,d,_,⟨_,rfl⟩ | ⟨_,p,hw,hp,rfl⟩⟩ | ⟨_,rfl⟩,_⟩:=h
  ·exact name_no20 4
  ·refine words_no20 (by decide) (fun y hy=>?_)
   obtain ⟨b,_,rfl⟩:=List.mem_map.1 hy
   exact digs_no20 _
  ·exact name_no20 1
 | bridges=>
  obtain ⟨⟨x,hx,hl,rfl⟩,_⟩:=h
  refine words_no20 (by decide) (fun y hy=>?_)
  obtain ⟨b,_,rfl⟩:=List.mem_map.1 hy
  intro z hz
  unfold edW at hz
  rcases List.mem_append.1 hz with hz | hz
  ·exact digs_no20 _ z hz
  ·rcases List.mem_cons.1 hz with rfl | hz
   ·decide
   ·exact digs_no20 _ z hz
 | joints=>
  obtain ⟨⟨x,hx,hl,rfl⟩,_⟩:=h
  refine words_no20 (by decide) (fun y hy=>?_)
  obtain ⟨b,_,rfl⟩:=List.mem_map.1 hy
  exact digs_no20 _
 | save=>obtain ⟨rfl,_⟩:=h;decide
 | turn=>obtain ⟨rfl,_⟩:=h;exact digs_no20 _
 | crash=>obtain ⟨rfl,_⟩:=h;decide
theorem AnsR.turn2 {c:Cmd} {E S:List AK.Ed} {t:Nat} {o:List UInt8} {E1 S1:List AK.Ed} {t1:Nat} (h:AnsR c E S t o E1 S1 t1):t1=t∨(c=.save∧t1=t+1):=by
 cases c with
 | bad=>obtain ⟨_,_,_,rfl⟩:=h;exact .inl rfl
 | doo l=>obtain ⟨_,rfl,_⟩:=h;exact .inl rfl
 | parts=>obtain ⟨_,_,_,rfl⟩:=h;exact .inl rfl
 | size a=>obtain ⟨_,_,_,rfl⟩:=h;exact .inl rfl
 | way a b=>obtain ⟨_,_,_,rfl⟩:=h;exact .inl rfl
 | bridges=>obtain ⟨_,_,_,rfl⟩:=h;exact .inl rfl
 | joints=>obtain ⟨_,_,_,rfl⟩:=h;exact .inl rfl
 | save=>obtain ⟨_,_,_,rfl⟩:=h;exact .inr ⟨rfl,rfl⟩
 | turn=>obtain ⟨_,_,_,rfl⟩:=h;exact .inl rfl
 | crash=>obtain ⟨_,_,_,rfl⟩:=h;exact .inl rfl
theorem save_len {l:List UInt8} (h:cmdF l=.save):l.length=4:=by
 unfold cmdF at h
 split at h
 ·unfold cmdDo at h
  split at h <;> simp at h
 ·match hw:spc 32 [] l with
  | []=>exact absurd hw (spc_ne _ _ _)
  | [x]=>
   rw [hw] at h
   have hx:=spc_single hw
   by_cases k:x=wSave
   ·rw [←hx,k];rfl
   ·exfalso
    have h2:(if x=wParts then Cmd.parts else if x=wBridges then .bridges else if x=wJoints then .joints else if x=wSave then .save else if x=wTurn then .turn else if x=wCrash then .crash else .bad)=.save:=h
    rw [if_neg k] at h2
    repeat' split at h2
    all_goals simp at h2
  | [x,a]=>
   rw [hw] at h
   have h2:(if x=wSize∧0≤NT.numF a then Cmd.size (NT.numF a).toNat else .bad)=.save:=h
   split at h2 <;> simp at h2
  | [x,a,b]=>
   rw [hw] at h
   have h2:(if x=wWay∧0≤NT.numF a∧0≤NT.numF b then Cmd.way (NT.numF a).toNat (NT.numF b).toNat else .bad)=.save:=h
   split at h2 <;> simp at h2
  | x::a::b::c::r=>
   rw [hw] at h
   have h2:Cmd.bad=.save:=h
   simp at h2
theorem cut_len (c:UInt8) (l:List UInt8):(cutB c l=[]∧(cutA c l).length≤l.length)∨(cutA c l).length+1+(cutB c l).length=l.length:=by
 by_cases hm:c∈l
 ·obtain ⟨a,b,ha,rfl⟩:=mem_at hm
  obtain ⟨h1,h2⟩:=takeW_at (b:=b) ha
  refine .inr ?_
  unfold cutA cutB
  rw [h1,h2]
  simp;omega
 ·obtain ⟨h1,h2⟩:=takeW_no hm
  refine .inl ⟨?_,cutA_le c l⟩
  unfold cutB
  rw [h2];rfl
end RN
def BldS (B0:Nat) (w:World) (b:Nat) (v:Value) (bs:List Value):Prop:=B0≤b∧(∃ p,Blk w b 40 #[p,v]∧(p=.pointer none∨p=.pointer (some ⟨b,0,none⟩)))∧w.ownsRow B0 5 1 v bs.length bs∧(bs=[]→v=.slice none 0 0)
section
variable {B0 b:Nat} {w w':World} {v:Value} {bs:List Value}
theorem BldS.lt (h:BldS B0 w b v bs):b < w.heap.size:=by obtain ⟨_,⟨p,hb,_⟩,_⟩:=h;exact hb.lt
theorem BldS.new (w:World) (hB:B0≤w.heap.size):BldS B0 (w.alloc (.cells #[.pointer none,.slice none 0 0] 40)) w.heap.size (.slice none 0 0) []:=
 ⟨hB,⟨_,Blk.new _ _ _,.inl rfl⟩,World.ownsRow_nil _ _ _ _,fun _=>rfl⟩
theorem BldS.kept (h:BldS B0 w b v bs) (hk:KeepL w w'):BldS B0 w' b v bs:=by
 obtain ⟨h0,⟨p,hb,hp⟩,hr,hn⟩:=h
 refine ⟨h0,⟨p,hk.blk hb (by unfold SesT;decide),hp⟩,?_,hn⟩
 obtain ⟨S,hc,hS⟩:=hk
 refine own_chg hr hc (fun k hkv hs=>?_)
 obtain ⟨cs,hbk⟩:=own_blkB hr hkv
 rcases hS k hs with q | ⟨t2,cs2,hb2,ht2⟩
 ·have:=own_lt hr hkv;omega
 ·have:=blk_same hbk hb2
  subst this
  revert ht2;unfold SesT;decide
theorem BldS.is (h:BldS B0 w b v bs):Lib.IsBuilder 40 5 B0 b bs w:=by
 obtain ⟨h0,⟨p,hb,hp⟩,hr,hn⟩:=h
 have hne:v.ownBlock≠some b:=own_ne hr hb (by decide)
 rcases hp with rfl | rfl
 ·exact .inl ⟨h0,v,hb,hr,hne⟩
 ·exact .inr ⟨h0,v,hb,hr,hne⟩
end
theorem copy_any {B0 b:Nat} {w:World} {v:Value} {bs:List Value} (h:BldS B0 w b v bs):Calls Tryz.prog 24 #[.pointer (some ⟨b,0,none⟩)] w fun e w'=>e=.returned (.tuple #[])∧Blk w' b 40 #[.pointer (some ⟨b,0,none⟩),v]∧w'.ownsRow B0 5 1 v bs.length bs∧Chg (fun k=>k=b) w w':=by
 obtain ⟨h0,⟨p,hb,hp⟩,hr,hn⟩:=h
 have hne:v.ownBlock≠some b:=own_ne hr hb (by decide)
 rcases hp with rfl | rfl
 ·refine (Any.Builder_copyCheck_fresh (ρ:=lays156_ren) { lays156 with } builderX.toX72 b w (hb.cell 0) (by unfold Blk at hb;simp [World.shape?,hb];rfl) (hb.frozen 0)).mono ?_
  rintro e w' ⟨rfl,rfl⟩
  exact ⟨rfl,by simpa using hb.set_ 0 (.pointer (some ⟨b,0,none⟩)),own_chg hr (chg_set w b 0 (.pointer (some ⟨b,0,none⟩))) (fun k hk e=>hne (by rw [hk,e])),chg_set _ _ _ _⟩
 ·refine (Any.Builder_copyCheck_used (ρ:=lays156_ren) { lays156 with } builderX.toX72 b w (hb.cell 0)).mono ?_
  rintro e w' ⟨rfl,rfl⟩
  exact ⟨rfl,hb,hr,Chg.refl _ _⟩
set_option maxRecDepth 100000 in
theorem bwrite_own {B0 b:Nat} {w:World} {v:Value} {bs:List Value} (h:BldS B0 w b v bs) (s:ByteArray) (hlen:bs.length+s.size≤1000000000) (h0:0 < s.size):Calls Tryz.prog 11 #[.pointer (some ⟨b,0,none⟩),.string s] w fun e w'=>e=.returned (.tuple #[.int .i64 (s.size:Int),.nilIface])∧(∃ v',BldS B0 w' b v' (bs++Lib.strCells s))∧Chg (fun k=>k=b∨v.ownBlock=some k) w w':=by
 have hi9:(Tryz.prog.info? 5).map (fun i=>(i.zero,i.size,i.bytes))=some (some (.int .u8 0),1,1):=by kernel_rfl
 obtain ⟨i0,hi,hz0,hz1,hz2⟩:=info_parts hi9
 have hB0:B0≤w.heap.size:=by have:=h.1;have:=h.lt;omega
 have HB:=Lib.hid h
 have hcc:=copy_any h
 clear h hi9
 go_enter Tryz.func11,Tryz.ntmps11
 go_wp2_with fail
 refine hcc.mono ?_
 rintro e w1 ⟨rfl,hb1,hr1,hc1⟩
 have c1:w1.cell? ⟨b,1,none⟩=some v:=hb1.cell 1
 have HB1:Hid (Blk w1 b 40 #[.pointer (some ⟨b,0,none⟩),v]∧w1.ownsRow B0 5 1 v bs.length bs∧Chg (fun k=>k=b) w w1):=⟨hb1,hr1,hc1⟩
 have hs1:w.heap.size≤w1.heap.size:=hc1.size
 clear hb1 hr1 hc1 hcc
 go_wp2_with (at_builtin;refine Lib.wpList_append_own_string _ rfl _ _ 38 9 rfl B0 5 i0 Tryz.underlying38 Tryz.underlying9 hi hz0 hz1 hz2 _ _ _ rfl HB1.out.2.1 s rfl ?c3 ?c4 ?c5 ?_)
 case c3=>unfold maxLen;omega
 case c4=>omega
 case c5=>omega
 intro v' w2 hown' hgrow _
 have hne:v.ownBlock≠some b:=own_ne HB1.out.2.1 HB1.out.1 (by decide)
 have hc2:Chg (fun k=>v.ownBlock=some k) w1 w2:=(Chg.of_grown hgrow).mono (fun k _ hk=>hk.symm)
 have hb2:Blk w2 b 40 #[.pointer (some ⟨b,0,none⟩),v]:=HB1.out.1.chg hc2 hne
 have f1:w2.frozen? ⟨b,1,none⟩=false:=hb2.frozen 1
 have c2:w2.cell? ⟨b,1,none⟩=some v:=hb2.cell 1
 obtain ⟨A5,c5,rfl,_⟩:=own_slice3 hown'
 have HE:Hid (BldS B0 (w2.setCell ⟨b,1,none⟩ (.slice A5 (bs.length+s.size) c5)) b (.slice A5 (bs.length+s.size) c5) (bs++Lib.strCells s)):=⟨HB.out.1,⟨_,by simpa using hb2.set_ 1 (.slice A5 (bs.length+s.size) c5),.inr rfl⟩,by
   have h9:w2.ownsRow B0 5 1 (.slice A5 (bs.length+s.size) c5) (bs++Lib.strCells s).length (bs++Lib.strCells s):=by rw [List.length_append,Lib.strCells_length];exact hown'
   exact own_chg h9 (chg_set w2 b 1 _) (fun k hk e=>own_ne h9 hb2 (by decide) (by rw [hk,e])),fun e=>by
   have:=congrArg List.length e
   rw [List.length_append,Lib.strCells_length,List.length_nil] at this
   omega⟩
 have HX:Hid (Chg (fun k=>k=b∨v.ownBlock=some k) w (w2.setCell ⟨b,1,none⟩ (.slice A5 (bs.length+s.size) c5))):=
  ((HB1.out.2.2.mono fun k _ h=>.inl h).trans hc2 (fun k _ h=>.inr h)).trans (chg_set _ _ _ _) (fun k _ h=>.inl h)
 clear hown' hgrow hc2 hb2 hne hi hz0 hz1 hz2
 go_wp2
 go_ret2
 exact ⟨rfl,⟨_,HE.out⟩,HX.out⟩
theorem rows_apart {w:World} {B B':Nat} {v v':Value} {n m:Nat} {bs cs:List Value} {k:Nat} (h:w.ownsRow B 5 1 v n bs) (h':w.ownsRow B' 5 1 v' m cs) (hk:v.ownBlock=some k) (hk':v'.ownBlock=some k) (hn:0 < n) (hm:0 < m):bs[0]?=cs[0]?:=by
 obtain ⟨g,c,rfl,_⟩:=own_form h hn
 obtain ⟨g',c',rfl,_⟩:=own_form h' hm
 simp [Value.ownBlock] at hk hk'
 subst hk
 subst hk'
 rw [←h.cellAt 0 (by omega),←h'.cellAt 0 (by omega)]
theorem DskA.bld {lf:Bool} {W wr w':World} {gu kb n t b:Nat} {A S:List AK.Ed} {v:Value} {l:List UInt8} (h:DskA lf W wr gu kb n t A S) (hn:n=20) (hb:BldS W.heap.size wr b v (Lib.byteCells l)) (hl:∀ x∈l,x≠20) (hc:Chg (fun k=>k=b∨v.ownBlock=some k) wr w'):DskA lf W w' gu kb n t A S:=by
 obtain ⟨d,gs,N,G,f,h1,h2,h3,h4⟩:=h
 obtain ⟨u,v2,k1,k2,k3,k4,k5⟩:=h1.sk.all
 obtain ⟨hq,⟨p,hbb,_⟩,hrow,hnil⟩:=hb
 have ty:∀ k,(k=b∨v.ownBlock=some k)→∃ ty cs,Blk wr k ty cs∧(ty=40∨ty=5):=fun k hk=>by
  rcases hk with rfl | hk
  ·exact ⟨_,_,hbb,.inl rfl⟩
  ·obtain ⟨cs,hcs⟩:=own_blkB hrow hk
   exact ⟨_,cs,hcs,.inr rfl⟩
 have n1:∀ k,u.fp k→¬ (k=b∨v.ownBlock=some k):=fun k hu hk=>by
  obtain ⟨ty,cs,hcs,ht⟩:=ty k hk
  exact k1.notyp hcs (by rcases ht with rfl | rfl <;> decide) hu
 have n2:¬ (gs=b∨v.ownBlock=some gs):=fun hk=>by
  obtain ⟨ty,cs,hcs,ht⟩:=ty gs hk
  have:=blk_ty k3.blk hcs
  rcases ht with rfl | rfl <;> revert this <;> decide
 have n3:∀ k,v2.ownBlock=some k→¬ (k=b∨v.ownBlock=some k):=fun k hk2 hk=>by
  rcases hk with rfl | hk
  ·exact own_ne k3.row hbb (by decide) hk2
  ·have hl0:Lib.byteCells l≠[]:=fun e=>by
    rw [hnil e] at hk;simp [Value.ownBlock] at hk
   have he:=rows_apart hrow k3.row hk hk2 (List.length_pos_iff.2 hl0) (by rw [NT.encL_len];omega)
   cases l with
   | nil=>exact hl0 rfl
   | cons x r=>
    have hx:=hl x (by simp)
    simp [Lib.byteCells,DK.pgv,NT.encL,hn] at he
    exact hx (UInt8.toNat_inj.1 (by simpa using (by omega:x.toNat=20)))
 have off:∀ k,(k=b∨v.ownBlock=some k)→¬ G.T k:=fun k hk=>by
  obtain ⟨ty,cs,hcs,ht⟩:=ty k hk
  exact h1.g.m.notyp (by rcases ht with rfl | rfl <;> decide) hcs
 have hsk:SkR W 62 d gu gs t (NT.encL n S) false none w':=⟨⟨u,v2,k1.chg hc (fun k hu hk=>n1 k hu hk),k2,k3.chg hc n2 n3,k4,k5⟩,h1.sk.bel.trans (hc.below h1.sk.bel.size (fun k _ hk=>by
  rcases hk with rfl | hk
  ·exact hq
  ·exact (hrow.lt k hk).1)),h1.sk.gs,fun _ _ h=>by simp at h⟩
 have hg:GrI w' G n N A f:=by
  refine ⟨h1.g.m.chg hc (fun k hk e=>off k e (.inl hk)) (fun i F hi e=>off _ e (.inr ⟨i,F,hi,rfl⟩)) (fun k e cs2 hb2=>?_),h1.g.k,h1.g.few,h1.g.nN⟩
  obtain ⟨ty,cs,hcs,ht⟩:=ty k e
  have:=blk_same hcs hb2
  rcases ht with rfl | rfl <;> revert this <;> decide
 exact ⟨d,gs,N,G,f,⟨hsk,h1.blk.chg hc (fun hk=>by
  obtain ⟨ty,cs,hcs,ht⟩:=ty kb hk
  have:=blk_ty h1.blk hcs
  rcases ht with rfl | rfl <;> revert this <;> decide),hg,h1.new,h1.le⟩,h2,h3,h4⟩
theorem SesA.bld {W wr w':World} {q gu kb t b:Nat} {A S:List AK.Ed} {v:Value} {l:List UInt8} (h:SesA W wr q gu kb t A S) (hb:BldS W.heap.size wr b v (Lib.byteCells l)) (hl:∀ x∈l,x≠20) (hc:Chg (fun k=>k=b∨v.ownBlock=some k) wr w'):SesA W w' q gu kb t A S:=by
 refine ⟨h.blk.chg hc (fun hk=>?_),h.dk.bld rfl hb hl hc,h.new⟩
 obtain ⟨_,⟨p,hbb,_⟩,hrow,_⟩:=hb
 rcases hk with rfl | hk
 ·exact absurd (blk_ty h.blk hbb) (by decide)
 ·obtain ⟨cs,hcs⟩:=own_blkB hrow hk
  exact absurd (blk_ty h.blk hcs) (by decide)
end Go.Proofs.YtkoajpeabicpdaaGreatDoor
namespace Go.Proofs.YtkoajpeabicpdaaGreatDoor
open Go Go.RowKit SQ TR DF PD PT
theorem RN.AnsR.turn {c:RN.Cmd} {E S:List AK.Ed} {t:Nat} {o:List UInt8} {E1 S1:List AK.Ed} {t1:Nat} (h:RN.AnsR c E S t o E1 S1 t1):t1≤t+1:=by
 cases c with
 | bad=>obtain ⟨_,_,_,rfl⟩:=h;omega
 | doo l=>obtain ⟨_,rfl,_⟩:=h;omega
 | parts=>obtain ⟨_,_,_,rfl⟩:=h;omega
 | size a=>obtain ⟨_,_,_,rfl⟩:=h;omega
 | way a b=>obtain ⟨_,_,_,rfl⟩:=h;omega
 | bridges=>obtain ⟨_,_,_,rfl⟩:=h;omega
 | joints=>obtain ⟨_,_,_,rfl⟩:=h;omega
 | save=>obtain ⟨_,_,_,rfl⟩:=h;omega
 | turn=>obtain ⟨_,_,_,rfl⟩:=h;omega
 | crash=>obtain ⟨_,_,_,rfl⟩:=h;omega
def RoP (s:ByteArray) (w:World) (e:Ending) (w':World):Prop:=∃ o E S t,RN.RunR (RN.lns s.data.toList) [] [] 1 o E S t∧e=.returned (.string ⟨o.toArray⟩)∧Ext w w'
def RoR (w:World) (ps:List (List UInt8)) (m i:Nat) (y:ByteArray) (wr:World):Prop:=∃ E S t,RN.RunR (ps.take i) [] [] 1 y.data.toList E S t∧RefA wr m t E S∧Ext w wr∧t≤1+i∧y.size≤i * 13000
theorem ro_next {w wr w':World} {ps:List (List UInt8)} {m i t t':Nat} {y:ByteArray} {E S E' S':List AK.Ed} {x o:List UInt8} (h1:RN.RunR (ps.take i) [] [] 1 y.data.toList E S t) (h3:Ext w wr) (h4:t≤1+i) (h5:y.size≤i * 13000) (hi:i≤3000) (hx:ps[i]?=some x)
  (ha:RN.AnsR (RN.cmdF x) E S t o E' S' t') (hr:RefA w' m t' E' S') (hc:Chg (fun k=>k=m) wr w') (hm:w.heap.size≤m):RoR w ps m (i+1) (y++⟨o.toArray⟩++⟨#[10]⟩) w'∧o.length≤12001:=by
 have hl:=ha.len
 have ht:=ha.turn
 refine ⟨⟨E',S',t',?_,hr,Below.trans h3 (hc.below h3.size (fun k _ e=>by rw [e];exact hm)),by omega,?_⟩,by omega⟩
 ·rw [List.take_add_one,hx]
  have:=h1.snoc ha
  rw [ByteArray.data_append,ByteArray.data_append]
  simpa using this
 ·have e1:(⟨o.toArray⟩:ByteArray).size=o.length:=by simp [ByteArray.size]
  have e2:(⟨#[10]⟩:ByteArray).size=1:=rfl
  rw [ByteArray.size_append,ByteArray.size_append,e1,e2]
  omega
theorem trim_all {ps:List (List UInt8)} (h:ps.getLast?≠some []):RN.trimL ps=ps:=by unfold RN.trimL;rw [if_neg h]
theorem trim_cut {ps:List (List UInt8)} {n:Nat} (hn:ps.length=n+1) (h:ps[n]?=some []):RN.trimL ps=ps.take n:=by
 unfold RN.trimL
 rw [if_pos (by rw [List.getLast?_eq_getElem?,hn];exact h),List.dropLast_eq_take,hn];rfl
set_option maxRecDepth 100000 in
theorem runof_any (s:ByteArray) (hs:s.size≤3000) (w:World):Calls Tryz.prog 6 #[.string s] w (RoP s w):=by
 have z:¬ ((3000:Int) < (s.size:Int)):=by omega
 go_enter Tryz.func6,Tryz.ntmps6
 go_wp2_with fail
 refine (sp_ref 10 s (by omega) _).mono ?_
 rintro e w1 ⟨ts,_,cp,rfl,h1,⟨rb,rfl,hb1,hb2⟩,h3,h4⟩
 obtain ⟨n,hn⟩:∃ n,ts.length=n:=⟨_,rfl⟩
 have hmb:n≤3001:=by have:=(sp_len h1).2;omega
 have hn0:0 < n:=by have:=(sp_len h1).1;omega
 obtain ⟨ps,hps⟩:∃ ps,ts.map (fun t=>t.data.toList)=ps:=⟨_,rfl⟩
 have HS:Hid (ps=RN.spc 10 [] s.data.toList∧StsAt w1 (some ⟨rb,0,none⟩) ts∧ts.length=n∧ps.length=n∧ts.map (fun t=>t.data.toList)=ps):=⟨hps ▸ h1,⟨rb,rfl,hb1,hb2⟩,hn,by rw [←hps,List.length_map];exact hn,hps⟩
 have HX:Hid (Ext w w1):=(Ext.alloc w _).trans h4
 have HR0:Hid (RoR w ps w.heap.size 0 ⟨#[]⟩ w1):=by
  refine ⟨[],[],1,⟨rfl,rfl,rfl,rfl⟩,⟨⟨none,0,none,0,?_,RowE.nil _,RowE.nil _⟩,DkE.nil (by omega),DkE.nil (by omega)⟩,HX.out,by omega,by decide⟩
  exact blk_ext (Blk.new w 49 #[.slice none 0 0,.slice none 0 0,.int .i64 1]) h4
 rw [hn] at h3 ⊢
 clear h1 h4 hb1 hb2 hn hps
 go_wp2_with fail
 go_loopw [4,6] (fun v4 v6 wx=>∃ (i:Nat) (y:ByteArray),i≤n∧v4=.string y∧v6=.int .i64 (i:Int)∧Hid (RoR w ps w.heap.size i y wx)∧Hid (StsAt wx (some ⟨rb,0,none⟩) ts)∧Hid (i=n→ps.getLast?≠some [])) (fun _ v6 _=>n - (intOf v6).toNat)
 case atStart=>exact ⟨0,⟨#[]⟩,Nat.zero_le _,rfl,rfl,HR0.out,HS.out.2.1,fun e=>by omega⟩
 case round=>
  obtain ⟨i,y,hi,rfl,rfl,HR,HX1,HL⟩:=hrel
  by_cases hin:i < n
  ·have z1:(i:Int) < (n:Int):=by omega
   have z2:(0:Int)≤(i:Int):=by omega
   obtain ⟨x,hx⟩:∃ x,ts[i]?=some x:=⟨_,List.getElem?_eq_getElem (by rw [HS.out.2.2.1];exact hin)⟩
   have hpx:ps[i]?=some x.data.toList:=by rw [←HS.out.2.2.2.2,List.getElem?_map,hx];rfl
   have hxs:x.size≤3000:=Nat.le_trans (sp_sz (HS.out.2.2.2.2.trans HS.out.1) hx) hs
   obtain ⟨b',hb',hb1,hb2⟩:=HX1.out
   injection hb' with hb'
   injection hb' with hb'
   subst hb'
   have c1:=hb2 i x hx
   have HPX:=Lib.hid hpx
   clear hx hb2 hb1 hpx
   by_cases hbr:i=n - 1∧x.size=0
   ·have k1:((i:Int) == (n:Int) - 1)=true:=by rw [beq_iff_eq];omega
    have k2:((x.size:Int) == 0)=true:=by rw [beq_iff_eq];omega
    have HF:Hid (∀ W',Ext wr W'→RoP s w (.returned (.string y)) W'):=fun W' hW=>by
     obtain ⟨E,S,t,q1,q2,q3,q4,q5⟩:=HR.out
     refine ⟨y.data.toList,E,S,t,?_,rfl,q3.trans hW⟩
     have hx0:x.data.toList=[]:=List.eq_nil_of_length_eq_zero (by rw [←sz_len];exact hbr.2)
     rw [RN.lns_spc,←HS.out.1,trim_cut (n:=i) (by rw [HS.out.2.2.2.1];omega) (by rw [HPX.out,hx0])]
     exact q1
    clear hbr
    go_wp2
    go_ret
    exact HF.out _ (Ext.refl _)
   ·have HN0:Hid (i+1=n→ps.getLast?≠some []):=fun e=>by
     rw [List.getLast?_eq_getElem?,HS.out.2.2.2.1,show n - 1=i by omega,HPX.out]
     intro q
     injection q with q
     exact hbr ⟨by omega,by rw [sz_len,q];rfl⟩
    have hq:((i:Int) == (n:Int) - 1)=false∨(((i:Int) == (n:Int) - 1)=true∧((x.size:Int) == 0)=false):=by
     by_cases e:i=n - 1
     ·refine .inr ⟨by rw [beq_iff_eq];omega,?_⟩
      rw [beq_eq_false_iff_ne]
      intro q
      exact hbr ⟨e,by omega⟩
     ·refine .inl ?_
      rw [beq_eq_false_iff_ne];omega
    obtain ⟨E,S,t,q1,q2,q3,q4,q5⟩:=HR.out
    have hy:y.size≤39013000:=by omega
    have HLN:=Lib.hid (rline_any q2 x hxs (by omega))
    have HNX:Hid (∀ w' o E' S' t',RN.AnsR (RN.cmdF x.data.toList) E S t o E' S' t'→RefA w' w.heap.size t' E' S'→Chg (fun k=>k=w.heap.size) wr w'→RoR w ps w.heap.size (i+1) (y++⟨o.toArray⟩++⟨#[10]⟩) w'∧o.length≤12001∧StsAt w' (some ⟨rb,0,none⟩) ts):=fun w' o E' S' t' a b c=>by
     obtain ⟨r1,r2⟩:=ro_next q1 q3 q4 q5 (by omega) HPX.out a b c (Nat.le_refl _)
     refine ⟨r1,r2,HX1.out.chg c (fun k cs hk e=>?_)⟩
     obtain ⟨_,_,_,_,hbm,_⟩:=q2.at_
     rw [e] at hk
     exact absurd (blk_ty hk hbm) (by decide)
    clear hbr q1 q2 q3 q4 q5 HR
    rcases hq with k1 | ⟨k1,k2⟩
    all_goals
     go_wp2_with fail
     refine HLN.out.mono ?_
     rintro e w5 ⟨o,E',S',t',ha,rfl,hr,hc⟩
     obtain ⟨r1,r2,r3⟩:=HNX.out _ _ _ _ _ ha hr hc
     have HR1:=Lib.hid r1
     have HR3:=Lib.hid r3
     have e1:(⟨o.toArray⟩:ByteArray).size=o.length:=by simp [ByteArray.size]
     have e2:(⟨#[10]⟩:ByteArray).size=1:=rfl
     clear ha hr hc r1 r3
     go_wp2
     go_roundw
     case rel=>exact ⟨i+1,_,by omega,rfl,by go_num,HR1.out,HR3.out,HN0.out⟩
     case measure=>simp [intOf];omega
  ·obtain rfl:n=i:=by omega
   have HF:Hid (∀ W',Ext wr W'→RoP s w (.returned (.string y)) W'):=fun W' hW=>by
    obtain ⟨E,S,t,q1,q2,q3,q4,q5⟩:=HR.out
    refine ⟨y.data.toList,E,S,t,?_,rfl,q3.trans hW⟩
    rw [RN.lns_spc,←HS.out.1,trim_all (HL.out rfl)]
    rw [List.take_of_length_le (by rw [HS.out.2.2.2.1];exact Nat.le_refl _)] at q1
    exact q1
   go_wp2
   go_ret
   exact HF.out _ (Ext.refl _)
theorem runof_long (s:ByteArray) (hs:3000 < s.size) (w:World):Calls Tryz.prog 6 #[.string s] w fun e w'=>e=.returned (.string ⟨#[116,111,111,32,108,111,110,103,10]⟩)∧w'=w:=by
 have z:(3000:Int) < (s.size:Int):=by omega
 go_enter Tryz.func6,Tryz.ntmps6
 go_wp2
 go_ret
 exact ⟨rfl,rfl⟩
def szOf:Value→Nat
 | .string s=>s.size
 | _=>0
def RuR (W:World) (s:ByteArray) (q gu b:Nat) (txt:ByteArray) (wr:World):Prop:=∃ (kb t:Nat) (A S:List AK.Ed) (o:List UInt8) (v:Value) (pre:List (List UInt8)),RN.lns s.data.toList=pre++RN.lns txt.data.toList∧RN.RunR pre [] [] 1 o A S t∧SesA W wr q gu kb t A S∧BldS W.heap.size wr b v (Lib.byteCells o)∧(∀ x∈o,x≠20)∧
 5 * t+txt.size≤3006∧(0 < txt.size→5 * t+txt.size≤3005)∧o.length+13000 * txt.size≤39000000∧txt.size≤3000
theorem bytes_app (o:List UInt8) (y:ByteArray):Lib.byteCells o++Lib.strCells y=Lib.byteCells (o++y.data.toList):=by unfold Lib.byteCells Lib.strCells;rw [List.map_append]
theorem ru_next {W w2 w3:World} {s txt a r:ByteArray} {q gu b kb' t t':Nat} {A S A' S':List AK.Ed} {o o1:List UInt8} {v v':Value} {pre:List (List UInt8)} (h1:RN.lns s.data.toList=pre++RN.lns txt.data.toList) (h2:RN.RunR pre [] [] 1 o A S t) (h5:∀ x∈o,x≠20)
  (h7:0 < txt.size→5 * t+txt.size≤3005) (h8:o.length+13000 * txt.size≤39000000) (h9:txt.size≤3000) (h0:0 < txt.size) (ha:a.data.toList=RN.cutA 10 txt.data.toList) (hr:r.data.toList=RN.cutB 10 txt.data.toList) (hans:RN.AnsR (RN.cmdF a.data.toList) A S t o1 A' S' t')
  (hses:SesA W w2 q gu kb' t' A' S') (hb2:BldS W.heap.size w2 b v (Lib.byteCells o)) (hb:BldS W.heap.size w3 b v' (Lib.byteCells o++Lib.strCells (⟨o1.toArray⟩++⟨#[10]⟩))) (hc:Chg (fun k=>k=b∨v.ownBlock=some k) w2 w3):RuR W s q gu b r w3∧r.size < txt.size:=by
 have hz:=sz_len txt
 have hzr:=sz_len r
 have hza:=sz_len a
 have hne:txt.data.toList≠[]:=fun e=>by rw [e,List.length_nil] at hz;omega
 have hlt:r.size < txt.size:=by
  have:=RN.cutB_lt (c:=10) hne
  rw [←hr] at this
  omega
 have hl:=hans.len
 have ho:∀ x∈o++(o1++[10]),x≠20:=fun x hx=>by
  rcases List.mem_append.1 hx with hx | hx
  ·exact h5 x hx
  ·rcases List.mem_append.1 hx with hx | hx
   ·exact hans.no20 x hx
   ·simp at hx;subst hx;decide
 have hcl:=RN.cut_len 10 txt.data.toList
 rw [←ha,←hr,←hz,←hzr,←hza] at hcl
 have ht5:=h7 h0
 have htt:=hans.turn2
 have h4:∀ h:RN.cmdF a.data.toList=.save,a.size=4:=fun h=>by rw [hza];exact RN.save_len h
 refine ⟨⟨kb',t',A',S',o++(o1++[10]),v',pre++[RN.cutA 10 txt.data.toList],?_,?_,hses.bld hb2 h5 hc,?_,ho,?_,?_,?_,by omega⟩,hlt⟩
 ·rw [h1,RN.lns_cut hne,hr];simp
 ·have:=h2.snoc (l:=RN.cutA 10 txt.data.toList) (by rw [←ha];exact hans)
  simpa using this
 ·rw [bytes_app] at hb
  rw [ByteArray.data_append] at hb
  simpa using hb
 ·rcases htt with rfl | ⟨hs,rfl⟩
  ·omega
  ·have:=h4 hs
   rcases hcl with ⟨q1,q2⟩ | q
   ·have:r.size=0:=by rw [hzr,q1];rfl
    omega
   ·omega
 ·intro hr0
  rcases hcl with ⟨q1,q2⟩ | q
  ·have:r.size=0:=by rw [hzr,q1];rfl
   omega
  ·rcases htt with rfl | ⟨hs,rfl⟩
   ·omega
   ·have:=h4 hs
    omega
 ·simp only [List.length_append,List.length_cons,List.length_nil]
  have:13000 * (r.size+1)≤13000 * txt.size:=Nat.mul_le_mul (Nat.le_refl _) hlt
  omega
set_option maxRecDepth 100000 in
theorem run_any (s:ByteArray) (hs:s.size≤3000) (w:World) (he:RunEnv w):Calls Tryz.prog 5 #[.string s] w (RoP s w):=by
 have z:¬ ((3000:Int) < (s.size:Int)):=by omega
 have HE:=Lib.hid he
 clear he
 go_enter Tryz.func5,Tryz.ntmps5
 go_wp2_with fail
 refine (dnew_yes w 62 (by omega) (by omega)).mono ?_
 rintro e w7 ⟨u,rfl,hd7,hx7,hf7⟩
 have HFM:=dformat_new u hd7 hx7 hf7 (n:=20) (by omega)
 obtain ⟨gu,hgu⟩:∃ g,u.g=g:=⟨_,rfl⟩
 rw [hgu] at HFM ⊢
 have HFM:=Lib.hid HFM
 clear hd7 hx7 hf7 hgu
 go_wp2_with fail
 refine HFM.out.mono ?_
 intro e w8 h8
 obtain ⟨rfl,hk8⟩:=da_fmt h8 (by omega)
 have H8:=Lib.hid hk8
 clear h8 hk8 HFM
 go_wp2_with fail
 refine (da_open H8.out).mono ?_
 rintro e w9 ⟨kb,rfl,h9,_⟩
 have H9:Hid (DskA true w w9 gu kb 20 1 [] []):=h9
 clear h9 H8
 go_wp2_with fail
 have HR0:Hid (RuR w s w9.heap.size gu (w9.heap.size+1) s ((w9.alloc (.cells #[.pointer (some ⟨gu,0,none⟩),.pointer (some ⟨kb,0,none⟩)] 36)).alloc (.cells #[.pointer none,.slice none 0 0] 40))):=by
  have hwz:w.heap.size≤w9.heap.size:=H9.out.ext.size
  have hn:=BldS.new (B0:=w.heap.size) (w9.alloc (.cells #[.pointer (some ⟨gu,0,none⟩),.pointer (some ⟨kb,0,none⟩)] 36)) (by simp;omega)
  simp only [World.size_alloc] at hn
  refine ⟨kb,1,[],[],[],.slice none 0 0,[],rfl,⟨rfl,rfl,rfl,rfl⟩,⟨blk_ext (Blk.new w9 _ _) (Ext.alloc _ _),(H9.out.moved (Ext.alloc _ _)).moved (Ext.alloc _ _),hwz⟩,hn,fun x hx=>by simp at hx,by omega,fun _=>by omega,by simp;omega,hs⟩
 go_loopw [0] (fun v0 wx=>∃ txt:ByteArray,v0=.string txt∧Hid (RuR w s w9.heap.size gu (w9.heap.size+1) txt wx)) (fun v0 _=>szOf v0)
 case atStart=>exact ⟨s,rfl,HR0.out⟩
 case round=>
  obtain ⟨txt,rfl,HR⟩:=hrel
  obtain ⟨kb2,t,A,S,o,v,pre,h1,h2,h3,h4,h5,h6,h7,h8,h9⟩:=HR.out
  have HST:Hid (SesA w wr w9.heap.size gu kb2 t A S∧BldS w.heap.size wr (w9.heap.size+1) v (Lib.byteCells o)):=⟨h3,h4⟩
  by_cases h0:0 < txt.size
  ·have hz:=sz_len txt
   have HCU:=Lib.hid (cutn_any txt (by omega) wr)
   have HNX:=Lib.hid (fun (w2 w3:World) (a r:ByteArray) (kb' t':Nat) (A' S':List AK.Ed) (o1:List UInt8) (v':Value) (q1:a.data.toList=RN.cutA 10 txt.data.toList) (q2:r.data.toList=RN.cutB 10 txt.data.toList) (q3:RN.AnsR (RN.cmdF a.data.toList) A S t o1 A' S' t') (q4:SesA w w2 w9.heap.size gu kb' t' A' S') (q5:BldS w.heap.size w2 (w9.heap.size+1) v (Lib.byteCells o)) (q6:BldS w.heap.size w3 (w9.heap.size+1) v' (Lib.byteCells o++Lib.strCells (⟨o1.toArray⟩++⟨#[10]⟩))) (q7:Chg (fun k=>k=w9.heap.size+1∨v.ownBlock=some k) w2 w3)=>ru_next h1 h2 h5 h7 h8 h9 h0 q1 q2 q3 q4 q5 q6 q7)
   have ht:t+1≤790:=by have:=h7 h0;omega
   have hol:o.length≤39000000:=by omega
   have hne:txt.toList.isEmpty=false:=by
    rw [ByteArray.toList_eq]
    cases hq:txt.data.toList with
    | nil=>rw [hq,List.length_nil] at hz;omega
    | cons x y=>rfl
   have hne2:¬ txt.toList=[]:=fun e=>by rw [e] at hne;simp at hne
   clear h1 h2 h3 h4 h5 h6 h7 h8 hz
   go_wp2_with fail
   refine HCU.out.mono ?_
   rintro e w2 ⟨a,r,f,rfl,ha,hr,hx2⟩
   have hal:a.size≤3000:=by
    have:=RN.cutA_le 10 txt.data.toList
    rw [←ha,←sz_len,←sz_len] at this
    omega
   have HLN:=Lib.hid (pline_any (HST.out.1.moved hx2) HE.out a hal ht)
   have HB2:=Lib.hid (HST.out.2.kept (KeepL.of_ext hx2))
   have HAR:Hid (a.data.toList=RN.cutA 10 txt.data.toList∧r.data.toList=RN.cutB 10 txt.data.toList):=⟨ha,hr⟩
   clear ha hr hx2 HCU hne hne2
   go_wp2_with fail
   refine HLN.out.mono ?_
   rintro e w3 ⟨o1,kb',A',S',t',hans,rfl,hses,hk⟩
   have HB3:=Lib.hid (HB2.out.kept hk)
   have ho1:o1.length≤10000:=by have:=hans.len;omega
   have HAN:Hid (RN.AnsR (RN.cmdF a.data.toList) A S t o1 A' S' t'∧SesA w w3 w9.heap.size gu kb' t' A' S'):=⟨hans,hses⟩
   have e1:(⟨o1.toArray⟩:ByteArray).size=o1.length:=by simp [ByteArray.size]
   have e2:(⟨#[10]⟩:ByteArray).size=1:=rfl
   have HBW:=Lib.hid (bwrite_own HB3.out (⟨o1.toArray⟩++⟨#[10]⟩) (by rw [Lib.byteCells_length,ByteArray.size_append,e1,e2];omega) (by rw [ByteArray.size_append,e2];omega))
   clear hans hses hk HLN
   go_wp2_with fail
   refine HBW.out.mono ?_
   rintro e w4 ⟨rfl,⟨v',hb4⟩,hc4⟩
   obtain ⟨n1,n2⟩:=HNX.out _ _ _ _ _ _ _ _ _ _ HAR.out.1 HAR.out.2 HAN.out.1 HAN.out.2 HB3.out hb4 hc4
   have HN1:=Lib.hid n1
   clear hb4 hc4 HBW n1 e1 e2
   go_wp2
   go_roundw
   case rel=>exact ⟨r,rfl,HN1.out⟩
   case measure=>exact n2
  ·have hz0:txt.data.toList=[]:=List.eq_nil_of_length_eq_zero (by rw [←sz_len];omega)
   have HF:Hid (∀ W',Below w.heap.size wr W'→RoP s w (.returned (.string ⟨o.toArray⟩)) W'):=fun W' hW=>by
    refine ⟨o,A,S,t,?_,rfl,Below.trans h3.ext hW⟩
    rw [hz0] at h1
    have:RN.lns s.data.toList=pre:=by rw [h1];simp [RN.lns,RN.lnsGo]
    rw [this];exact h2
   have HST2:=Lib.hid (bstring_any w.heap.size (w9.heap.size+1) o wr h4.is (Below.size h3.ext))
   have hne2:txt.toList=[]:=by rw [ByteArray.toList_eq,hz0]
   have hne:txt.toList.isEmpty=true:=by rw [hne2];rfl
   clear h1 h2 h3 h4 h5 h6 h7 h8 hz0
   go_wp2_with fail
   refine HST2.out.mono ?_
   rintro e w2 ⟨rfl,hx2⟩
   have HF2:=Lib.hid (HF.out _ hx2)
   clear hx2
   go_wp2
   go_ret
   exact HF2.out
theorem run_long (s:ByteArray) (hs:3000 < s.size) (w:World):Calls Tryz.prog 5 #[.string s] w fun e w'=>e=.returned (.string ⟨#[116,111,111,32,108,111,110,103,10]⟩)∧w=w':=by
 have z:(3000:Int) < (s.size:Int):=by omega
 go_enter Tryz.func5,Tryz.ntmps5
 go_wp2
 go_ret
 exact ⟨rfl,rfl⟩
end Go.Proofs.YtkoajpeabicpdaaGreatDoor
