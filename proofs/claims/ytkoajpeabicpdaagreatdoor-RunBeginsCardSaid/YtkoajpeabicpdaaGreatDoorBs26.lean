/-
How steps of the second law's scripts that came in are read: a number and a row of bytes. No conditions.
-/
import Derived.Test.YtkoajpeabicpdaaGreatDoorBs25
import Derived.Test.YtkoajpeabicpdaaGreatDoorBs24
import Derived.Test.YtkoajpeabicpdaaGreatDoorBs4
import Derived.Test.YtkoajpeabicpdaaGreatDoorBs2
import Derived.Deep.RegionLaw
import Derived.Deep.CutBlock
import Derived.Deep.DeepCutAuto
import Derived.StillTailTactics
import Derived.Lib.Bytes
set_option linter.unusedVariables false
set_option maxHeartbeats 8000000
namespace Go.Proofs.YtkoajpeabicpdaaGreatDoor
open Go Go.RowKit Go.ChangeShapes Go.WideShapes
structure DSt where
 n:Int
 A:Option Addr
 m:Nat
 c:Nat
 b:List Int
instance:Inhabited DSt:=⟨⟨0,none,0,0,[]⟩⟩
structure QSt where
 t:Int
 a:Int
 b:Int
 A:Option Addr
 m:Nat
 c:Nat
 l:List Int
instance:Inhabited QSt:=⟨⟨0,0,0,none,0,0,[]⟩⟩
end Go.Proofs.YtkoajpeabicpdaaGreatDoor
namespace Go.Proofs.YtkoajpeabicpdaaGreatDoor
open Go Go.RowKit Go.ChangeShapes Go.WideShapes
structure ESt where
 t:Int
 n:Int
 A:Option Addr
 m:Nat
 c:Nat
 b:List Int
 KA:Option Addr
 km:Nat
 kc:Nat
 kl:List Int
instance:Inhabited ESt:=⟨⟨0,0,none,0,0,[],none,0,0,[]⟩⟩
end Go.Proofs.YtkoajpeabicpdaaGreatDoor
namespace Go.Proofs.YtkoajpeabicpdaaGreatDoor
open Go Go.RowKit
theorem own_blk3 {w:World} {base:Nat} {e:TypeId} {size n:Nat} {v:Value} {xs:List Value} (h:w.ownsRow base e size v n xs) {k:Nat} (hk:v.ownBlock=some k):∃ cs,Blk w k e cs:=by
 rcases h.2 with ⟨rfl,_⟩ | ⟨g,cap,cur,rfl,_,hg,_⟩
 ·simp [Value.ownBlock] at hk
 ·simp [Value.ownBlock] at hk;subst hk;exact ⟨_,hg⟩
theorem DAt.typ {w:World} {u:Dsk} {n:Nat} {d:DK.D} (h:DAt w u n d) {k:Nat} (hk:u.fp k):∃ t cs,Blk w k t cs∧(t=56∨t=160∨t=162):=by
 rcases hk with rfl | rfl | rfl | hk
 ·exact ⟨_,_,h.blk,.inl rfl⟩
 ·obtain ⟨cs,hb⟩:=own_blk3 (k:=u.gk) h.rk (by simp [Value.ownBlock]);exact ⟨_,cs,hb,.inr (.inl rfl)⟩
 ·obtain ⟨cs,hb⟩:=own_blk3 (k:=u.gn) h.rn (by simp [Value.ownBlock]);exact ⟨_,cs,hb,.inr (.inl rfl)⟩
 ·obtain ⟨cs,hb⟩:=own_blk3 h.rw hk;exact ⟨_,cs,hb,.inr (.inr rfl)⟩
theorem blk_same {w:World} {k:Nat} {t t':TypeId} {cs cs':Array Value} (h:Blk w k t cs) (h':Blk w k t' cs'):t=t':=by
 unfold Blk at h h'
 rw [h] at h'
 injection h' with h'
 injection h' with h1 h2
theorem step_call {P:Program} {ops:Array Oper} {o:Oper} {a:Act} {w:World} {K:Act→World→Prop} {Q:Exit→Act→World→Prop} {E:Prop} {Post:Ending→World→Prop}
  (hg:o.guard=none) (f:Nat) (args:Array Operand) (tys:Array TypeId) (hop:o.op=.call { callee:=.value (.func f),args:=args,argTypes:=tys }) (vs:Array Value) (hv:args.map a.eval=vs)
  (hcf:(callFunc f vs).run P w=.ok (.enter f vs) w) (hc:Calls P f vs w Post)
  (hK:∀ e w',Post e w'→∃ v,e=.returned v∧K (a.put o.dst v) w'):
  if Region.wanted o (yielded ops a.tmps)=true then Oper.wp P o a w K Q else E:=by
 have hw:Region.wanted o (yielded ops a.tmps)=true:=by simp [Region.wanted,hg]
 rw [if_pos hw]
 have hr:(execOp a.eval o).run P w=.ok (.enter f vs) w:=by
  subst hv
  simp [execOp,hop,resolve,invoke,Act.eval,Deferred.ofValue,hcf]
 unfold Oper.wp
 rw [hr,Oper.upon_enter]
 refine hc.mono (fun e w' h=>?_)
 obtain ⟨v,rfl,h2⟩:=hK e w' h
 exact h2
theorem stfirst_any (w:World) (t:Nat) (ht:t≤1000000):Calls Tryz.prog 64 #[.int .i64 t] w fun e w'=>e=.returned (.int .i64 (2+(t:Int) % 2 * 30))∧w=w':=by
 go_enter Tryz.func64,Tryz.ntmps64
 go_wp2
 go_ret
 exact ⟨rfl,rfl⟩
def hbs (t l:Int):List Int:=[83,t / 16777216,t / 65536,t / 256,t % 256,l / 256,l % 256]
def HeadBytes (w:World) (t l:Int) (e:Ending) (w':World):Prop:=
 ∃ g,e=.returned (.slice (some ⟨g,0,none⟩) 7 7)∧Blk w' g 5 (DK.pgv (hbs t l)).toArray∧Below w.heap.size w w'∧w.heap.size≤g
theorem hb_any (w:World) (t l:Int) (ht0:0≤t) (ht:t≤1000) (hl0:0≤l) (hl:l≤960):Calls Tryz.prog 59 #[.agg #[.int .i64 t,.int .i64 l]] w (HeadBytes w t l):=by
 go_enter Tryz.func59,Tryz.ntmps59
 go_wp2
 go_ret
 refine ⟨_,rfl,?_,((Below.refl _ _).alloc (Nat.le_refl _) _).alloc (by simp) _,by simp⟩
 have:=Blk.new (w.alloc (.cells #[.int .i64 t,.int .i64 l] 110)) 5 (DK.pgv (hbs t l)).toArray
 rw [World.size_alloc] at this;exact this
def StrAt (w:World) (g o n:Nat) (p:List Int):Prop:=p.length=n∧∀ i,i < n→w.cell? ⟨g,o+i,none⟩=some (.int .u8 (p.getD i 0))
theorem StrAt.conv {w:World} {g o n c:Nat} {p:List Int} (h:StrAt w g o n p):(convert 38 9 (.slice (some ⟨g,o,none⟩) n c)).run Tryz.prog w=.ok (.string (strOfNums p)) w:=
 run_convert_bytes_arg w 38 5 Tryz.underlying38 Tryz.underlying5 g o n c p h.1 h.2 9 Tryz.underlying9
theorem bequal_any (w:World) (g o n c g2 o2 n2 c2:Nat) (p q:List Int) (h:StrAt w g o n p) (h2:StrAt w g2 o2 n2 q) (r:Bool) (hr:((strOfNums p).toList == (strOfNums q).toList)=r):
  Calls Tryz.prog 102 #[.slice (some ⟨g,o,none⟩) n c,.slice (some ⟨g2,o2,none⟩) n2 c2] w fun e w'=>e=.returned (.bool r)∧w=w':=by
 have s1:=h.conv (c:=c)
 have s2:=h2.conv (c:=c2)
 clear h h2
 generalize strOfNums p=a at s1 hr
 generalize strOfNums q=b at s2 hr
 have HR:=Lib.hid hr
 clear hr
 go_enter Tryz.func102,Tryz.ntmps102
 go_wp2
 go_ret
 exact ⟨by rw [←HR.out];rfl,rfl⟩
set_option maxRecDepth 100000 in
theorem or_long:∀ k:Nat,k < 961→bits BinOp.or IntKind.i64 (IntKind.i64.wrap (IntKind.i64.wrap ((k:Int) / 256) * 256)) (IntKind.i64.wrap ((k:Int) % 256))=k:=by decide
set_option maxRecDepth 100000 in
theorem or_turn:∀ k:Nat,k < 801→bits BinOp.or IntKind.i64 (bits BinOp.or IntKind.i64 (bits BinOp.or IntKind.i64 (IntKind.i64.wrap (IntKind.i64.wrap 0 * 16777216)) (IntKind.i64.wrap (IntKind.i64.wrap 0 * 65536))) (IntKind.i64.wrap (IntKind.i64.wrap ((k:Int) / 256) * 256))) (IntKind.i64.wrap ((k:Int) % 256))=k:=by decide
theorem strAt_blk {w:World} {g n:Nat} {p:List Int} (h:Blk w g 5 (DK.pgv p).toArray) (hl:p.length=n):StrAt w g 0 n p:=by
 refine ⟨hl,fun j hj=>?_⟩
 rw [h.cell,Nat.zero_add,List.getElem?_toArray]
 have hj':j < p.length:=by omega
 simp [DK.pgv,List.getD_eq_getElem?_getD,List.getElem?_eq_getElem hj']
theorem StrAt.ext {w w':World} {g o n:Nat} {p:List Int} (h:StrAt w g o n p) (hb:Ext w w'):StrAt w' g o n p:=
 ⟨h.1,fun i hi=>(hb.cell (p:=⟨g,o+i,none⟩) (World.block_lt_of_cell? w _ (h.2 i hi))).trans (h.2 i hi)⟩
theorem results_head {fn:Func} {c u:Tmp} (h:fn.results=#[.cell c 110,.tmp u]) (tmps:Array Value) (w:World) (g:Nat) (hp:tmps.getD c undef=.pointer (some ⟨g,0,none⟩)) {a b:Value} (h0:w.cell? ⟨g,0,none⟩=some a) (h1:w.cell? ⟨g,1,none⟩=some b):
  (results fn tmps).run Tryz.prog w=.ok (.tuple #[.agg #[a,b],tmps.getD u undef]) w:=by
 have hl:(loadCells ⟨g,0,none⟩ 2).run Tryz.prog w=.ok #[a,b] w:=by
  have:=run_loadCells_list (P:=Tryz.prog) w ⟨g,0,none⟩ [a,b] (fun j v hj=>by
   match j,hj with
   | 0,hj=>simp at hj;subst hj;simpa [Addr.add] using h0
   | 1,hj=>simp at hj;subst hj;simpa [Addr.add] using h1)
  simpa using this
 have a1:=Tryz.isAgg110
 have z1:=Tryz.sizeOf110
 have hp':tmps[c]?.getD undef=.pointer (some ⟨g,0,none⟩):=by simpa using hp
 simp [results,h,hp',loadVar,asAddr,a1,z1,hl]
def ReadHead (w:World) (t l:Int) (e:Ending) (w':World):Prop:=e=.returned (.tuple #[.agg #[.int .i64 t,.int .i64 l],.nilIface])∧Ext w w'
set_option maxRecDepth 100000 in
theorem readhead_any (w:World) (u:Dsk) (n:Nat) (d:DK.D) (h:DAt w u n d) (i:Nat) (t l:Int) (ht0:0≤t) (ht:t≤800) (hl0:0≤l) (hl:l≤960) (hi:t % 2=(i:Int)) (hp:d.now[i]?=some (DK.put (hbs t l))):
  Calls Tryz.prog 62 #[.pointer (some ⟨u.g,0,none⟩),.int .i64 i] w (ReadHead w t l):=by
 have HH:=Lib.hid h
 have HP:=Lib.hid hp
 clear h hp
 go_enter Tryz.func62,Tryz.ntmps62
 go_wp2_with fail
 refine (dread_yes _ u n d (HH.out.ext ((Below.refl _ _).alloc (Nat.le_refl _) _)) i _ HP.out).mono ?_
 rintro e w1 ⟨bg,bc,rfl,hbl,hown,hbel⟩
 have HB:=Lib.hid hbel
 have HO:=Lib.hid hown
 have e0:w1.cell? ⟨bg,0,none⟩=some (.int .u8 83):=hown.cellAt 0 (by omega)
 have e1:w1.cell? ⟨bg,1,none⟩=some (.int .u8 (t / 16777216)):=hown.cellAt 1 (by omega)
 have e2:w1.cell? ⟨bg,2,none⟩=some (.int .u8 (t / 65536)):=hown.cellAt 2 (by omega)
 have e3:w1.cell? ⟨bg,3,none⟩=some (.int .u8 (t / 256)):=hown.cellAt 3 (by omega)
 have e4:w1.cell? ⟨bg,4,none⟩=some (.int .u8 (t % 256)):=hown.cellAt 4 (by omega)
 have e5:w1.cell? ⟨bg,5,none⟩=some (.int .u8 (l / 256)):=hown.cellAt 5 (by omega)
 have e6:w1.cell? ⟨bg,6,none⟩=some (.int .u8 (l % 256)):=hown.cellAt 6 (by omega)
 rw [show t / 16777216=0 by omega] at e1
 rw [show t / 65536=0 by omega] at e2
 clear hown hbel hbl
 go_wp2
 go_region_held3 (fun w'=>w'.cell? ⟨bg,1,none⟩=some (.int .u8 0)∧w'.cell? ⟨bg,2,none⟩=some (.int .u8 0)∧w'.cell? ⟨bg,3,none⟩=some (.int .u8 (t / 256))∧w'.cell? ⟨bg,4,none⟩=some (.int .u8 (t % 256))∧w'.cell? ⟨bg,5,none⟩=some (.int .u8 (l / 256))∧w'.cell? ⟨bg,6,none⟩=some (.int .u8 (l % 256))) (go_keep) (fail)
 obtain ⟨tn,rfl⟩:=Int.eq_ofNat_of_zero_le ht0
 obtain ⟨ln,rfl⟩:=Int.eq_ofNat_of_zero_le hl0
 rw [or_turn tn (by omega),or_long ln (by omega)]
 have b21:Below w1.heap.size w1 (w1.alloc (.cells #[.int .i64 tn,.int .i64 ln] 110)).drew:=((Below.refl _ _).alloc (Nat.le_refl _) _).drew
 have HX:Hid (Blk (w1.alloc (.cells #[.int .i64 tn,.int .i64 ln] 110)).drew w1.heap.size 110 #[.int .i64 tn,.int .i64 ln]):=(Blk.new w1 110 #[.int .i64 tn,.int .i64 ln]).drew
 have HR:Hid (Blk (w1.alloc (.cells #[.int .i64 tn,.int .i64 ln] 110)).drew w.heap.size 110 #[.int .i64 0,.int .i64 0]):=by
  have:=(Blk.new w 110 #[.int .i64 0,.int .i64 0]).chg (Chg.of_below HB.out) (by simp)
  exact this.chg (Chg.of_below b21) (by have:=this.lt;omega)
 have HS:Hid (StrAt (w1.alloc (.cells #[.int .i64 tn,.int .i64 ln] 110)).drew bg 0 7 (hbs tn ln)):=by
  refine ⟨rfl,fun j hj=>?_⟩
  have hlt:=own_lt (k:=bg) HO.out (by simp [Value.ownBlock])
  rw [b21.cell (p:=⟨bg,0+j,none⟩) hlt,Nat.zero_add]
  have:=HO.out.cellAt j (by omega)
  rw [this]
  obtain rfl | rfl | rfl | rfl | rfl | rfl | rfl:=(show j=0∨j=1∨j=2∨j=3∨j=4∨j=5∨j=6 by omega) <;> rfl
 have hbc:32≤bc:=by obtain ⟨A,c,h1,h2⟩:=own_slice3 HO.out;injection h1 with h1 h2' h3;omega
 have HE2:Hid (Ext w (w1.alloc (.cells #[.int .i64 tn,.int .i64 ln] 110)).drew):=Ext.trans (Ext.trans (Ext.alloc w _) HB.out) b21
 generalize (w1.alloc (.cells #[.int .i64 tn,.int .i64 ln] 110)).drew=w2 at HX HR HS HE2 ⊢
 generalize w1.heap.size=hx at HX ⊢
 clear e0 e1 e2 e3 e4 e5 e6 b21 HB HO HP HH
 have x0:w2.cell? ⟨hx,0,none⟩=some (.int .i64 tn):=HX.out.cell 0
 have x1:w2.cell? ⟨hx,1,none⟩=some (.int .i64 ln):=HX.out.cell 1
 have g1:decide ((960:Int) < (ln:Int))=false:=by simp only [decide_eq_false_iff_not];omega
 have g3:(7:Int)≤(bc:Int):=by omega
 have g2:((tn:Int).tmod 2 != (i:Int))=false:=by rw [Int.tmod_eq_emod_of_nonneg (by omega)];simpa using hi
 go_wp2
 go_region_held3 (fun w'=>w'.cell? ⟨hx,0,none⟩=some (.int .i64 tn)∧w'.cell? ⟨hx,1,none⟩=some (.int .i64 ln)) (go_keep)
  (first
   | (go_at_call 59;refine (hb_any _ tn ln (by omega) (by omega) (by omega) (by omega)).mono ?_;rintro e w5 ⟨gb,rfl,hb,hbe,hge⟩;have HE5:Hid (Ext w2 w5):=(Ext.drew _).trans hbe;have HGB:Hid (StrAt w5 gb 0 7 (hbs tn ln)):=strAt_blk hb rfl;have HS5:=Lib.hid (HS.out.ext HE5.out);have HX5:=Lib.hid (HX.out.chg (Chg.of_below HE5.out) (by have:=HX.out.lt;omega));have y0:w5.cell? ⟨hx,0,none⟩=some (.int .i64 tn):=HX5.out.cell 0;have y1:w5.cell? ⟨hx,1,none⟩=some (.int .i64 ln):=HX5.out.cell 1;clear hb hbe hge)
   | (go_at_call 102;refine (bequal_any _ gb 0 7 7 bg 0 7 bc _ _ HGB.out HS5.out true (by simp)).mono ?_;rintro e w6 ⟨rfl,rfl⟩))
 have HR5:=Lib.hid (HR.out.chg (Chg.of_below HE5.out) (by have:=HR.out.lt;omega))
 have HE:=Lib.hid (Ext.trans HE2.out HE5.out)
 have r0:w5.cell? ⟨w.heap.size,0,none⟩=some (.int .i64 0):=HR5.out.cell 0
 have r1:w5.cell? ⟨w.heap.size,1,none⟩=some (.int .i64 0):=HR5.out.cell 1
 have f0:=HR5.out.frozen 0
 have f1:=HR5.out.frozen 1
 clear HR HS HE2 HX x0 x1 HE5
 have HB5:Hid (Blk ((w5.setCell ⟨w.heap.size,0,none⟩ (.int .i64 tn)).setCell ⟨w.heap.size,1,none⟩ (.int .i64 ln)) w.heap.size 110 #[.int .i64 tn,.int .i64 ln]):=by unfold Hid;simpa using (HR5.out.set_ 0 (.int .i64 tn)).set_ 1 (.int .i64 ln)
 go_wp2
 refine bodyPost_ret (results_head rfl _ _ w.heap.size rfl (HB5.out.cell 0) (HB5.out.cell 1)) rfl ?_
 refine ⟨rfl,?_⟩
 exact (((Chg.of_below HE.out).setCell (p:=⟨w.heap.size,0,none⟩) (fun _=>Nat.le_refl _) _).setCell (p:=⟨w.heap.size,1,none⟩) (fun _=>Nat.le_refl _) _).below (Nat.le_refl _) (fun _ _ h=>h)
theorem zero_head:((strOfNums (hbs 0 0)).toList == (strOfNums (List.replicate 7 0)).toList)=false:=by
 rw [Lib.strOfNums_toList,Lib.strOfNums_toList];decide
set_option maxRecDepth 100000 in
theorem readzero_any (w:World) (u:Dsk) (n:Nat) (d:DK.D) (h:DAt w u n d) (i:Nat) (hp:d.now[i]?=some DK.zero):
  Calls Tryz.prog 62 #[.pointer (some ⟨u.g,0,none⟩),.int .i64 i] w (ReadHead w (-1) 0):=by
 have HH:=Lib.hid h
 have HP:=Lib.hid hp
 clear h hp
 go_enter Tryz.func62,Tryz.ntmps62
 go_wp2_with fail
 refine (dread_yes _ u n d (HH.out.ext ((Below.refl _ _).alloc (Nat.le_refl _) _)) i _ HP.out).mono ?_
 rintro e w1 ⟨bg,bc,rfl,hbl,hown,hbel⟩
 have HB:=Lib.hid hbel
 have HO:=Lib.hid hown
 have e1:w1.cell? ⟨bg,1,none⟩=some (.int .u8 0):=hown.cellAt 1 (by omega)
 have e2:w1.cell? ⟨bg,2,none⟩=some (.int .u8 0):=hown.cellAt 2 (by omega)
 have e3:w1.cell? ⟨bg,3,none⟩=some (.int .u8 0):=hown.cellAt 3 (by omega)
 have e4:w1.cell? ⟨bg,4,none⟩=some (.int .u8 0):=hown.cellAt 4 (by omega)
 have e5:w1.cell? ⟨bg,5,none⟩=some (.int .u8 0):=hown.cellAt 5 (by omega)
 have e6:w1.cell? ⟨bg,6,none⟩=some (.int .u8 0):=hown.cellAt 6 (by omega)
 clear hown hbel hbl
 go_wp2
 go_region_held3 (fun w'=>w'.cell? ⟨bg,1,none⟩=some (.int .u8 0)∧w'.cell? ⟨bg,2,none⟩=some (.int .u8 0)∧w'.cell? ⟨bg,3,none⟩=some (.int .u8 0)∧w'.cell? ⟨bg,4,none⟩=some (.int .u8 0)∧w'.cell? ⟨bg,5,none⟩=some (.int .u8 0)∧w'.cell? ⟨bg,6,none⟩=some (.int .u8 0)) (go_keep) (fail)
 rw [show bits BinOp.or IntKind.i64 (bits BinOp.or IntKind.i64 (bits BinOp.or IntKind.i64 (IntKind.i64.wrap (IntKind.i64.wrap 0 * 16777216)) (IntKind.i64.wrap (IntKind.i64.wrap 0 * 65536))) (IntKind.i64.wrap (IntKind.i64.wrap 0 * 256))) (IntKind.i64.wrap 0)=0 from by decide,show bits BinOp.or IntKind.i64 (IntKind.i64.wrap (IntKind.i64.wrap 0 * 256)) (IntKind.i64.wrap 0)=0 from by decide]
 have b21:Below w1.heap.size w1 (w1.alloc (.cells #[.int .i64 0,.int .i64 0] 110)).drew:=((Below.refl _ _).alloc (Nat.le_refl _) _).drew
 have HX:Hid (Blk (w1.alloc (.cells #[.int .i64 0,.int .i64 0] 110)).drew w1.heap.size 110 #[.int .i64 0,.int .i64 0]):=(Blk.new w1 110 #[.int .i64 0,.int .i64 0]).drew
 have HR:Hid (Blk (w1.alloc (.cells #[.int .i64 0,.int .i64 0] 110)).drew w.heap.size 110 #[.int .i64 0,.int .i64 0]):=by
  have:=(Blk.new w 110 #[.int .i64 0,.int .i64 0]).chg (Chg.of_below HB.out) (by simp)
  exact this.chg (Chg.of_below b21) (by have:=this.lt;omega)
 have HS:Hid (StrAt (w1.alloc (.cells #[.int .i64 0,.int .i64 0] 110)).drew bg 0 7 (List.replicate 7 0)):=by
  refine ⟨rfl,fun j hj=>?_⟩
  have hlt:=own_lt (k:=bg) HO.out (by simp [Value.ownBlock])
  rw [b21.cell (p:=⟨bg,0+j,none⟩) hlt,Nat.zero_add]
  have:=HO.out.cellAt j (by omega)
  rw [this]
  obtain rfl | rfl | rfl | rfl | rfl | rfl | rfl:=(show j=0∨j=1∨j=2∨j=3∨j=4∨j=5∨j=6 by omega) <;> rfl
 have hbc:32≤bc:=by obtain ⟨A,c,h1,h2⟩:=own_slice3 HO.out;injection h1 with h1 h2' h3;omega
 have HE2:Hid (Ext w (w1.alloc (.cells #[.int .i64 0,.int .i64 0] 110)).drew):=Ext.trans (Ext.trans (Ext.alloc w _) HB.out) b21
 generalize (w1.alloc (.cells #[.int .i64 0,.int .i64 0] 110)).drew=w2 at HX HR HS HE2 ⊢
 generalize w1.heap.size=hx at HX ⊢
 clear e1 e2 e3 e4 e5 e6 b21 HB HO HP HH
 have x0:w2.cell? ⟨hx,0,none⟩=some (.int .i64 0):=HX.out.cell 0
 have x1:w2.cell? ⟨hx,1,none⟩=some (.int .i64 0):=HX.out.cell 1
 have g3:(7:Int)≤(bc:Int):=by omega
 go_wp2
 first | (go_region_with (first
  | (go_at_call 59;refine (hb_any _ 0 0 (by omega) (by omega) (by omega) (by omega)).mono ?_;rintro e w5 ⟨gb,rfl,hb,hbe,hge⟩;have HE5:Hid (Ext w2 w5):=(Ext.drew _).trans hbe;have HGB:Hid (StrAt w5 gb 0 7 (hbs 0 0)):=strAt_blk hb rfl;have HS5:=Lib.hid (HS.out.ext HE5.out);have HX5:=Lib.hid (HX.out.chg (Chg.of_below HE5.out) (by have:=HX.out.lt;omega));have y0:w5.cell? ⟨hx,0,none⟩=some (.int .i64 0):=HX5.out.cell 0;have y1:w5.cell? ⟨hx,1,none⟩=some (.int .i64 0):=HX5.out.cell 1;clear hb hbe hge)
  | (go_at_call 102;refine (bequal_any _ gb 0 7 7 bg 0 7 bc _ _ HGB.out HS5.out false zero_head).mono ?_;rintro e w6 ⟨rfl,rfl⟩))) | fail
 all_goals
  have HR5:=Lib.hid (HR.out.chg (Chg.of_below HE5.out) (by have:=HR.out.lt;omega))
  have HE:=Lib.hid (Ext.trans HE2.out HE5.out)
  have r0:w5.cell? ⟨w.heap.size,0,none⟩=some (.int .i64 0):=HR5.out.cell 0
  have r1:w5.cell? ⟨w.heap.size,1,none⟩=some (.int .i64 0):=HR5.out.cell 1
  have f0:=HR5.out.frozen 0
  have f1:=HR5.out.frozen 1
  clear HR HS HE2 HX x0 x1 HE5
  have HB5:Hid (Blk ((w5.setCell ⟨w.heap.size,0,none⟩ (.int .i64 (-1))).setCell ⟨w.heap.size,1,none⟩ (.int .i64 0)) w.heap.size 110 #[.int .i64 (-1),.int .i64 0]):=by unfold Hid;simpa using (HR5.out.set_ 0 (.int .i64 (-1))).set_ 1 (.int .i64 0)
  go_wp2
  refine bodyPost_ret (results_head rfl _ _ w.heap.size rfl (HB5.out.cell 0) (HB5.out.cell 1)) rfl ?_
  refine ⟨rfl,?_⟩
  exact (((Chg.of_below HE.out).setCell (p:=⟨w.heap.size,0,none⟩) (fun _=>Nat.le_refl _) _).setCell (p:=⟨w.heap.size,1,none⟩) (fun _=>Nat.le_refl _) _).below (Nat.le_refl _) (fun _ _ h=>h)
structure SoAt (w:World) (g gd:Nat) (t:Int) (v:Value) (down:Bool) (p:List Int):Prop where
 blk:Blk w g 116 #[.pointer (some ⟨gd,0,none⟩),.int .i64 t,.int .i64 (p.length:Int),v,.bool down]
 row:w.ownsRow 0 5 1 v p.length (DK.pgv p)
theorem SoAt.chg {S:Nat→Prop} {w w':World} {g gd:Nat} {t:Int} {v:Value} {down:Bool} {p:List Int} (h:SoAt w g gd t v down p) (hc:Chg S w w') (hg:¬ S g) (hv:∀ k,v.ownBlock=some k→¬ S k):SoAt w' g gd t v down p:=
 ⟨h.blk.chg hc hg,own_chg h.row hc hv⟩
theorem SoAt.ext {w w':World} {g gd:Nat} {t:Int} {v:Value} {down:Bool} {p:List Int} (h:SoAt w g gd t v down p) (hb:Ext w w'):SoAt w' g gd t v down p:=
 h.chg (Chg.of_below hb) (by have:=h.blk.lt;omega) (fun k hk=>by have:=own_lt h.row hk;omega)
theorem turn_any (w:World) (g gd:Nat) (t:Int) (v:Value) (down:Bool) (p:List Int) (h:SoAt w g gd t v down p):
  Calls Tryz.prog 93 #[.pointer (some ⟨g,0,none⟩)] w fun e w'=>e=.returned (.int .i64 t)∧w=w':=by
 have c1:w.cell? ⟨g,1,none⟩=some (.int .i64 t):=h.blk.cell 1
 clear h
 go_enter Tryz.func93,Tryz.ntmps93
 go_wp2
 go_ret
 exact ⟨rfl,rfl⟩
def BRow (w:World) (p:List Int) (e:Ending) (w':World):Prop:=∃ v,e=.returned v∧w'.ownsRow 0 5 1 v p.length (DK.pgv p)∧Ext w w'∧∀ k,v.ownBlock=some k→w.heap.size≤k
set_option maxRecDepth 100000 in
theorem bclone_row (w:World) (ad:Addr) (n c:Nat) (p:List Int) (hl:p.length=n) (hn2:n≤100000) (h:∀ j u,(DK.pgv p)[j]?=some u→(w.alloc (.cells #[] 5)).cell? (ad.add j)=some u):
  Calls Tryz.prog 66 #[.slice (some ad) n c] w (BRow w p):=by
 have HS:Hid (∀ x,some ad=some x→∀ j u,(DK.pgv p)[j]?=some u→(w.alloc (.cells #[] 5)).cell? (x.add j)=some u):=fun x hx=>by injection hx with hx;subst hx;exact h
 have HL:Hid ((DK.pgv p).length=n * 1):=by simp [DK.pgv,hl,Hid]
 have HO:Hid ((w.alloc (.cells #[] 5)).ownsRow 0 5 1 (.slice (some ⟨w.heap.size,0,none⟩) 0 0) 0 []):=World.ownsRow_lit w #[] 0 (Nat.zero_le _) (by unfold maxLen;omega) (by simp)
 have HPL:=Lib.hid hl
 clear h hl
 have u48:=fun w a n c n' c'=>Lib.run_eql_slice_nil (P:=Tryz.prog) w 38 5 a n c n' c' Tryz.underlying38
 go_enter Tryz.func66,Tryz.ntmps66
 go_wp2_with (at_builtin;refine wpList_append_rows _ rfl (.tmp 5) (.tmp 6) 38 rfl 5 _ 1 1 Tryz.underlying38 infoByte rfl (by decide) (.slice (some ⟨w.heap.size,0,none⟩) 0 0) 0 [] rfl HO.out (some ad) n c (DK.pgv p) rfl HL.out (fun h=>by cases h) HS.out pgv_one ⟨by omega,by omega⟩ ?_;intro A2 c2 w2 ho hc hg;have HO2:=Lib.hid ho;have HC2:=Lib.hid hc;have HG2:=Lib.hid hg;clear ho hc hg)
 go_ret
 have ho:=HO2.out
 simp only [Nat.zero_add,List.nil_append] at ho
 refine ⟨_,rfl,by rw [HPL.out];simpa using ho,?_,fun k hk=>?_⟩
 ·exact (((Chg.of_below (Below.refl w.heap.size w)).alloc (.cells #[] 5)).trans HC2.out (fun k _ hk=>by simp [Value.ownBlock] at hk;omega)).below (Nat.le_refl _) (fun _ _ h=>h)
 ·rcases HG2.out k (by simpa using hk) with h | h
  ·simp [Value.ownBlock] at h;omega
  ·simp only [World.size_alloc] at h;omega
set_option maxRecDepth 100000 in
theorem bclone_nil (w:World):Calls Tryz.prog 66 #[.slice none 0 0] w (BRow w []):=by
 have u48:=fun (w:World) (a:Option Addr) (n c n' c':Nat)=>Lib.run_eql_slice_nil (P:=Tryz.prog) w 38 5 a n c n' c' Tryz.underlying38
 go_enter Tryz.func66,Tryz.ntmps66
 go_wp2
 go_ret
 exact ⟨_,rfl,World.ownsRow_nil _ _ _ _,Ext.refl w,fun k hk=>by simp [Value.ownBlock] at hk⟩
theorem bclone_own (w:World) (v:Value) (p:List Int) (hn2:p.length≤100000) (h:w.ownsRow 0 5 1 v p.length (DK.pgv p)):Calls Tryz.prog 66 #[v] w (BRow w p):=by
 rcases h.2 with ⟨rfl,h0⟩ | ⟨g,cap,cur,rfl,_,hg,_⟩
 ·obtain rfl:p=[]:=List.eq_nil_of_length_eq_zero h0
  exact bclone_nil w
 ·refine bclone_row w _ _ _ p rfl hn2 (fun j u hj=>?_)
  rw [Addr.add_mid,Nat.zero_add]
  have hjn:j < p.length:=by have:=(List.getElem?_eq_some_iff.1 hj).1;simpa [DK.pgv] using this
  have hlt:g < w.heap.size:=own_lt h (by simp [Value.ownBlock])
  rw [((Ext.alloc w _).cell (p:=⟨g,j,none⟩) hlt),h.cellAt j (by omega)]
  exact hj
theorem load_any (w:World) (g gd:Nat) (t:Int) (v:Value) (down:Bool) (p:List Int) (h:SoAt w g gd t v down p) (hn:p.length≤100000):
  Calls Tryz.prog 21 #[.pointer (some ⟨g,0,none⟩)] w (BRow w p):=by
 have c3:w.cell? ⟨g,3,none⟩=some v:=h.blk.cell 3
 have HR:=Lib.hid h.row
 clear h
 go_enter Tryz.func21,Tryz.ntmps21
 go_wp2_with fail
 refine (bclone_own w v p hn HR.out).mono ?_
 rintro e w' ⟨v',rfl,h1,h2,h3⟩
 have H1:=Lib.hid h1
 have H2:=Lib.hid h2
 have H3:=Lib.hid h3
 clear h1 h2 h3
 go_wp2
 go_ret
 exact ⟨_,rfl,H1.out,H2.out,H3.out⟩
theorem DMoved.trans {w w1 w2:World} {u u1 u2:Dsk} (h1:DMoved w u u1 w1) (h2:DMoved w1 u1 u2 w2):DMoved w u u2 w2:=
 ⟨h2.1.trans h1.1,h1.2.1.trans h2.2.1 (fun k hk hf=>by rcases h1.2.2 k hf with h | h;(· exact h);(· omega)),fun k hk=>by
  rcases h2.2.2 k hk with h | h
  ·exact h1.2.2 k h
  ·right;have:=h1.2.1.size;omega⟩
theorem DMoved.of_ext {w w1:World} (u:Dsk) (h:Ext w w1):DMoved w u u w1:=⟨rfl,Chg.new h _,fun _ h=>.inl h⟩
def FmD (n:Nat):Nat→DK.D
 | 0=>DK.new n
 | 1=>wrTo n (DK.new n) 0 (hbs 0 0)
 | _=>wrTo n (wrTo n (DK.new n) 0 (hbs 0 0)) 1 []
theorem fm_err0 {n:Nat} (hn:62≤n):wrErr n (FmD n 0) 0 (hbs 0 0)=none:=by
 simp [wrErr,FmD,DK.new,DK.stopped,hbs];omega
theorem fm_err1 {n:Nat} (hn:62≤n):wrErr n (FmD n 1) 1 []=none:=by
 have h0:¬ n=0:=by omega
 have h2:¬ ((n:Int)≤1):=by omega
 have h3:(FmD n 1).left=-1∧(FmD n 1).down=false:=by simp [FmD,wrTo,DK.new,DK.stopped,hbs,DK.write,DK.step,h0];decide
 simp [wrErr,DK.stopped,h2,h3.1,h3.2]
theorem bytes_blk {w:World} {g:Nat} {p:List Int} (h:Blk w g 5 (DK.pgv p).toArray):BytesAt w (some ⟨g,0,none⟩) p:=by
 refine .inr ⟨g,0,rfl,h.lt,fun i v hv=>?_⟩
 rw [h.cell,Nat.zero_add,List.getElem?_toArray]
 simp [DK.pgv,hv]
theorem optErr_none:optErr none=.nilIface:=rfl
theorem optErr_some (x:Int):optErr (some x)=derrV x:=rfl
theorem DAt.notyp {w:World} {u:Dsk} {n:Nat} {d:DK.D} (h:DAt w u n d) {k:Nat} {t:TypeId} {cs:Array Value} (hb:Blk w k t cs) (ht:¬ (t=56∨t=160∨t=162)):¬ u.fp k:=fun hk=>by
 obtain ⟨t',cs',hb',ht'⟩:=h.typ hk
 rw [←blk_same hb hb'] at ht'
 exact ht ht'
def FmPost (w:World) (u:Dsk) (n:Nat) (e:Ending) (w':World):Prop:=∃ u',e=.returned .nilIface∧DAt w' u' n (DK.sync (FmD n 2))∧DMoved w u u' w'
def FmR (w:World) (u:Dsk) (n k gx gb:Nat) (wr:World):Prop:=∃ u',DAt wr u' n (FmD n k)∧DMoved w u u' wr∧Blk wr gx 38 #[.slice (some ⟨gb,0,none⟩) 7 7,.slice none 0 0]∧Blk wr gb 5 (DK.pgv (hbs 0 0)).toArray
theorem wrTo_ws (n:Nat) (d:DK.D) (i:Int) (b:List Int):(wrTo n d i b).ws.length≤d.ws.length+1:=by
 unfold wrTo
 split;· omega
 split;· omega
 split
 ·unfold DK.step;split <;> simp
 ·unfold DK.step;split <;> simp [DK.write]
def Fre (d:DK.D):Prop:=d.left=-1∧d.down=false
theorem Fre.stopped {d:DK.D} (h:Fre d):DK.stopped d=false:=by simp [DK.stopped,h.1,h.2]
theorem Fre.step {d:DK.D} (h:Fre d):DK.step d=d:=by
 obtain ⟨a,b,c,l,e⟩:=d
 obtain ⟨h1,h2⟩:=h
 simp only at h1 h2
 subst h1;subst h2
 simp [DK.step,DK.stopped]
 decide
theorem fm_ws (n k:Nat):(FmD n k).ws.length≤2:=by
 match k with
 | 0=>simp [FmD,DK.new]
 | 1=>exact Nat.le_trans (wrTo_ws _ _ _ _) (by simp [DK.new])
 | k+2=>exact Nat.le_trans (wrTo_ws _ _ _ _) (Nat.succ_le_succ (Nat.le_trans (wrTo_ws _ _ _ _) (by simp [DK.new])))
theorem Fre.wrTo {n:Nat} {d:DK.D} (h:Fre d) (i:Int) (b:List Int):Fre (wrTo n d i b):=by
 unfold Go.Proofs.YtkoajpeabicpdaaGreatDoor.wrTo
 split;· exact h
 split;· exact h
 rw [h.stopped,h.step]
 exact h
theorem free_new (n:Nat):Fre (DK.new n):=⟨rfl,rfl⟩
theorem fm_free (n k:Nat):Fre (FmD n k):=by
 match k with
 | 0=>exact free_new n
 | 1=>exact ((free_new n).wrTo _ _)
 | k+2=>exact (((free_new n).wrTo _ _).wrTo _ _)
set_option maxRecDepth 100000 in
theorem format_yes (w:World) (u:Dsk) (n:Nat) (h:DAt w u n (DK.new n)) (hn:62≤n):
  Calls Tryz.prog 17 #[.pointer (some ⟨u.g,0,none⟩)] w (FmPost w u n):=by
 have HH:=Lib.hid h
 have h1:¬ ((n:Int) < 62):=by omega
 clear h
 go_enter Tryz.func17,Tryz.ntmps17
 go_wp2_with fail
 refine (dpages_any w u n _ HH.out).mono ?_
 rintro e w' ⟨rfl,rfl⟩
 go_wp2_with fail
 refine (hb_any _ 0 0 (by omega) (by omega) (by omega) (by omega)).mono ?_
 rintro e w1 ⟨gb,rfl,hb,hbe,hge⟩
 have HR0:Hid (FmR w u n 0 w1.heap.size gb (w1.alloc (.cells #[.slice (some ⟨gb,0,none⟩) 7 7,.slice none 0 0] 38))):=
  ⟨u,(HH.out.ext hbe).ext ((Below.refl _ _).alloc (Nat.le_refl _) _),DMoved.of_ext u (Ext.trans hbe (Ext.alloc _ _)),Blk.new _ _ _,hb.alloc _⟩
 clear hb hbe hge
 go_wp2_with fail
 go_loopw [14] (fun v wr=>∃ k:Nat,k≤2∧v=.int .i64 k∧Hid (FmR w u n k w1.heap.size gb wr)) (fun v _=>2 - (intOf v).toNat)
 case atStart=>exact ⟨0,by omega,rfl,HR0⟩
 case round=>
  obtain ⟨k,hk,rfl,hR⟩:=hrel
  clear HR0
  by_cases h0:k=0
  ·subst h0
   obtain ⟨u',hu,hm,hx,hb⟩:=hR.out
   have HU:=Lib.hid hu
   have HM:=Lib.hid hm
   have HB:=Lib.hid hb
   have HX:=Lib.hid hx
   have e0:wr.cell? ⟨w1.heap.size,0,none⟩=some (.slice (some ⟨gb,0,none⟩) 7 7):=hx.cell 0
   have HG:=Lib.hid hm.1
   clear hu hm hb hx
   go_wp2_with fail
   have a1:(FmD n 0).ws.length≤10000:=by have:=fm_ws n 0;omega
   have hdw:=dwrite_any wr u' n (FmD n 0) HU.out 0 (some ⟨gb,0,none⟩) 7 7 (hbs 0 0) rfl a1 (bytes_blk HB.out) (by rintro _ x hx;injection hx with hx;subst hx;exact HB.out.ne_ HU.out.blk (by decide))
   rw [HG.out] at hdw
   refine hdw.mono ?_
   rintro e w2 ⟨u2,rfl,hu2,hm2⟩
   have HM2:Hid (DMoved w u u2 w2):=HM.out.trans hm2
   rw [fm_err0 hn,optErr_none]
   have HR2:Hid (FmR w u n 1 w1.heap.size gb w2):=⟨u2,hu2,HM2.out,HX.out.chg hm2.2.1 (HU.out.notyp HX.out (by decide)),HB.out.chg hm2.2.1 (HU.out.notyp HB.out (by decide))⟩
   clear hu2 hm2 HM2 a1 hdw HB HX HU e0
   go_wp2
   go_roundw
   case rel=>exact ⟨1,by omega,by rfl,HR2⟩
   case measure=>simp [intOf]
  by_cases h1:k=1
  ·subst h1
   obtain ⟨u',hu,hm,hx,hb⟩:=hR.out
   have HU:=Lib.hid hu
   have HM:=Lib.hid hm
   have HB:=Lib.hid hb
   have HX:=Lib.hid hx
   have e0:wr.cell? ⟨w1.heap.size,1,none⟩=some (.slice none 0 0):=hx.cell 1
   have HG:=Lib.hid hm.1
   clear hu hm hb hx
   go_wp2_with fail
   have a1:(FmD n 1).ws.length≤10000:=by have:=fm_ws n 1;omega
   have hdw:=dwrite_any wr u' n (FmD n 1) HU.out 1 none 0 0 [] rfl a1 (.inl rfl) (by simp)
   rw [HG.out] at hdw
   refine hdw.mono ?_
   rintro e w2 ⟨u2,rfl,hu2,hm2⟩
   have HM2:Hid (DMoved w u u2 w2):=HM.out.trans hm2
   rw [fm_err1 hn,optErr_none]
   have HR2:Hid (FmR w u n 2 w1.heap.size gb w2):=⟨u2,hu2,HM2.out,HX.out.chg hm2.2.1 (HU.out.notyp HX.out (by decide)),HB.out.chg hm2.2.1 (HU.out.notyp HB.out (by decide))⟩
   clear hu2 hm2 HM2 a1 hdw HB HX HU e0
   go_wp2
   go_roundw
   case rel=>exact ⟨2,by omega,by rfl,HR2⟩
   case measure=>simp [intOf]
  have h2:k=2:=by omega
  subst h2
  obtain ⟨u',hu,hm,hx,hb⟩:=hR.out
  have HU:=Lib.hid hu
  have HM:=Lib.hid hm
  have HG:=Lib.hid hm.1
  clear hu hm hb hx h0 h1
  go_wp2_with fail
  have hdw:=dsync_any wr u' n (FmD n 2) HU.out
  rw [HG.out] at hdw
  refine hdw.mono ?_
  rintro e w2 ⟨u2,rfl,hu2,hm2⟩
  rw [(fm_free n 2).stopped] at hu2 ⊢
  rw [(fm_free n 2).step] at hu2
  have HU2:Hid (DAt w2 u2 n (DK.sync (FmD n 2))):=hu2
  have HM2:Hid (DMoved w u u2 w2):=HM.out.trans hm2
  clear hu2 hm2 hdw
  go_wp2
  go_ret
  exact ⟨u2,rfl,HU2.out,HM2.out⟩
def layW (n:Nat):Nat→DK.D→Int→List Int→Option Int × DK.D
 | 0,d,_,_=>(none,d)
 | f+1,d,i,b=>if b.length=0 then (none,d) else match wrErr n d i (b.take 32) with
  | some x=>(some x,wrTo n d i (b.take 32))
  | none=>layW n f (wrTo n d i (b.take 32)) (i+1) (b.drop 32)
def syR (d:DK.D):Option Int × DK.D:=if DK.stopped d then (some 8,DK.step d) else (none,DK.sync (DK.step d))
def layH (n:Nat) (d:DK.D) (t:Int) (l:Int):Option Int × DK.D:=match wrErr n d (t % 2) (hbs t l) with
 | some x=>(some x,wrTo n d (t % 2) (hbs t l))
 | none=>syR (wrTo n d (t % 2) (hbs t l))
def layS (n:Nat) (d:DK.D) (t:Int) (l:Int):Option Int × DK.D:=match (syR d).1 with
 | some x=>(some x,(syR d).2)
 | none=>layH n (syR d).2 t l
def layR (n:Nat) (d:DK.D) (t:Int) (b:List Int):Option Int × DK.D:=match (layW n 30 d (2+t % 2 * 30) b).1 with
 | some x=>(some x,(layW n 30 d (2+t % 2 * 30) b).2)
 | none=>layS n (layW n 30 d (2+t % 2 * 30) b).2 t b.length
theorem layW_nil {n f:Nat} {d:DK.D} {i:Int} {b:List Int} (h:b.length=0):layW n f d i b=(none,d):=by
 cases f with
 | zero=>rfl
 | succ f=>simp [layW,h]
theorem layW_some {n f:Nat} {d:DK.D} {i x:Int} {b:List Int} (h:¬ b.length=0) (he:wrErr n d i (b.take 32)=some x):layW n (f+1) d i b=(some x,wrTo n d i (b.take 32)):=by
 simp [layW,h,he]
theorem layW_none {n f:Nat} {d:DK.D} {i:Int} {b:List Int} (h:¬ b.length=0) (he:wrErr n d i (b.take 32)=none):layW n (f+1) d i b=layW n f (wrTo n d i (b.take 32)) (i+1) (b.drop 32):=by
 simp [layW,h,he]
theorem layR_some {n:Nat} {d:DK.D} {t x:Int} {b:List Int} (h:(layW n 30 d (2+t % 2 * 30) b).1=some x):layR n d t b=(some x,(layW n 30 d (2+t % 2 * 30) b).2):=by
 simp [layR,h]
theorem layR_none {n:Nat} {d:DK.D} {t:Int} {b:List Int} (h:(layW n 30 d (2+t % 2 * 30) b).1=none):layR n d t b=layS n (layW n 30 d (2+t % 2 * 30) b).2 t b.length:=by
 simp [layR,h]
def LayPost (w:World) (u:Dsk) (n:Nat) (r:Option Int × DK.D) (e:Ending) (w':World):Prop:=∃ u',e=.returned (optErr r.1)∧DAt w' u' n r.2∧DMoved w u u' w'
structure LyR (w:World) (u:Dsk) (n:Nat) (d:DK.D) (i0:Int) (b:List Int) (gh:Nat) (cs:Array Value) (A:Option Addr) (m:Nat) (i:Int) (wr:World):Prop where
 all:∃ f d' b' u',layW n 30 d i0 b=layW n f d' i b'∧b'.length=m∧m≤32 * f∧DAt wr u' n d'∧DMoved w u u' wr∧BytesAt w A b'∧(b'≠[]→∀ x,A=some x→¬ u.fp x.block∧x.block < w.heap.size)∧d'.ws.length+f≤1000∧0≤i∧i+f≤100
 box:Blk wr gh 110 cs
set_option maxRecDepth 100000 in
theorem lay_any (w:World) (u:Dsk) (n:Nat) (d:DK.D) (h:DAt w u n d) (g:Nat) (cs:Array Value) (hS:Blk w g 116 cs) (hc:cs[0]?=some (.pointer (some ⟨u.g,0,none⟩))) (t:Nat) (ht:t≤800) (A:Option Addr) (m c:Nat) (b:List Int) (hm:b.length=m) (hm2:m≤960) (hmc:m≤c) (hcm:c≤maxLen)
  (hA:BytesAt w A b) (hAb:b≠[]→∀ x,A=some x→¬ u.fp x.block) (hws:d.ws.length≤900):
  Calls Tryz.prog 65 #[.pointer (some ⟨g,0,none⟩),.agg #[.int .i64 t,.int .i64 m],.slice A m c] w (LayPost w u n (layR n d t b)):=by
 have HH:=Lib.hid h
 have HS:=Lib.hid hS
 have HC:=Lib.hid hc
 have HA:Hid (BytesAt w A b∧(b≠[]→∀ x,A=some x→¬ u.fp x.block∧x.block < w.heap.size)):=⟨hA,fun hne x hx=>⟨hAb hne x hx,hA.lt_ hne hx⟩⟩
 have HM:=Lib.hid hm
 have HWS:=Lib.hid hws
 clear h hS hc hA hAb hm hws
 unfold maxLen at hcm
 go_enter Tryz.func65,Tryz.ntmps65
 go_wp2_with fail
 refine (stfirst_any _ t (by omega)).mono ?_
 rintro e w' ⟨rfl,rfl⟩
 have HR0:Hid (LyR w u n d (2+(t:Int) % 2 * 30) b w.heap.size #[.int .i64 t,.int .i64 m] A m (2+(t:Int) % 2 * 30) (w.alloc (.cells #[.int .i64 t,.int .i64 m] 110))):=
  ⟨⟨30,d,b,u,rfl,HM.out,by omega,HH.out.ext (Ext.alloc _ _),DMoved.of_ext u (Ext.alloc _ _),HA.out.1,HA.out.2,by have:=HWS.out;omega,by omega,by omega⟩,Blk.new _ _ _⟩
 go_wp2_with fail
 go_loopw [2,7] (fun v2 v7 wr=>∃ (A':Option Addr) (m' c':Nat) (i:Int),v2=.slice A' m' c'∧v7=.int .i64 i∧m'≤c'∧c'≤9223372036854775807∧Hid (LyR w u n d (2+(t:Int) % 2 * 30) b w.heap.size #[.int .i64 t,.int .i64 m] A' m' i wr)) (fun v2 _ _=>(match v2 with | .slice _ k _=>k | _=>0))
 case atStart=>exact ⟨_,_,_,_,rfl,rfl,hmc,hcm,HR0⟩
 case round=>
  obtain ⟨A',m',c',i,rfl,rfl,hmc',hcm',hR⟩:=hrel
  by_cases h0:m'=0
  ·subst h0
   obtain ⟨⟨f,d',b',u',hlw,hbl,hmf,hD,hMv,hB,hBf,hdw,hi0,hi1⟩,hbox⟩:=hR.out
   have HD:=Lib.hid hD
   have HMv:=Lib.hid hMv
   have HBX:=Lib.hid hbox
   have HG:=Lib.hid hMv.1
   have HSr:Hid (Blk wr g 116 cs):=HS.out.chg hMv.2.1 (HH.out.notyp HS.out (by decide))
   have cS:wr.cell? ⟨g,0,none⟩=some (.pointer (some ⟨u.g,0,none⟩)):=by rw [HSr.out.cell];exact HC.out
   have HL:Hid (layR n d t b=layS n d' t m):=by
    have h1:layW n 30 d (2+(t:Int) % 2 * 30) b=(none,d'):=by rw [hlw];exact layW_nil hbl
    rw [Hid,layR_none (by rw [h1]),h1,HM.out]
   have hdw2:d'.ws.length≤1000:=by omega
   clear hlw hbl hD hMv hB hBf hbox hR HR0 hmf hi0 hi1 hdw
   go_wp2_with fail
   have hs:=dsync_any wr u' n d' HD.out
   rw [HG.out] at hs
   refine hs.mono ?_
   rintro e w2 ⟨u2,rfl,hu2,hm2⟩
   clear hs
   by_cases hst:DK.stopped d'=true
   ·rw [if_pos hst] at hu2 ⊢
    have HE:Hid (LayPost w u n (layR n d t b) (.returned (derrV 8)) w2):=by
     rw [Hid,HL.out,layS,syR,if_pos hst]
     exact ⟨u2,rfl,hu2,HMv.out.trans hm2⟩
    clear hu2 hm2 hst
    go_wp2
    go_ret
    exact HE.out
   ·rw [if_neg hst] at hu2 ⊢
    have HL2:Hid (layR n d t b=layH n (DK.sync (DK.step d')) t m):=by
     rw [Hid,HL.out,layS,syR,if_neg hst]
    have HU2:=Lib.hid hu2
    have HM2:=Lib.hid (HMv.out.trans hm2)
    have HG2:Hid (u2.g=u.g):=HM2.out.1
    have HS2:Hid (Blk w2 g 116 cs):=HSr.out.chg hm2.2.1 (HD.out.notyp HSr.out (by decide))
    have HB2:Hid (Blk w2 w.heap.size 110 #[.int .i64 t,.int .i64 m]):=HBX.out.chg hm2.2.1 (HD.out.notyp HBX.out (by decide))
    have cS2:w2.cell? ⟨g,0,none⟩=some (.pointer (some ⟨u.g,0,none⟩)):=by rw [HS2.out.cell];exact HC.out
    have x0:w2.cell? ⟨w.heap.size,0,none⟩=some (.int .i64 t):=HB2.out.cell 0
    have x1:w2.cell? ⟨w.heap.size,1,none⟩=some (.int .i64 m):=HB2.out.cell 1
    clear hu2 hm2 hst HL HBX HSr HMv HD cS hdw2
    have hws2:(DK.sync (DK.step d')).ws.length≤10000:=by simp [DK.sync]
    go_wp2_with fail
    go_region_held3 (fun w'=>w'.cell? ⟨g,0,none⟩=some (.pointer (some ⟨u.g,0,none⟩))∧w'.cell? ⟨w.heap.size,0,none⟩=some (.int .i64 t)∧w'.cell? ⟨w.heap.size,1,none⟩=some (.int .i64 m)) (go_keep)
     (first
      | (go_at_call 59;refine (hb_any _ t m (by omega) (by omega) (by omega) (by omega)).mono ?_;rintro e w5 ⟨gb,rfl,hb,hbe,hge⟩;have HE5:Hid (Ext w2 w5):=(Ext.drew _).trans hbe;have HGB:=Lib.hid hb;have HS5:Hid (Blk w5 g 116 cs):=HS2.out.chg (Chg.of_below HE5.out) (by have:=HS2.out.lt;omega);have HB5:Hid (Blk w5 w.heap.size 110 #[.int .i64 t,.int .i64 m]):=HB2.out.chg (Chg.of_below HE5.out) (by have:=HB2.out.lt;omega);have y0:w5.cell? ⟨g,0,none⟩=some (.pointer (some ⟨u.g,0,none⟩)):=by { rw [HS5.out.cell];exact HC.out };have y1:w5.cell? ⟨w.heap.size,0,none⟩=some (.int .i64 t):=HB5.out.cell 0;have y2:w5.cell? ⟨w.heap.size,1,none⟩=some (.int .i64 m):=HB5.out.cell 1;clear hb hbe hge)
      | (go_at_call 60;have hdw2:=dwrite_any w5 u2 n _ (HU2.out.ext HE5.out) ((t:Int) % 2) (some ⟨gb,0,none⟩) 7 7 (hbs t m) rfl hws2 (bytes_blk HGB.out) (by rintro _ x hx;injection hx with hx;subst hx;exact HGB.out.ne_ (HU2.out.ext HE5.out).blk (by decide));rw [HG2.out] at hdw2;refine hdw2.mono ?_;rintro e w6 ⟨u6,rfl,hu6,hm6⟩;clear hdw2;have HM6:Hid (DMoved w5 u2 u6 w6):=hm6;have HU6:=Lib.hid hu6;clear hu6 hm6;have HS6:Hid (Blk w6 g 116 cs):=HS5.out.chg HM6.out.2.1 ((HU2.out.ext HE5.out).notyp HS5.out (by decide));have HB6:Hid (Blk w6 w.heap.size 110 #[.int .i64 t,.int .i64 m]):=HB5.out.chg HM6.out.2.1 ((HU2.out.ext HE5.out).notyp HB5.out (by decide));  have z0:w6.cell? ⟨g,0,none⟩=some (.pointer (some ⟨u.g,0,none⟩)):=by { rw [HS6.out.cell];exact HC.out };have z1:w6.cell? ⟨w.heap.size,0,none⟩=some (.int .i64 t):=HB6.out.cell 0;have z2:w6.cell? ⟨w.heap.size,1,none⟩=some (.int .i64 m):=HB6.out.cell 1))
    have HME:Hid (DMoved w u u6 w6):=(HM2.out.trans (DMoved.of_ext u2 HE5.out)).trans HM6.out
    have HG6:Hid (u6.g=u.g):=HME.out.1
    clear HE5 HGB HS5 HB5 y0 y1 y2 HM6 HS2 HB2 cS2 x0 x1 HU2 HM2 HB6 z1 z2 hws2
    rcases hwe:wrErr n (DK.sync (DK.step d')) ((t:Int) % 2) (hbs t m) with _ | x
    ·have HL3:Hid (layR n d t b=syR (wrTo n (DK.sync (DK.step d')) ((t:Int) % 2) (hbs t m))):=by rw [Hid,HL2.out,layH,hwe]
     rw [optErr_none]
     clear hwe HL2
     go_wp2_with fail
     have hs:=dsync_any w6 u6 n _ HU6.out
     rw [HG6.out] at hs
     refine hs.mono ?_
     rintro e w7 ⟨u7,rfl,hu7,hm7⟩
     clear hs
     by_cases hst:DK.stopped (wrTo n (DK.sync (DK.step d')) ((t:Int) % 2) (hbs t m))=true
     ·rw [if_pos hst] at hu7 ⊢
      have HE:Hid (LayPost w u n (layR n d t b) (.returned (derrV 8)) w7):=by
       rw [Hid,HL3.out,syR,if_pos hst]
       exact ⟨u7,rfl,hu7,HME.out.trans hm7⟩
      clear hu7 hm7 hst
      go_wp2
      go_ret
      exact HE.out
     ·rw [if_neg hst] at hu7 ⊢
      have HE:Hid (LayPost w u n (layR n d t b) (.returned .nilIface) w7):=by
       rw [Hid,HL3.out,syR,if_neg hst]
       exact ⟨u7,rfl,hu7,HME.out.trans hm7⟩
      clear hu7 hm7 hst
      go_wp2
      go_ret
      exact HE.out
    ·have HE:Hid (LayPost w u n (layR n d t b) (.returned (derrV x)) w6):=by
      rw [Hid,HL2.out,layH,hwe]
      exact ⟨u6,rfl,HU6.out,HME.out⟩
     rw [optErr_some]
     clear hwe HL2
     go_wp2
     go_ret
     exact HE.out
  ·have h0':(0:Int) < (m':Int):=by omega
   obtain ⟨⟨f,d',b',u',hlw,hbl,hmf,hD,hMv,hB,hBf,hdw,hi0,hi1⟩,hbox⟩:=hR.out
   have HLW:=Lib.hid hlw
   have HBL:=Lib.hid hbl
   have HD:=Lib.hid hD
   have HMv:=Lib.hid hMv
   have HB:=Lib.hid hB
   have HBF:=Lib.hid hBf
   have HBX:=Lib.hid hbox
   have HG:=Lib.hid hMv.1
   have HSr:Hid (Blk wr g 116 cs):=HS.out.chg hMv.2.1 (HH.out.notyp HS.out (by decide))
   have cS:wr.cell? ⟨g,0,none⟩=some (.pointer (some ⟨u.g,0,none⟩)):=by rw [HSr.out.cell];exact HC.out
   obtain ⟨bg,bo,rfl⟩:=bytes_form hB (by omega)
   obtain ⟨f1,rfl⟩:∃ f1,f=f1+1:=⟨f - 1,by omega⟩
   clear hlw hbl hD hMv hB hBf hbox
   have hBw:Hid (BytesAt wr (some ⟨bg,bo,none⟩) (b'.take 32)):=(HB.out.chg HMv.out.2.1 (fun hne x hx=>(HBF.out hne x hx).1)).take 32
   have hnu:Hid (b'.take 32≠[]→∀ x,some (⟨bg,bo,none⟩:Addr)=some x→x.block≠u'.g):=fun hne x hx=>by
    have hne':b'≠[]:=fun h=>hne (by rw [h];rfl)
    have:=(HBF.out hne' x hx).1
    rw [HG.out]
    exact fun h=>this (.inl h)
   have hk:∃ k:Nat,((m'≤32∧k=m')∨(32 < m'∧k=32))∧Hid ((b'.take 32).length=k):=by
    by_cases c32:m'≤32
    ·exact ⟨m',.inl ⟨c32,rfl⟩,by rw [Hid,List.length_take,HBL.out];omega⟩
    ·exact ⟨32,.inr ⟨by omega,rfl⟩,by rw [Hid,List.length_take,HBL.out];omega⟩
   obtain ⟨k,hkc,HLK⟩:=hk
   clear hR HR0
   have hkc2:(k:Int)≤(c':Int):=by omega
   have hkc3:32 < m'→(32:Int)≤(c':Int):=by omega
   rcases hkc with ⟨hk,rfl⟩ | ⟨hk,rfl⟩
   ·clear hkc3
    go_wp2_with fail
    go_region_held3 (fun w'=>w'.cell? ⟨g,0,none⟩=some (.pointer (some ⟨u.g,0,none⟩))) (go_keep)
     ((go_at_call 60;have hdw2:=dwrite_any wr.drew u' n d' (HD.out.ext (Ext.drew wr)) i (some ⟨bg,bo,none⟩) _ c' (b'.take 32) HLK.out (by omega) (hBw.out.ext (Ext.drew wr)) hnu.out;rw [HG.out] at hdw2;refine hdw2.mono ?_;rintro e w5 ⟨u5,rfl,hu5,hm5⟩;clear hdw2;have HM5:Hid (DMoved wr u' u5 w5):=⟨hm5.1,hm5.2.1.undrew,hm5.2.2⟩;have HU5:=Lib.hid hu5;clear hu5 hm5;have HS5:Hid (Blk w5 g 116 cs):=HSr.out.chg HM5.out.2.1 (HD.out.notyp HSr.out (by decide));have y0:w5.cell? ⟨g,0,none⟩=some (.pointer (some ⟨u.g,0,none⟩)):=by rw [HS5.out.cell];exact HC.out))
    rcases hwe:wrErr n d' i (b'.take 32) with _ | x
    ·have HN:Hid (layW n 30 d (2+(t:Int) % 2 * 30) b=layW n f1 (wrTo n d' i (b'.take 32)) (i+1) (b'.drop 32)):=by rw [Hid,HLW.out];exact layW_none (by rw [HBL.out];exact h0) hwe
     rw [optErr_none]
     clear hwe HLW
     have HLR:∀ A2,Hid (LyR w u n d (2+(t:Int) % 2 * 30) b w.heap.size #[.int .i64 t,.int .i64 m] A2 0 (i+1) w5):=fun A2=>
      ⟨⟨f1,_,b'.drop 32,u5,HN.out,by rw [List.length_drop,HBL.out];omega,by omega,HU5.out,HMv.out.trans HM5.out,.inl (List.drop_eq_nil_of_le (by rw [HBL.out];exact hk)),fun hne=>(hne (List.drop_eq_nil_of_le (by rw [HBL.out];exact hk))).elim,by have:=wrTo_ws n d' i (b'.take 32);omega,by omega,by omega⟩,HBX.out.chg HM5.out.2.1 (HD.out.notyp HBX.out (by decide))⟩
     go_wp2
     exact ⟨⟨_,_,_,_,rfl,rfl,by omega,by omega,HLR _⟩,by simp;omega⟩
    ·rw [optErr_some]
     have HE:Hid (LayPost w u n (layR n d t b) (.returned (derrV x)) w5):=by
      have h1:layW n 30 d (2+(t:Int) % 2 * 30) b=(some x,wrTo n d' i (b'.take 32)):=by rw [HLW.out];exact layW_some (by rw [HBL.out];exact h0) hwe
      have h2:layR n d t b=(some x,wrTo n d' i (b'.take 32)):=by rw [layR_some (by rw [h1]),h1]
      rw [Hid,h2]
      exact ⟨u5,rfl,HU5.out,HMv.out.trans HM5.out⟩
     clear hwe HLW
     go_wp2
     go_ret
     exact HE.out
   ·replace hkc3:=hkc3 hk
    clear hkc2
    go_wp2_with fail
    go_region_held3 (fun w'=>w'.cell? ⟨g,0,none⟩=some (.pointer (some ⟨u.g,0,none⟩))) (go_keep)
     ((go_at_call 60;have hdw2:=dwrite_any wr.drew u' n d' (HD.out.ext (Ext.drew wr)) i (some ⟨bg,bo,none⟩) _ c' (b'.take 32) HLK.out (by omega) (hBw.out.ext (Ext.drew wr)) hnu.out;rw [HG.out] at hdw2;refine hdw2.mono ?_;rintro e w5 ⟨u5,rfl,hu5,hm5⟩;clear hdw2;have HM5:Hid (DMoved wr u' u5 w5):=⟨hm5.1,hm5.2.1.undrew,hm5.2.2⟩;have HU5:=Lib.hid hu5;clear hu5 hm5;have HS5:Hid (Blk w5 g 116 cs):=HSr.out.chg HM5.out.2.1 (HD.out.notyp HSr.out (by decide));have y0:w5.cell? ⟨g,0,none⟩=some (.pointer (some ⟨u.g,0,none⟩)):=by rw [HS5.out.cell];exact HC.out))
    rcases hwe:wrErr n d' i (b'.take 32) with _ | x
    ·have HN:Hid (layW n 30 d (2+(t:Int) % 2 * 30) b=layW n f1 (wrTo n d' i (b'.take 32)) (i+1) (b'.drop 32)):=by rw [Hid,HLW.out];exact layW_none (by rw [HBL.out];exact h0) hwe
     rw [optErr_none]
     clear hwe HLW
     have HLR:Hid (LyR w u n d (2+(t:Int) % 2 * 30) b w.heap.size #[.int .i64 t,.int .i64 m] (some ⟨bg,bo+32,none⟩) (m' - 32) (i+1) w5):=
      ⟨⟨f1,_,b'.drop 32,u5,HN.out,by rw [List.length_drop,HBL.out],by omega,HU5.out,HMv.out.trans HM5.out,HB.out.drop 32,fun hne x hx=>by
       have hne':b'≠[]:=fun h=>hne (by rw [h];rfl)
       have:=HBF.out hne' _ rfl
       injection hx with hx;subst hx;exact this,by have:=wrTo_ws n d' i (b'.take 32);omega,by omega,by omega⟩,HBX.out.chg HM5.out.2.1 (HD.out.notyp HBX.out (by decide))⟩
     go_wp2
     exact ⟨⟨_,_,_,_,rfl,rfl,by omega,by omega,HLR⟩,by simp;omega⟩
    ·rw [optErr_some]
     have HE:Hid (LayPost w u n (layR n d t b) (.returned (derrV x)) w5):=by
      have h1:layW n 30 d (2+(t:Int) % 2 * 30) b=(some x,wrTo n d' i (b'.take 32)):=by rw [HLW.out];exact layW_some (by rw [HBL.out];exact h0) hwe
      have h2:layR n d t b=(some x,wrTo n d' i (b'.take 32)):=by rw [layR_some (by rw [h1]),h1]
      rw [Hid,h2]
      exact ⟨u5,rfl,HU5.out,HMv.out.trans HM5.out⟩
     clear hwe HLW
     go_wp2
     go_ret
     exact HE.out
set_option maxRecDepth 100000 in
theorem bclone_none (w:World) (c:Nat):Calls Tryz.prog 66 #[.slice none 0 c] w (BRow w []):=by
 have u48:=fun (w:World) (a:Option Addr) (n c n' c':Nat)=>Lib.run_eql_slice_nil (P:=Tryz.prog) w 38 5 a n c n' c' Tryz.underlying38
 go_enter Tryz.func66,Tryz.ntmps66
 go_wp2
 go_ret
 exact ⟨_,rfl,World.ownsRow_nil _ _ _ _,Ext.refl w,fun k hk=>by simp [Value.ownBlock] at hk⟩
theorem bclone_bytes (w:World) (A:Option Addr) (m c:Nat) (b:List Int) (hm:b.length=m) (hn:m≤100000) (h:BytesAt w A b):Calls Tryz.prog 66 #[.slice A m c] w (BRow w b):=by
 rcases A with _ | ad
 ·rcases h with rfl | ⟨g,o,h,_⟩
  ·simp at hm;subst hm;exact bclone_none w c
  ·simp at h
 ·refine bclone_row w ad m c b hm hn (fun j u hj=>?_)
  rcases h with rfl | ⟨g,o,h,hl,hx⟩
  ·simp [DK.pgv] at hj
  ·injection h with h;subst h
   simp only [DK.pgv,List.getElem?_map,Option.map_eq_some_iff] at hj
   obtain ⟨y,hy,rfl⟩:=hj
   rw [Addr.add_mid,((Ext.alloc w _).cell (p:=⟨g,o+j,none⟩) hl)]
   exact hx j y hy
theorem DAt.notown {w:World} {u:Dsk} {n:Nat} {d:DK.D} (h:DAt w u n d) {v:Value} {m:Nat} {xs:List Value} (hv:w.ownsRow 0 5 1 v m xs):∀ k,v.ownBlock=some k→¬ u.fp k:=fun k hk=>by
 rcases hv.2 with ⟨rfl,_⟩ | ⟨g,cap,cur,rfl,_,hg,_⟩
 ·simp [Value.ownBlock] at hk
 ·simp [Value.ownBlock] at hk;subst hk
  exact h.notyp (cs:=cur) hg (by decide)
theorem SoAt.apart {w:World} {g gd:Nat} {t:Int} {v:Value} {down:Bool} {p:List Int} (h:SoAt w g gd t v down p):v.ownBlock≠some g:=own_ne h.row h.blk (by decide)
theorem SoAt.setDown {w:World} {g gd:Nat} {t:Int} {v:Value} {down:Bool} {p:List Int} (h:SoAt w g gd t v down p) (x:Bool):SoAt (w.setCell ⟨g,4,none⟩ (.bool x)) g gd t v x p:=
 ⟨by simpa using h.blk.set_ 4 (.bool x),own_far h.row h.apart _⟩
theorem SoAt.setAll {w:World} {g gd:Nat} {t:Int} {v:Value} {p:List Int} (h:SoAt w g gd t v false p) {t':Int} {v':Value} {b:List Int} {m:Nat} (hm:b.length=m) (hv:w.ownsRow 0 5 1 v' b.length (DK.pgv b)) (hn:v'.ownBlock≠some g):
  SoAt (((w.setCell ⟨g,1,none⟩ (.int .i64 t')).setCell ⟨g,2,none⟩ (.int .i64 m)).setCell ⟨g,3,none⟩ v') g gd t' v' false b:=by
 subst hm
 exact ⟨by simpa using ((h.blk.set_ 1 (.int .i64 t')).set_ 2 (.int .i64 b.length)).set_ 3 v',own_far (own_far (own_far hv hn _) hn _) hn _⟩
theorem own_is_slice {w:World} {base:Nat} {e:TypeId} {size:Nat} {v:Value} {n:Nat} {xs:List Value} (h:w.ownsRow base e size v n xs):∃ a l c,v=.slice a l c:=by
 rcases h.2 with ⟨rfl,_⟩ | ⟨g,cap,cur,rfl,_⟩
 ·exact ⟨_,_,_,rfl⟩
 ·exact ⟨_,_,_,rfl⟩
theorem callsClone (w:World) (vs:Array Value):(callFunc 66 vs).run Tryz.prog w=.ok (.enter 66 vs) w:=by
 have h1:(Tryz.f66.name == "runtime.NumGoroutine")=false:=by kernel_rfl
 have h2:Tryz.f66.body.isNone=false:=by kernel_rfl
 have h3:¬ Tryz.f66.body=none:=by intro h;rw [h] at h2;cases h2
 have h4:¬ Tryz.f66.name= "runtime.NumGoroutine" := by simpa using h1
 simp [callFunc,Tryz.func66,h3,h4]
def SavePost (w:World) (u:Dsk) (n:Nat) (g:Nat) (t:Nat) (v:Value) (p b:List Int) (r:Option Int × DK.D) (e:Ending) (w':World):Prop:=
 ∃ u' v',e=.returned (optErr r.1)∧DAt w' u' n r.2∧u'.g=u.g∧Chg (fun k=>u.fp k∨k=g) w w'∧(∀ k,u'.fp k→u.fp k∨w.heap.size≤k)∧
  (match r.1 with | some _=>SoAt w' g u.g t v true p | none=>SoAt w' g u.g ((t:Int)+1) v' false b∧∀ k,v'.ownBlock=some k→w.heap.size≤k)
set_option maxRecDepth 100000 in
theorem save_any (w:World) (u:Dsk) (n:Nat) (d:DK.D) (h:DAt w u n d) (g:Nat) (t:Nat) (v:Value) (p:List Int) (hS:SoAt w g u.g t v false p) (ht:t≤790) (A:Option Addr) (m c:Nat) (b:List Int) (hm:b.length=m) (hm2:m≤960) (hmc:m≤c) (hcm:c≤maxLen)
  (hA:BytesAt w A b) (hAb:b≠[]→∀ x,A=some x→¬ u.fp x.block∧x.block≠g) (hws:d.ws.length≤900):
  Calls Tryz.prog 19 #[.pointer (some ⟨g,0,none⟩),.slice A m c] w (SavePost w u n g t v p b (layR n d ((t:Int)+1) b)):=by
 have HH:=Lib.hid h
 have HS:=Lib.hid hS
 have HA:=Lib.hid hA
 have HAB:=Lib.hid hAb
 have HM:=Lib.hid hm
 have HWS:=Lib.hid hws
 have HCM:=Lib.hid hcm
 have h1:¬ (960:Int) < (m:Int):=by omega
 have c1:w.cell? ⟨g,1,none⟩=some (.int .i64 t):=hS.blk.cell 1
 have c4:w.cell? ⟨g,4,none⟩=some (.bool false):=hS.blk.cell 4
 have HT1:Hid (((t+1:Nat):Int)=(t:Int)+1):=by unfold Hid;omega
 clear h hS hA hAb hm hws hcm
 go_enter Tryz.func19,Tryz.ntmps19
 go_wp2_with fail
 have HE1:Hid (Ext w (w.alloc (.cells #[.int .i64 ((t:Int)+1),.int .i64 m] 110))):=Ext.alloc _ _
 have HB1:Hid (Blk (w.alloc (.cells #[.int .i64 ((t:Int)+1),.int .i64 m] 110)) w.heap.size 110 #[.int .i64 ((t:Int)+1),.int .i64 m]):=Blk.new _ _ _
 generalize hw1:w.alloc (.cells #[.int .i64 ((t:Int)+1),.int .i64 m] 110)=w1 at HE1 HB1 ⊢
 clear hw1
 have HS1:=Lib.hid (HS.out.ext HE1.out)
 have HD1:=Lib.hid (HH.out.ext HE1.out)
 have hl:=lay_any w1 u n d HD1.out g _ HS1.out.blk rfl (t+1) (by omega) A m c b HM.out hm2 hmc HCM.out (HA.out.ext HE1.out) (fun hne x hx=>(HAB.out hne x hx).1) HWS.out
 rw [HT1.out] at hl
 refine hl.mono ?_
 clear hl
 rintro e w2 ⟨u2,rfl,hu2,hm2⟩
 have HD2:=Lib.hid hu2
 have HM2:=Lib.hid hm2
 have HNF:Hid (¬ u.fp g):=HD1.out.notyp HS1.out.blk (by decide)
 have HNV:Hid (∀ k,v.ownBlock=some k→¬ u.fp k):=HD1.out.notown HS1.out.row
 have HS2:Hid (SoAt w2 g u.g t v false p):=HS1.out.chg HM2.out.2.1 HNF.out HNV.out
 clear hu2 hm2
 rcases hr:(layR n d ((t:Int)+1) b).1 with _ | x
 ·rw [optErr_none]
  have HB2:Hid (Blk w2 w.heap.size 110 #[.int .i64 ((t:Int)+1),.int .i64 m]):=HB1.out.chg HM2.out.2.1 (HD1.out.notyp HB1.out (by decide))
  have HA2:Hid (BytesAt w2 A b):=(HA.out.ext HE1.out).chg HM2.out.2.1 (fun hne x hx=>(HAB.out hne x hx).1)
  have x0:w2.cell? ⟨w.heap.size,0,none⟩=some (.int .i64 ((t:Int)+1)):=HB2.out.cell 0
  have x1:w2.cell? ⟨w.heap.size,1,none⟩=some (.int .i64 m):=HB2.out.cell 1
  have f1:w2.cell? ⟨g,1,none⟩=some (.int .i64 t):=HS2.out.blk.cell 1
  have f2:w2.cell? ⟨g,2,none⟩=some (.int .i64 (p.length:Int)):=HS2.out.blk.cell 2
  have f3:w2.cell? ⟨g,3,none⟩=some v:=HS2.out.blk.cell 3
  have g1:=HS2.out.blk.frozen 1
  have g2:=HS2.out.blk.frozen 2
  have g3:=HS2.out.blk.frozen 3
  have HR:=Lib.hid hr
  clear hr c1 c4
  go_wp2_with fail
  go_region_law (first
   | (refine step_call (by rfl) 66 _ _ (by rfl) #[.slice A m c] (by simp;rfl) (callsClone _ _) (bclone_bytes _ A m c b HM.out (by omega) HA2.out) ?_;rintro e w3 ⟨v3,rfl,hrow,hext,hnew⟩;obtain ⟨a3,l3,c3,rfl⟩:=own_is_slice hrow;refine ⟨_,rfl,?_⟩;have HE3:Hid (Ext w2 w3):=(Ext.drew w2).trans hext;have HR3:=Lib.hid hrow;have HN3:Hid (∀ k,(Value.slice a3 l3 c3).ownBlock=some k→w2.heap.size≤k):=hnew;clear hrow hext hnew;have HS3:=Lib.hid (HS2.out.ext HE3.out);have HB3:Hid (Blk w3 w.heap.size 110 #[.int .i64 ((t:Int)+1),.int .i64 m]):=HB2.out.chg (Chg.of_below HE3.out) (by have:=HB2.out.lt;omega);have y0:w3.cell? ⟨w.heap.size,0,none⟩=some (.int .i64 ((t:Int)+1)):=HB3.out.cell 0;have y1:w3.cell? ⟨w.heap.size,1,none⟩=some (.int .i64 m):=HB3.out.cell 1;have q1:w3.cell? ⟨g,1,none⟩=some (.int .i64 t):=HS3.out.blk.cell 1;have q2:w3.cell? ⟨g,2,none⟩=some (.int .i64 (p.length:Int)):=HS3.out.blk.cell 2;have q3:w3.cell? ⟨g,3,none⟩=some v:=HS3.out.blk.cell 3;have r1:=HS3.out.blk.frozen 1;have r2:=HS3.out.blk.frozen 2;have r3:=HS3.out.blk.frozen 3))
  all_goals
   have HE:Hid (SavePost w u n g t v p b (layR n d ((t:Int)+1) b) (.returned .nilIface) (((w3.setCell ⟨g,1,none⟩ (.int .i64 ((t:Int)+1))).setCell ⟨g,2,none⟩ (.int .i64 m)).setCell ⟨g,3,none⟩ (.slice a3 l3 c3))):=by
    have hng:(Value.slice a3 l3 c3).ownBlock≠some g:=fun hk=>by
     have h1:=HN3.out g hk
     have h2:=HS2.out.blk.lt
     omega
    have hch:Chg (fun k=>k=g) w3 (((w3.setCell ⟨g,1,none⟩ (.int .i64 ((t:Int)+1))).setCell ⟨g,2,none⟩ (.int .i64 m)).setCell ⟨g,3,none⟩ (.slice a3 l3 c3)):=
     ((chg_cell w3 g 1 _).setCell (p:=⟨g,2,none⟩) (fun _=>rfl) _).setCell (p:=⟨g,3,none⟩) (fun _=>rfl) _
    have hd3:=HD2.out.ext HE3.out
    have hsz:w.heap.size≤w2.heap.size:=by have h1:=HE1.out.size;have h2:=HM2.out.2.1.size;omega
    refine ⟨u2,_,by rw [HR.out];rfl,hd3.chg hch (fun k hk hg=>?_),HM2.out.1,?_,fun k hk=>?_,by rw [HR.out];exact ⟨HS3.out.setAll HM.out HR3.out hng,fun k hk=>Nat.le_trans hsz (HN3.out k hk)⟩⟩
    ·subst hg
     exact hd3.notyp HS3.out.blk (by decide) hk
    ·exact ((((Chg.new HE1.out _).trans (S:=fun k=>u.fp k∨k=g) HM2.out.2.1 (fun k _ hk=>.inl hk)).trans (Chg.new HE3.out (fun _=>False)) (fun _ _ h=>h.elim)).trans hch (fun k _ hk=>.inr hk))
    ·rcases HM2.out.2.2 k hk with h | h
     ·exact .inl h
     ·right;have:=HE1.out.size;omega
   clear HR x0 x1 f1 f2 f3 g1 g2 g3 y0 y1 q1 q2 q3 r1 r2 r3
   go_wp2
   go_ret
   exact HE.out
 ·rw [optErr_some]
  have c4':w2.cell? ⟨g,4,none⟩=some (.bool false):=HS2.out.blk.cell 4
  have f4:=HS2.out.blk.frozen 4
  have HE:Hid (SavePost w u n g t v p b (layR n d ((t:Int)+1) b) (.returned (derrV x)) (w2.setCell ⟨g,4,none⟩ (.bool true))):=by
   refine ⟨u2,v,by rw [hr];rfl,HD2.out.chg (chg_cell w2 g 4 _) (fun k hk hg=>?_),HM2.out.1,?_,fun k hk=>?_,by rw [hr];exact HS2.out.setDown true⟩
   ·subst hg
    exact HD2.out.notyp HS2.out.blk (by decide) hk
   ·exact (((Chg.new HE1.out _).trans (S:=fun k=>u.fp k∨k=g) HM2.out.2.1 (fun k _ hk=>.inl hk)).trans (chg_cell w2 g 4 _) (fun k _ hk=>.inr hk))
   ·rcases HM2.out.2.2 k hk with h | h
    ·exact .inl h
    ·right;have:=HE1.out.size;omega
  clear hr c1 c4
  go_wp2
  go_ret
  exact HE.out
def HeadAt (d:DK.D) (i:Nat) (t l:Int):Prop:=(d.now[i]?=some (DK.put (hbs t l))∧0≤t∧t≤800∧0≤l∧l≤960∧t % 2=(i:Int))∨(d.now[i]?=some DK.zero∧t=-1∧l=0)
theorem readat_any (w:World) (u:Dsk) (n:Nat) (d:DK.D) (h:DAt w u n d) (i:Nat) (t l:Int) (hp:HeadAt d i t l):
  Calls Tryz.prog 62 #[.pointer (some ⟨u.g,0,none⟩),.int .i64 i] w (ReadHead w t l):=by
 rcases hp with ⟨h1,h2,h3,h4,h5,h6⟩ | ⟨h1,rfl,rfl⟩
 ·exact readhead_any w u n d h i t l h2 h3 h4 h5 h6 h1
 ·exact readzero_any w u n d h i h1
def bestH (T L:Nat→Int):Nat→Int × Int
 | 0=>(-1,0)
 | i+1=>if (bestH T L i).1 < T i then (T i,L i) else bestH T L i
theorem best_yes {T L:Nat→Int} {i:Nat} (h:(bestH T L i).1 < T i):bestH T L (i+1)=(T i,L i):=by simp [bestH,h]
theorem best_no {T L:Nat→Int} {i:Nat} (h:¬ (bestH T L i).1 < T i):bestH T L (i+1)=bestH T L i:=by simp [bestH,h]
theorem step_append_bytes {P:Program} (w:World) {ops:Array Oper} {o:Oper} {a:Act} {K:Act→World→Prop} {Q:Exit→Act→World→Prop} {E:Prop} (hgd:o.guard=none) (s x:Operand) (t:TypeId)
  (ho:o.op=.call { callee:=.builtin .append,args:=#[s,x],argTypes:=#[t,t] })
  (e:TypeId) (z:Value) (bytes:Nat) (ht:P.underlying t=some (.slice e)) (hinfo:(P.info? e).map (fun i=>(i.zero,i.size,i.bytes))=some (some z,1,bytes)) (hzs:z.cells.size=1)
  (v:Value) (n:Nat) (xs:List Value) (hs:a.eval s=v) (hown:w.ownsRow 0 e 1 v n xs) (ad:Addr) (m c:Nat) (news:List Value) (hx:a.eval x=.slice (some ad) m c) (hl:news.length=m) (hnews:∀ j u,news[j]?=some u→w.cell? (ad.add j)=some u) (h1:∀ u∈news,u.oneCell'=true) (hm:0 < m) (hsm:n+m≤1000000∧bytes≤1000)
  (h:∀ g c w',w'.ownsRow 0 e 1 (.slice (some ⟨g,0,none⟩) (n+m) c) (n+m) (xs++news)→Chg (fun k=>v.ownBlock=some k) w w'→(v.ownBlock=some g∨g=w.heap.size)→K (a.put o.dst (.slice (some ⟨g,0,none⟩) (n+m) c)) w'):
  if Region.wanted o (yielded ops a.tmps)=true then Oper.wp P o a w K Q else E:=by
 obtain ⟨i,hi,hz0,hz1,hz2⟩:=info_parts hinfo
 have hmul:(n+m) * bytes≤140737488355328:=Nat.le_trans (Nat.mul_le_mul hsm.1 hsm.2) (by decide)
 refine step_append_lies w hgd s x t ho 0 e i z 1 bytes ht hi hz0 hz1 hz2 hzs (by omega) v n xs hs hown ad m c news hx (by omega) hnews h1 hm (by unfold maxLen;omega) hmul (Nat.zero_le _) w.heap.size rfl ?_
 intro g c w' hown' hgr hat _
 exact h g c w' hown' ((Chg.of_grown hgr).mono (fun k _ hk=>hk.symm)) hat
theorem put_get {b:List Int} (h:b.length≤32) {j:Nat} {v:Int} (hv:b[j]?=some v):(DK.put b)[j]?=some v:=by
 have hj:j < b.length:=(List.getElem?_eq_some_iff.1 hv).1
 unfold DK.put
 rw [splice_get (by simpa [DK.zero] using h),if_pos ⟨Nat.zero_le _,by omega⟩]
 exact hv
theorem page_cells {w:World} {bg bc:Nat} {p:List Int} (h:w.ownsRow 0 5 1 (.slice (some ⟨bg,0,none⟩) 32 bc) 32 (DK.pgv (DK.put p))) (hp:p.length≤32):∀ j u,(DK.pgv p)[j]?=some u→w.cell? ((⟨bg,0,none⟩:Addr).add j)=some u:=fun j u hj=>by
 simp only [DK.pgv,List.getElem?_map,Option.map_eq_some_iff] at hj
 obtain ⟨y,hy,rfl⟩:=hj
 have hjl:j < p.length:=(List.getElem?_eq_some_iff.1 hy).1
 rw [Addr.add_mid,Nat.zero_add,h.cellAt j (by omega),DK.pgv,List.getElem?_map,put_get hp hy];rfl
theorem pgv_next (b:List Int) (i:Nat):DK.pgv (b.take (32 * i))++DK.pgv ((b.drop (32 * i)).take 32)=DK.pgv (b.take (32 * (i+1))):=by
 rw [show 32 * (i+1)=32 * i+32 by omega,List.take_add,DK.pgv,DK.pgv,DK.pgv,List.map_append]
def OpenPost (w:World) (u:Dsk) (t:Nat) (b:List Int) (e:Ending) (w':World):Prop:=∃ g v,e=.returned (.tuple #[.pointer (some ⟨g,0,none⟩),.nilIface])∧SoAt w' g u.g t v false b∧Ext w w'∧w.heap.size≤g∧∀ k,v.ownBlock=some k→w.heap.size≤k
def OpR (w:World) (gb:Nat) (bt bl:Int) (wr:World):Prop:=Ext w wr∧Blk wr gb 110 #[.int .i64 bt,.int .i64 bl]
def OpS (w:World) (u:Dsk) (gb gs:Nat) (t l:Nat) (b:List Int) (i:Nat) (wr:World):Prop:=OpR w gb t l wr∧∃ v,Blk wr gs 116 #[.pointer (some ⟨u.g,0,none⟩),.int .i64 t,.int .i64 l,v,.bool false]∧wr.ownsRow 0 5 1 v (b.take (32 * i)).length (DK.pgv (b.take (32 * i)))∧(∀ k,v.ownBlock=some k→w.heap.size≤k)
theorem OpS.next {w w1 w2:World} {u:Dsk} {gb gs t l i g2 c2 K q:Nat} {b:List Int} {v:Value} (hE:Ext w w1) (hge:w.heap.size≤gs) (hbk:Blk w1 gb 110 #[.int .i64 t,.int .i64 l]) (hbs:Blk w1 gs 116 #[.pointer (some ⟨u.g,0,none⟩),.int .i64 t,.int .i64 l,v,.bool false])
  (hv:∀ k,v.ownBlock=some k→w.heap.size≤k) (hrow1:w1.ownsRow 0 5 1 v q (DK.pgv (b.take (32 * i)))) (hq:(b.take (32 * i)).length=q) (hK:((b.drop (32 * i)).take 32).length=K)
  (hrow:w2.ownsRow 0 5 1 (.slice (some ⟨g2,0,none⟩) (q+K) c2) (q+K) (DK.pgv (b.take (32 * i))++DK.pgv ((b.drop (32 * i)).take 32))) (hc:Chg (fun k=>v.ownBlock=some k) w1 w2) (hat:v.ownBlock=some g2∨g2=w1.heap.size):
  w2.cell? ⟨gs,3,none⟩=some v∧w2.frozen? ⟨gs,3,none⟩=false∧Hid (OpS w u gb gs t l b (i+1) (w2.setCell ⟨gs,3,none⟩ (.slice (some ⟨g2,0,none⟩) (q+K) c2))):=by
 have h1:v.ownBlock≠some gs:=own_ne hrow1 hbs (by decide)
 have h2:v.ownBlock≠some gb:=own_ne hrow1 hbk (by decide)
 have b2:=hbs.chg hc h1
 have e1:(b.take (32 * (i+1))).length=q+K:=by
  rw [show 32 * (i+1)=32 * i+32 by omega,List.take_add,List.length_append,hK,hq]
 have e2:(Value.slice (some (⟨g2,0,none⟩:Addr)) (q+K) c2).ownBlock=some g2:=rfl
 have hg2:g2≠gs:=fun h=>own_ne hrow b2 (by decide) (by rw [e2,h])
 have hw:w.heap.size≤g2:=by
  rcases hat with h | h
  ·exact hv _ h
  ·have:=hE.size;omega
 refine ⟨b2.cell 3,b2.frozen 3,⟨⟨?_,(hbk.chg hc h2).far (by have:=hbk.ne_ hbs (by decide);simpa using this) _⟩,_,b2.set_ 3 (.slice (some ⟨g2,0,none⟩) (q+K) c2),?_,fun k hk=>by injection (show some g2=some k from hk) with hk;omega⟩⟩
 ·exact (((Chg.of_below hE).trans hc (fun k _ hk=>hv k hk)).setCell (p:=⟨gs,3,none⟩) (fun _=>hge) _).below (Nat.le_refl _) (fun _ _ h=>h)
 ·rw [pgv_next] at hrow
  rw [e1]
  exact own_far hrow (p:=⟨gs,3,none⟩) (by rw [e2];simpa using hg2) _
def HeadP (ps:List DK.Pg) (i:Nat) (t l:Int):Prop:=(ps[i]?=some (DK.put (hbs t l))∧0≤t∧t≤800∧0≤l∧l≤960∧t % 2=(i:Int))∨(ps[i]?=some DK.zero∧t=-1∧l=0)
def chunk (b:List Int) (i:Nat):List Int:=(b.drop (32 * i)).take 32
structure GoodP (n:Nat) (ps:List DK.Pg) (t:Nat) (b:List Int):Prop where
 ln:ps.length=n
 tl:t≤790
 bl:b.length≤960
 hd:ps[t % 2]?=some (DK.put (hbs t b.length))
 ot:∃ t' l',HeadP ps ((t+1) % 2) t' l'∧t' < t
 dat:∀ i,32 * i < b.length→ps[2+t % 2 * 30+i]?=some (DK.put (chunk b i))
structure Good (n:Nat) (d:DK.D) (t:Nat) (b:List Int):Prop where
 ps:GoodP n d.now t b
 dn:d.down=false
 ws:d.ws=[]
 kn:d.kept=d.now
def inP (t k:Nat):Prop:=2+(t+1) % 2 * 30≤k∧k < 32+(t+1) % 2 * 30
theorem GoodP.off {n:Nat} {ps qs:List DK.Pg} {t:Nat} {b:List Int} (h:GoodP n ps t b) (hl:qs.length=n) (ho:∀ k,¬ inP t k→qs[k]?=ps[k]?):GoodP n qs t b:=by
 refine ⟨hl,h.tl,h.bl,?_,?_,fun i hi=>?_⟩
 ·rw [ho _ (by unfold inP;omega)];exact h.hd
 ·obtain ⟨t',l',h1,h2⟩:=h.ot
  refine ⟨t',l',?_,h2⟩
  unfold HeadP at h1 ⊢
  rw [ho _ (by unfold inP;omega)];exact h1
 ·rw [ho _ (by unfold inP;have:=h.bl;omega)];exact h.dat i hi
theorem GoodP.next {n:Nat} {ps:List DK.Pg} {t:Nat} {b c:List Int} (hn:62≤n) (h:GoodP n ps t b) (ht:t+1≤790) (hc:c.length≤960) (hd:∀ i,32 * i < c.length→ps[2+(t+1) % 2 * 30+i]?=some (DK.put (chunk c i))):
  GoodP n (ps.set ((t+1) % 2) (DK.put (hbs ((t+1:Nat):Int) c.length))) (t+1) c:=by
 have hl:(t+1) % 2 < ps.length:=by rw [h.ln];omega
 refine ⟨by simpa using h.ln,ht,hc,by rw [List.getElem?_set_self hl],⟨t,b.length,.inl ⟨?_,by omega,by have:=h.tl;omega,by omega,by have:=h.bl;omega,by omega⟩,by omega⟩,fun i hi=>?_⟩
 ·rw [List.getElem?_set_ne (by omega),show (t+1+1) % 2=t % 2 by omega];exact h.hd
 ·rw [List.getElem?_set_ne (by omega)];exact hd i hi
theorem wr_fine {n:Nat} {d:DK.D} {i:Nat} {b:List Int} (hi:i < n) (hb:b.length≤32) (hs:DK.stopped d=false):wrErr n d i b=none∧wrTo n d i b=DK.write (DK.step d) i b:=by
 have h1:¬ ((i:Int) < 0∨(n:Int)≤i):=by omega
 have h2:¬ 32 < b.length:=by omega
 unfold wrErr wrTo
 rw [if_neg h1,if_neg h2,hs,if_neg h1,if_neg h2]
 exact ⟨rfl,rfl⟩
theorem wr_stop {n:Nat} {d:DK.D} {i:Nat} {b:List Int} (hi:i < n) (hb:b.length≤32) (hs:DK.stopped d=true):wrErr n d i b=some 8∧wrTo n d i b=DK.step d:=by
 have h1:¬ ((i:Int) < 0∨(n:Int)≤i):=by omega
 have h2:¬ 32 < b.length:=by omega
 unfold wrErr wrTo
 rw [if_neg h1,if_neg h2,hs,if_neg h1,if_neg h2]
 exact ⟨rfl,rfl⟩
theorem step_run {d:DK.D} (hs:DK.stopped d=false):DK.step d={ d with left:=max (d.left - 1) (-1) }:=by simp [DK.step,hs]
theorem step_stop {d:DK.D} (hs:DK.stopped d=true):DK.step d={ d with down:=true }:=by simp [DK.step,hs]
structure Mid (n t:Nat) (p0:List DK.Pg) (l0:Int) (d:DK.D):Prop where
 kept:d.kept=p0
 lf:l0=-1→d.left=-1
 dn:d.down=false
 ln:d.now.length=n
 off:∀ k,¬ inP t k→d.now[k]?=p0[k]?
 ws:∀ x∈d.ws,inP t x.1
structure Bad (n t:Nat) (p0:List DK.Pg) (d:DK.D):Prop where
 kept:d.kept=p0
 ws:∀ x∈d.ws,inP t x.1
theorem Mid.stop {n t:Nat} {p0:List DK.Pg} {l0:Int} {d:DK.D} (h:Mid n t p0 l0 d) (hs:DK.stopped d=true):l0≠-1∧Bad n t p0 (DK.step d):=by
 rw [step_stop hs]
 refine ⟨fun hl=>?_,h.kept,h.ws⟩
 have:=h.lf hl
 simp [DK.stopped,h.dn,this] at hs
theorem lay_off (keep:List Int) (t:Nat):∀ (ws:List (Nat × DK.Pg)) (i:Nat) (ps:List DK.Pg),(∀ x∈ws,inP t x.1)→(DK.lay keep i ws ps).length=ps.length∧∀ k,¬ inP t k→(DK.lay keep i ws ps)[k]?=ps[k]?
 | [],_,ps,_=>⟨rfl,fun _ _=>rfl⟩
 | x::ws,i,ps,h=>by
  rw [DK.lay]
  obtain ⟨h1,h2⟩:=lay_off keep t ws (i+1) (if decide ((i:Int)∈keep)=true then ps.set x.1 x.2 else ps) (fun y hy=>h y (by simp [hy]))
  refine ⟨?_,fun k hk=>?_⟩
  ·rw [h1];split <;> simp
  ·rw [h2 k hk]
   split
   ·rw [List.getElem?_set_ne]
    rintro rfl
    exact hk (h x (by simp))
   ·rfl
theorem Bad.crash {n t:Nat} {p0:List DK.Pg} {d:DK.D} {b:List Int} (h:Bad n t p0 d) (hg:GoodP n p0 t b) (keep:List Int):Good n (DK.crash d keep) t b:=by
 have:=lay_off keep t d.ws 0 d.kept h.ws
 rw [h.kept] at this
 refine ⟨hg.off ?_ ?_,rfl,rfl,rfl⟩
 ·simp only [DK.crash];rw [h.kept,this.1];exact hg.ln
 ·intro k hk;simp only [DK.crash];rw [h.kept,this.2 k hk]
theorem Mid.write {n t:Nat} {p0:List DK.Pg} {l0:Int} {d:DK.D} (h:Mid n t p0 l0 d) (hs:DK.stopped d=false) {k:Nat} (hk:inP t k) (b:List Int):Mid n t p0 l0 (DK.write (DK.step d) k b):=by
 rw [step_run hs]
 refine ⟨h.kept,fun hl=>by simp [DK.write,h.lf hl];decide,h.dn,by simpa [DK.write] using h.ln,fun j hj=>?_,fun x hx=>?_⟩
 ·simp only [DK.write]
  rw [List.getElem?_set_ne]
  ·exact h.off j hj
  ·rintro rfl;exact hj hk
 ·simp [DK.write] at hx
  rcases hx with hx | rfl
  ·exact h.ws x hx
  ·exact hk
theorem layW_law {n t:Nat} {p0:List DK.Pg} {l0:Int} {c:List Int} (hn:62≤n) (hc:c.length≤960):∀ (f i:Nat) (d:DK.D),f+i=30→Mid n t p0 l0 d→(∀ j,j < i→32 * j < c.length→d.now[2+(t+1) % 2 * 30+j]?=some (DK.put (chunk c j)))→
  (∃ d1,layW n f d ((2+(t+1) % 2 * 30+i:Nat):Int) (c.drop (32 * i))=(none,d1)∧Mid n t p0 l0 d1∧∀ j,32 * j < c.length→d1.now[2+(t+1) % 2 * 30+j]?=some (DK.put (chunk c j)))∨
  (∃ d1,layW n f d ((2+(t+1) % 2 * 30+i:Nat):Int) (c.drop (32 * i))=(some 8,d1)∧l0≠-1∧Bad n t p0 d1)
 | 0,i,d,hf,hm,hd=>.inl ⟨d,rfl,hm,fun j hj=>hd j (by omega) hj⟩
 | f+1,i,d,hf,hm,hd=>by
  by_cases h0:(c.drop (32 * i)).length=0
  ·refine .inl ⟨d,layW_nil h0,hm,fun j hj=>hd j ?_ hj⟩
   rw [List.length_drop] at h0;omega
  ·have hk:inP t (2+(t+1) % 2 * 30+i):=by unfold inP;omega
   have hi:2+(t+1) % 2 * 30+i < n:=by omega
   have hb:((c.drop (32 * i)).take 32).length≤32:=by rw [List.length_take];omega
   cases hs:DK.stopped d
   ·obtain ⟨e1,e2⟩:=wr_fine hi hb hs
    rw [layW_none h0 e1,e2]
    have hm1:=hm.write hs hk ((c.drop (32 * i)).take 32)
    have:=layW_law hn hc f (i+1) _ (by omega) hm1 (fun j hj hjc=>by
     simp only [DK.write,step_run hs]
     by_cases hji:j=i
     ·subst hji
      rw [List.getElem?_set_self (by rw [hm.ln];exact hi)];rfl
     ·rw [List.getElem?_set_ne (by omega)]
      exact hd j (by omega) hjc)
    rw [show ((2+(t+1) % 2 * 30+i:Nat):Int)+1=((2+(t+1) % 2 * 30+(i+1):Nat):Int) by omega,List.drop_drop,show 32 * i+32=32 * (i+1) by omega]
    exact this
   ·obtain ⟨e1,e2⟩:=wr_stop hi hb hs
    rw [layW_some h0 e1,e2]
    obtain ⟨q1,q2⟩:=hm.stop hs
    exact .inr ⟨_,rfl,q1,q2⟩
def SaveOk (n:Nat) (d:DK.D) (t:Nat) (b c:List Int) (r:Option Int × DK.D):Prop:=
 (r.1=none∧Good n r.2 (t+1) c∧(d.left=-1→r.2.left=-1))∨(r.1=some 8∧d.left≠-1∧∀ keep,Good n (DK.crash r.2 keep) t b∨Good n (DK.crash r.2 keep) (t+1) c)
theorem save_law {n:Nat} {d:DK.D} {t:Nat} {b c:List Int} (hn:62≤n) (h:Good n d t b) (ht:t+1≤790) (hc:c.length≤960):SaveOk n d t b c (layR n d ((t:Int)+1) c):=by
 have hm0:Mid n t d.now d.left d:=⟨h.kn,id,h.dn,h.ps.ln,fun _ _=>rfl,by rw [h.ws];simp⟩
 have e0:2+((t:Int)+1) % 2 * 30=((2+(t+1) % 2 * 30+0:Nat):Int):=by omega
 have eT:(t:Int)+1=((t+1:Nat):Int):=by omega
 rcases layW_law hn hc 30 0 d rfl hm0 (fun j hj=>by omega) with ⟨d1,h1,hm,hd⟩ | ⟨d1,h1,hl,hb⟩
 ·rw [Nat.mul_zero,List.drop_zero,←e0] at h1
  rw [layR_none (by rw [h1]),h1]
  show SaveOk n d t b c (layS n d1 ((t:Int)+1) c.length)
  unfold layS syR
  cases hs:DK.stopped d1
  ·rw [if_neg (by simp)]
   show SaveOk n d t b c (layH n (DK.sync (DK.step d1)) ((t:Int)+1) c.length)
   rw [step_run hs]
   obtain ⟨d2,hd2⟩:∃ x,x=DK.sync { d1 with left:=max (d1.left - 1) (-1) }:=⟨_,rfl⟩
   rw [←hd2]
   have k1:d2.now=d1.now:=by rw [hd2];rfl
   have k2:d2.kept=d1.now:=by rw [hd2];rfl
   have k3:d2.ws=[]:=by rw [hd2];rfl
   have k4:d2.down=false:=by rw [hd2];exact hm.dn
   have k5:d.left=-1→d2.left=-1:=fun hl=>by rw [hd2];simp [DK.sync,hm.lf hl];decide
   have hg:GoodP n d1.now t b:=h.ps.off hm.ln hm.off
   have hg2:=hg.next hn ht hc hd
   unfold layH
   have ei:((t:Int)+1) % 2=(((t+1) % 2:Nat):Int):=by omega
   rw [ei,eT]
   have hi:(t+1) % 2 < n:=by omega
   have hb7:(hbs ((t+1:Nat):Int) c.length).length≤32:=by simp [hbs]
   cases hs2:DK.stopped d2
   ·obtain ⟨e1,e2⟩:=wr_fine (d:=d2) hi hb7 hs2
    rw [e1,e2]
    show SaveOk n d t b c (syR _)
    unfold syR
    rw [step_run hs2]
    obtain ⟨d3,hd3⟩:∃ x,x=DK.write { d2 with left:=max (d2.left - 1) (-1) } ((t+1) % 2) (hbs ((t+1:Nat):Int) c.length):=⟨_,rfl⟩
    rw [←hd3]
    have m1:d3.now=d1.now.set ((t+1) % 2) (DK.put (hbs ((t+1:Nat):Int) c.length)):=by rw [hd3,←k1];rfl
    have m2:d3.kept=d1.now:=by rw [hd3];exact k2
    have m3:d3.ws=[((t+1) % 2,DK.put (hbs ((t+1:Nat):Int) c.length))]:=by rw [hd3];simp [DK.write,k3]
    have m4:d3.down=false:=by rw [hd3];exact k4
    have m5:d.left=-1→d3.left=-1:=fun hl=>by rw [hd3];simp [DK.write,k5 hl];decide
    cases hs3:DK.stopped d3
    ·rw [if_neg (by simp),step_run hs3]
     refine .inl ⟨rfl,⟨?_,m4,rfl,rfl⟩,fun hl=>by simp [DK.sync,m5 hl];decide⟩
     show GoodP n d3.now (t+1) c
     rw [m1];exact hg2
    ·rw [if_pos rfl,step_stop hs3]
     refine .inr ⟨rfl,fun hl=>by simp [DK.stopped,m4,m5 hl] at hs3,fun keep=>?_⟩
     have e:(DK.crash { d3 with down:=true } keep).now=if decide (((0:Nat):Int)∈keep)=true then d1.now.set ((t+1) % 2) (DK.put (hbs ((t+1:Nat):Int) c.length)) else d1.now:=by
      simp only [DK.crash,m2,m3,DK.lay]
     by_cases hk:decide (((0:Nat):Int)∈keep)=true
     ·rw [if_pos hk] at e
      exact .inr ⟨by rw [e];exact hg2,rfl,rfl,rfl⟩
     ·rw [if_neg hk] at e
      exact .inl ⟨by rw [e];exact hg,rfl,rfl,rfl⟩
   ·obtain ⟨e1,e2⟩:=wr_stop (d:=d2) hi hb7 hs2
    rw [e1,e2,step_stop hs2]
    refine .inr ⟨rfl,fun hl=>by simp [DK.stopped,k4,k5 hl] at hs2,fun keep=>.inl ⟨?_,rfl,rfl,rfl⟩⟩
    simp only [DK.crash,k2,k3,DK.lay];exact hg
  ·rw [if_pos rfl]
   obtain ⟨q1,q2⟩:=hm.stop hs
   exact .inr ⟨rfl,q1,fun keep=>.inl (q2.crash h.ps keep)⟩
 ·rw [Nat.mul_zero,List.drop_zero,←e0] at h1
  rw [layR_some (by rw [h1]),h1]
  exact .inr ⟨rfl,hl,fun keep=>.inl (hb.crash h.ps keep)⟩
theorem fmt_good {n:Nat} (hn:62≤n):Good n (DK.sync (FmD n 2)) 0 []∧(DK.sync (FmD n 2)).left=-1:=by
 have e1:=wr_fine (n:=n) (d:=DK.new n) (i:=0) (b:=hbs 0 0) (by omega) (by simp [hbs]) rfl
 have e2:=wr_fine (n:=n) (d:=FmD n 1) (i:=1) (b:=[]) (by omega) (by simp) ((fm_free n 1).stopped)
 have e3:FmD n 2=DK.write (FmD n 1) 1 []:=by
  have:=e2.2
  rw [(fm_free n 1).step] at this
  exact this
 have e4:FmD n 1=DK.write (DK.new n) 0 (hbs 0 0):=by
  have:=e1.2
  rw [(free_new n).step] at this
  exact this
 have e5:(FmD n 2).now=((List.replicate n DK.zero).set 0 (DK.put (hbs 0 0))).set 1 (DK.put []):=by rw [e3,e4];rfl
 refine ⟨⟨?_,(fm_free n 2).2,rfl,rfl⟩,(fm_free n 2).1⟩
 show GoodP n (FmD n 2).now 0 []
 rw [e5]
 refine ⟨by simp,by omega,by simp,?_,⟨-1,0,.inr ⟨?_,rfl,rfl⟩,by omega⟩,fun i hi=>by simp at hi⟩
 ·rw [List.getElem?_set_ne (by omega),List.getElem?_set_self (by simp;omega)];rfl
 ·rw [List.getElem?_set_self (by simp;omega)];rfl
theorem Good.crash {n:Nat} {d:DK.D} {t:Nat} {b:List Int} (h:Good n d t b) (keep:List Int):Good n (DK.crash d keep) t b:=by
 have e:DK.crash d keep=⟨d.now,d.now,[],-1,false⟩:=by simp [DK.crash,h.ws,h.kn,DK.lay]
 rw [e]
 exact ⟨h.ps,rfl,rfl,rfl⟩
theorem Good.heads {n:Nat} {d:DK.D} {t:Nat} {b:List Int} (h:Good n d t b):∃ T L:Nat→Int,(∀ i,i < 2→HeadAt d i (T i) (L i))∧bestH T L 2=((t:Int),(b.length:Int)):=by
 obtain ⟨t',l',h1,h2⟩:=h.ps.ot
 have hd:HeadAt d (t % 2) t b.length:=.inl ⟨h.ps.hd,by omega,by have:=h.ps.tl;omega,by omega,by have:=h.ps.bl;omega,by omega⟩
 have ho:HeadAt d ((t+1) % 2) t' l':=h1
 have hm:-1≤t':=by rcases h1 with ⟨_,h1,_⟩ | ⟨_,h1,_⟩ <;> omega
 have hml:t'=-1→l'=0:=by rcases h1 with ⟨_,h1,_⟩ | ⟨_,_,h1⟩ <;> intros <;> omega
 by_cases h0:t % 2=0
 ·rw [h0] at hd
  rw [show (t+1) % 2=1 by omega] at ho
  refine ⟨fun i=>if i=0 then t else t',fun i=>if i=0 then b.length else l',fun i hi=>?_,?_⟩
  ·rcases (show i=0∨i=1 by omega) with rfl | rfl
   ·simpa using hd
   ·simpa using ho
  ·have q1:bestH (fun i=>if i=0 then (t:Int) else t') (fun i=>if i=0 then (b.length:Int) else l') 1=((t:Int),(b.length:Int)):=by
    rw [best_yes (by show (-1:Int) < _;simp;omega)];simp
   rw [best_no (by rw [q1];simp;omega),q1]
 ·rw [show t % 2=1 by omega] at hd
  rw [show (t+1) % 2=0 by omega] at ho
  refine ⟨fun i=>if i=0 then t' else t,fun i=>if i=0 then l' else b.length,fun i hi=>?_,?_⟩
  ·rcases (show i=0∨i=1 by omega) with rfl | rfl
   ·simpa using ho
   ·simpa using hd
  ·by_cases hc:(-1:Int) < t'
   ·have q1:bestH (fun i=>if i=0 then t' else (t:Int)) (fun i=>if i=0 then l' else (b.length:Int)) 1=(t',l'):=by
     rw [best_yes (by show (-1:Int) < _;simpa using hc)];simp
    rw [best_yes (by rw [q1];simpa using h2)];simp
   ·have q1:bestH (fun i=>if i=0 then t' else (t:Int)) (fun i=>if i=0 then l' else (b.length:Int)) 1=(-1,0):=by
     rw [best_no (by show ¬ (-1:Int) < _;simpa using hc)];rfl
    rw [best_yes (by rw [q1];simp;omega)];simp
set_option maxRecDepth 100000 in
theorem open_any (w:World) (u:Dsk) (n:Nat) (d:DK.D) (h:DAt w u n d) (hn:62≤n) (T L:Nat→Int) (hT:∀ i,i < 2→HeadAt d i (T i) (L i)) (t l:Nat) (b:List Int) (hb:b.length=l) (hl:l≤960) (ht:t≤800) (hbest:bestH T L 2=((t:Int),(l:Int)))
  (hp:∀ i,32 * i < l→d.now[2+t % 2 * 30+i]?=some (DK.put ((b.drop (32 * i)).take 32))):
  Calls Tryz.prog 18 #[.pointer (some ⟨u.g,0,none⟩)] w (OpenPost w u t b):=by
 have HH:=Lib.hid h
 have HT:=Lib.hid hT
 have HB:=Lib.hid hb
 have HBE:=Lib.hid hbest
 have HP:=Lib.hid hp
 have h1:¬ ((n:Int) < 62):=by omega
 clear h hT hb hbest hp
 go_enter Tryz.func18,Tryz.ntmps18
 go_wp2_with fail
 refine (dpages_any w u n d HH.out).mono ?_
 rintro e w' ⟨rfl,rfl⟩
 go_wp2_with fail
 have HR0:Hid (OpR w w.heap.size (bestH T L 0).1 (bestH T L 0).2 (w.alloc (.cells #[.int .i64 (-1),.int .i64 0] 110))):=⟨Ext.alloc _ _,Blk.new _ _ _⟩
 go_loopw [17] (fun v wr=>∃ i:Nat,i≤2∧v=.int .i64 i∧Hid (OpR w w.heap.size (bestH T L i).1 (bestH T L i).2 wr)) (fun v _=>2 - (intOf v).toNat)
 case atStart=>exact ⟨0,by omega,rfl,HR0⟩
 case round=>
  obtain ⟨i,hi,rfl,hR⟩:=hrel
  clear HR0
  by_cases hi2:i < 2
  ·have hi2':(i:Int) < 2:=by omega
   obtain ⟨hE,hb⟩:=hR.out
   have HE:=Lib.hid hE
   have HBK:=Lib.hid hb
   clear hE hb hR
   go_wp2_with fail
   refine (readat_any wr u n d (HH.out.ext HE.out) i _ _ (HT.out i hi2)).mono ?_
   rintro e w1 ⟨rfl,hx⟩
   have HX:=Lib.hid hx
   clear hx
   obtain ⟨ti,hti⟩:∃ x,x=T i:=⟨_,rfl⟩
   obtain ⟨li,hli⟩:∃ x,x=L i:=⟨_,rfl⟩
   have HBi:Hid (bestH T L (i+1)=if (bestH T L i).1 < ti then (ti,li) else bestH T L i):=by rw [hti,hli];rfl
   rw [←hti,←hli]
   clear hti hli
   obtain ⟨bt,hbt⟩:∃ x,x=(bestH T L i).1:=⟨_,rfl⟩
   obtain ⟨bl,hbl⟩:∃ x,x=(bestH T L i).2:=⟨_,rfl⟩
   rw [←hbt] at HBi HBK
   rw [←hbl] at HBK
   have HBT:=Lib.hid hbt
   have HBL:=Lib.hid hbl
   clear hbt hbl
   have HB1:Hid (Blk w1 w.heap.size 110 #[.int .i64 bt,.int .i64 bl]):=HBK.out.chg (Chg.of_below HX.out) (by have:=HBK.out.lt;omega)
   have HBn:Hid (Blk (w1.alloc (.cells #[.int .i64 ti,.int .i64 li] 110)) w.heap.size 110 #[.int .i64 bt,.int .i64 bl]):=HB1.out.alloc _
   have x0:(w1.alloc (.cells #[.int .i64 ti,.int .i64 li] 110)).cell? ⟨w.heap.size,0,none⟩=some (.int .i64 bt):=HBn.out.cell 0
   have x1:(w1.alloc (.cells #[.int .i64 ti,.int .i64 li] 110)).cell? ⟨w.heap.size,1,none⟩=some (.int .i64 bl):=HBn.out.cell 1
   have f0:=HBn.out.frozen 0
   have f1:=HBn.out.frozen 1
   by_cases hc:bt < ti
   ·have HN:Hid (OpR w w.heap.size (bestH T L (i+1)).1 (bestH T L (i+1)).2 (((w1.alloc (.cells #[.int .i64 ti,.int .i64 li] 110)).setCell ⟨w.heap.size,0,none⟩ (.int .i64 ti)).setCell ⟨w.heap.size,1,none⟩ (.int .i64 li))):=by
     rw [HBi.out,if_pos hc]
     refine ⟨?_,by simpa using (HBn.out.set_ 0 (.int .i64 ti)).set_ 1 (.int .i64 li)⟩
     exact (((Chg.of_below (Ext.trans (Ext.trans HE.out HX.out) (Ext.alloc _ _))).setCell (p:=⟨w.heap.size,0,none⟩) (fun _=>Nat.le_refl _) _).setCell (p:=⟨w.heap.size,1,none⟩) (fun _=>Nat.le_refl _) _).below (Nat.le_refl _) (fun _ _ h=>h)
    clear HBi
    go_wp2
    exact ⟨⟨i+1,by omega,by go_num,HN⟩,by simp [intOf];omega⟩
   ·have HN:Hid (OpR w w.heap.size (bestH T L (i+1)).1 (bestH T L (i+1)).2 (w1.alloc (.cells #[.int .i64 ti,.int .i64 li] 110))):=by
     rw [HBi.out,if_neg hc,←HBT.out,←HBL.out]
     exact ⟨Ext.trans (Ext.trans HE.out HX.out) (Ext.alloc _ _),HBn.out⟩
    clear HBi
    go_wp2
    exact ⟨⟨i+1,by omega,by go_num,HN⟩,by simp [intOf];omega⟩
  ·have e2:i=2:=by omega
   subst e2
   rw [HBE.out] at hR
   obtain ⟨hE,hb⟩:=hR.out
   have HE:=Lib.hid hE
   have HBK:=Lib.hid hb
   have x0:wr.cell? ⟨w.heap.size,0,none⟩=some (.int .i64 t):=hb.cell 0
   have x1:wr.cell? ⟨w.heap.size,1,none⟩=some (.int .i64 l):=hb.cell 1
   clear hE hb hR
   have HS0:Hid (OpS w u w.heap.size wr.heap.size t l b 0 (wr.alloc (.cells #[.pointer (some ⟨u.g,0,none⟩),.int .i64 t,.int .i64 l,.slice none 0 0,.bool false] 116))):=by
    refine ⟨⟨Ext.trans HE.out (Ext.alloc _ _),HBK.out.alloc _⟩,_,Blk.new _ _ _,?_,fun k hk=>by simp [Value.ownBlock] at hk⟩
    simpa [DK.pgv] using World.ownsRow_nil _ 0 _ 1
   obtain ⟨gs,hgs⟩:∃ x,x=wr.heap.size:=⟨_,rfl⟩
   rw [←hgs] at HS0
   have HGS:=Lib.hid hgs
   have hgw:w.heap.size≤gs:=by have:=HE.out.size;omega
   clear hgs
   go_wp2_with fail
   rw [←HGS.out]
   obtain ⟨wq,hwq⟩:∃ x,x=wr:=⟨_,rfl⟩
   subst hwq
   clear x0 x1 HBK HE HGS
   go_loopw [9] (fun v wr=>∃ i:Nat,i≤30∧v=.int .i64 i∧Hid (OpS w u w.heap.size gs t l b i wr)) (fun v _=>31 - (intOf v).toNat)
   case atStart=>exact ⟨0,by omega,rfl,HS0⟩
   case round=>
    obtain ⟨i,hi30,rfl,hR⟩:=hrel
    clear HS0
    obtain ⟨⟨hE,hbk⟩,v,hbs,hrow,hnew⟩:=hR.out
    have HE:=Lib.hid hE
    have HBK:=Lib.hid hbk
    have HBS:=Lib.hid hbs
    have HROW:=Lib.hid hrow
    have HNEW:Hid (∀ k,v.ownBlock=some k→w.heap.size≤k):=hnew
    have x0:wr.cell? ⟨w.heap.size,0,none⟩=some (.int .i64 t):=hbk.cell 0
    have x1:wr.cell? ⟨w.heap.size,1,none⟩=some (.int .i64 l):=hbk.cell 1
    clear hE hbk hbs hrow hnew hR
    by_cases hil:32 * i < l
    ·have hil':(i:Int) * 32 < (l:Int):=by omega
     have hk:((2+t % 2 * 30+i:Nat):Int)=2+(t:Int) % 2 * 30+(i:Int):=by omega
     have hd:=dread_yes wr u n d (HH.out.ext HE.out) (2+t % 2 * 30+i) _ (HP.out i hil)
     rw [hk] at hd
     have HD:=Lib.hid hd
     clear hk hd
     go_wp2_with fail
     refine (stfirst_any _ t (by omega)).mono ?_
     rintro e w' ⟨rfl,rfl⟩
     go_wp2_with fail
     refine HD.out.mono ?_
     rintro e w1 ⟨bg,bc,rfl,hge,hown,hbel⟩
     have hbc:32≤bc:=by obtain ⟨A,c,h1,h2⟩:=own_slice3 hown;injection h1 with h1 h2' h3;omega
     have HO:=Lib.hid hown
     have HW1:Hid (Ext wr w1):=hbel
     have HK1:Hid (Blk w1 w.heap.size 110 #[.int .i64 t,.int .i64 l]):=HBK.out.chg (Chg.of_below hbel) (by have:=HBK.out.lt;omega)
     have HS1:Hid (Blk w1 gs 116 #[.pointer (some ⟨u.g,0,none⟩),.int .i64 t,.int .i64 l,v,.bool false]):=HBS.out.chg (Chg.of_below hbel) (by have:=HBS.out.lt;omega)
     obtain ⟨q,hq⟩:∃ q,(b.take (32 * i)).length=q:=⟨_,rfl⟩
     have HQ:=Lib.hid hq
     rw [hq] at HROW
     have HR1:Hid (w1.ownsRow 0 5 1 v q (DK.pgv (b.take (32 * i)))):=own_chg HROW.out (Chg.of_below hbel) (fun k hk=>by have:=own_lt HROW.out hk;omega)
     have y1:w1.cell? ⟨w.heap.size,1,none⟩=some (.int .i64 l):=HK1.out.cell 1
     have y3:w1.cell? ⟨gs,3,none⟩=some v:=HS1.out.cell 3
     have z3:=HS1.out.frozen 3
     have HLI:Hid (q≤960):=by rw [Hid,←hq,List.length_take,HB.out];omega
     clear hown hbel hge HD x0 x1 HBK HBS HROW hq
     have hbc':(32:Int)≤(bc:Int):=by omega
     have wi:IntKind.i64.wrap ((i:Int) * 32)=(i:Int) * 32:=IntWalk.i64_in _ (by omega)
     obtain ⟨K,hK⟩:∃ K,K=l - 32 * i:=⟨_,rfl⟩
     have wk:IntKind.i64.wrap ((l:Int) - (i:Int) * 32)=(K:Int):=(IntWalk.i64_in _ (by omega)).trans (by omega)
     by_cases hc:K < 32
     ·have k2:(K:Int) < 32:=by omega
      have k3:(K:Int)≤(bc:Int):=by omega
      have hk0:0 < K:=by omega
      have HKL:Hid (((b.drop (32 * i)).take 32).length=K):=by rw [Hid,List.length_take,List.length_drop,HB.out];omega
      clear hK hc
      go_wp2_with fail
      go_region_law (first
       | (refine step_append_bytes _ (by rfl) (.tmp 68) (.tmp 76) 38 rfl 5 _ 1 Tryz.underlying38 infoByte (by rfl) v _ _ (by rfl) HR1.out ⟨bg,0,none⟩ K bc (DK.pgv ((b.drop (32 * i)).take 32)) (by rfl) (by rw [DK.pgv,List.length_map];exact HKL.out) (page_cells HO.out (by rw [HKL.out];omega)) pgv_one (by omega) ⟨by have:=HLI.out;omega,by omega⟩ ?_;intro g2 c2 w2 ho hch hat;obtain ⟨q1,q2,HN⟩:=OpS.next (Ext.trans HE.out HW1.out) hgw HK1.out HS1.out HNEW.out HR1.out HQ.out HKL.out ho hch.undrew hat;clear ho hch hat) | fail)
      all_goals
       clear q1 q2 y1 y3 z3
       go_wp2
       exact ⟨⟨i+1,by omega,by go_num,HN⟩,by simp [intOf];omega⟩
     ·have k2:(if (K:Int) < 32 then (K:Int) else 32)=32:=if_neg (by omega)
      have HKL:Hid (((b.drop (32 * i)).take 32).length=32):=by rw [Hid,List.length_take,List.length_drop,HB.out];omega
      clear hK hc
      go_wp2_with fail
      go_region_law (first
       | (refine step_append_bytes _ (by rfl) (.tmp 68) (.tmp 76) 38 rfl 5 _ 1 Tryz.underlying38 infoByte (by rfl) v _ _ (by rfl) HR1.out ⟨bg,0,none⟩ 32 bc (DK.pgv ((b.drop (32 * i)).take 32)) (by rfl) (by rw [DK.pgv,List.length_map];exact HKL.out) (page_cells HO.out (by rw [HKL.out];omega)) pgv_one (by omega) ⟨by have:=HLI.out;omega,by omega⟩ ?_;intro g2 c2 w2 ho hch hat;obtain ⟨q1,q2,HN⟩:=OpS.next (Ext.trans HE.out HW1.out) hgw HK1.out HS1.out HNEW.out HR1.out HQ.out HKL.out ho hch.undrew hat;clear ho hch hat) | fail)
      all_goals
       clear q1 q2 y1 y3 z3
       go_wp2
       exact ⟨⟨i+1,by omega,by go_num,HN⟩,by simp [intOf];omega⟩
    ·have hil':¬ (i:Int) * 32 < (l:Int):=by omega
     have hbt:b.take (32 * i)=b:=List.take_of_length_le (by rw [HB.out];omega)
     rw [hbt] at HROW
     have HPO:Hid (OpenPost w u t b (.returned (.tuple #[.pointer (some ⟨gs,0,none⟩),.nilIface])) wr):=
      ⟨gs,v,rfl,⟨by rw [HB.out];exact HBS.out,HROW.out⟩,HE.out,hgw,HNEW.out⟩
     clear hbt HROW HBS HBK HNEW
     go_wp2
     go_ret2
     exact HPO.out
structure SkR (W:World) (n:Nat) (d:DK.D) (gu gs:Nat) (t:Nat) (b:List Int) (dn:Bool) (B:Option (Nat × Array Value)) (wr:World):Prop where
 all:∃ u v,DAt wr u n d∧u.g=gu∧SoAt wr gs gu t v dn b∧(∀ k,u.fp k→W.heap.size≤k)∧(∀ k,v.ownBlock=some k→W.heap.size≤k)
 bel:Below W.heap.size W wr
 gs:W.heap.size≤gs
 box:∀ g cs,B=some (g,cs)→Blk wr g 128 cs∧W.heap.size≤g
section
variable {W wr w':World} {n gu gs t:Nat} {d:DK.D} {b c:List Int} {dn:Bool} {B:Option (Nat × Array Value)}
theorem SkR.chg {S:Nat→Prop} (h:SkR W n d gu gs t b dn B wr) (hc:Chg S wr w') (hB:∀ k,S k→wr.heap.size≤k):SkR W n d gu gs t b dn B w':=by
 have hx:Ext wr w':=hc.below (Nat.le_refl _) (fun k _ hk=>hB k hk)
 obtain ⟨u,v,h1,h2,h3,h4,h5⟩:=h.all
 exact ⟨⟨u,v,h1.ext hx,h2,h3.ext hx,h4,h5⟩,h.bel.trans (Below.mono hx h.bel.size),h.gs,fun g cs hg=>by
  obtain ⟨q1,q2⟩:=h.box g cs hg
  exact ⟨q1.chg (Chg.of_below hx) (by have:=q1.lt;omega),q2⟩⟩
theorem SkR.ext (h:SkR W n d gu gs t b dn B wr) (hx:Ext wr w'):SkR W n d gu gs t b dn B w':=h.chg (Chg.of_below hx) (fun _ h=>h)
theorem SkR.moved {u u':Dsk} {v':Value} {d':DK.D} {t':Nat} {b':List Int} {dn':Bool} (h:SkR W n d gu gs t b dn B wr) (h1:DAt wr u n d) (h2:u.g=gu) (h4:∀ k,u.fp k→W.heap.size≤k) {S:Nat→Prop} (hS:∀ k,S k→u.fp k∨k=gs)
  (hc:Chg S wr w') (hd:DAt w' u' n d') (hu:u'.g=u.g) (hf:∀ k,u'.fp k→u.fp k∨wr.heap.size≤k) (hs:SoAt w' gs gu t' v' dn' b') (hv:∀ k,v'.ownBlock=some k→W.heap.size≤k):SkR W n d' gu gs t' b' dn' B w':=by
 obtain ⟨u0,v0,k1,k2,k3,_,_⟩:=h.all
 have hbel:=h.bel
 have hge:=h.gs
 have e:Below W.heap.size wr w':=hc.below hbel.size (fun k _ hk=>by
  rcases hS k hk with hk | rfl
  ·exact h4 k hk
  ·exact hge)
 refine ⟨⟨u',v',hd,hu.trans h2,hs,fun k hk=>?_,hv⟩,hbel.trans e,hge,fun g cs hg=>?_⟩
 ·rcases hf k hk with hk | hk
  ·exact h4 k hk
  ·have:=hbel.size;omega
 ·obtain ⟨q1,q2⟩:=h.box g cs hg
  refine ⟨q1.chg hc (fun hk=>?_),q2⟩
  rcases hS g hk with hk | rfl
  ·exact h1.notyp q1 (by decide) hk
  ·exact absurd (blk_same k3.blk q1) (by decide)
theorem sk_turn (h:SkR W n d gu gs t b dn B wr):Calls Tryz.prog 93 #[.pointer (some ⟨gs,0,none⟩)] wr fun e w'=>e=.returned (.int .i64 t)∧wr=w':=by
 obtain ⟨u,v,h1,h2,h3,h4,h5⟩:=h.all
 exact turn_any wr gs gu t v dn b h3
def SkSave (W:World) (n:Nat) (d:DK.D) (gu gs t:Nat) (b c:List Int) (B:Option (Nat × Array Value)) (e:Ending) (w':World):Prop:=
 (∃ d',e=.returned .nilIface∧SkR W n d' gu gs (t+1) c false B w'∧Good n d' (t+1) c∧(d.left=-1→d'.left=-1))∨
 (∃ d',e=.returned (derrV 8)∧d.left≠-1∧SkR W n d' gu gs t b true B w'∧∀ keep,Good n (DK.crash d' keep) t b∨Good n (DK.crash d' keep) (t+1) c)
def SkOpen (W:World) (n:Nat) (d:DK.D) (gu t:Nat) (b:List Int) (B:Option (Nat × Array Value)) (e:Ending) (w':World):Prop:=
 ∃ gs,e=.returned (.tuple #[.pointer (some ⟨gs,0,none⟩),.nilIface])∧SkR W n d gu gs t b false B w'
theorem open_good (w:World) (u:Dsk) (h:DAt w u n d) (hn:62≤n) (hg:Good n d t b):Calls Tryz.prog 18 #[.pointer (some ⟨u.g,0,none⟩)] w (OpenPost w u t b):=by
 obtain ⟨T,L,q1,q2⟩:=hg.heads
 exact open_any w u n d h hn T L q1 t b.length b rfl hg.ps.bl (by have:=hg.ps.tl;omega) q2 hg.ps.dat
end
end Go.Proofs.YtkoajpeabicpdaaGreatDoor
