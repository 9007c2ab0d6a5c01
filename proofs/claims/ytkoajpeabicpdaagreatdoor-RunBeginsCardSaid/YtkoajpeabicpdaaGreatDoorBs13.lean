/-
Walks of package seq: Len, heavy, single, node, balance. Condition: the rows lie in memory as 'SeqAt' says (a tree of nodes that nobody writes to), and have at most 1000 items.
-/
import Derived.Test.YtkoajpeabicpdaaGreatDoorRows
import Derived.Test.YtkoajpeabicpdaaGreatDoorSq
import Derived.Test.YtkoajpeabicpdaaGreatDoorBs2
import Derived.WalkKit
import Derived.WalkSpells
import Derived.Lib.Hide
import Derived.Outline
import Derived.Deep.QuietTactic
import Derived.BigQuiet
import Derived.Deep.RegionHeld3
import Derived.Deep.DrawnRows
import Derived.Deep.LoopGhost
import Derived.StillTailTactics
import Derived.Laws.EntriesVeiled
import Derived.Deep.RegionLaw
import Derived.Test.YtkoajpeabicpdaaGreatDoorBs5
import Derived.Maps.OwnSet
import Derived.Maps.RangeWalk
import Derived.Maps.Views
import Derived.DeepKeys4
set_option linter.unusedVariables false
set_option maxHeartbeats 8000000
namespace Go.Proofs.YtkoajpeabicpdaaGreatDoor
open Go Go.RowKit SQ
def SeqAt (w:World):Option Addr→T→Prop
 | p,.nil=>p=none
 | p,.node l x r=>∃ (b:Nat) (lp rp:Option Addr),p=some ⟨b,0,none⟩∧Blk w b 296 #[.pointer lp,.pointer rp,.int .i64 x,.int .i64 ((l.size+1+r.size:Nat):Int)]∧SeqAt w lp l∧SeqAt w rp r
theorem SeqAt.ext {w w':World} (he:Ext w w'):∀ {t:T} {p:Option Addr},SeqAt w p t→SeqAt w' p t
 | .nil,_,h=>h
 | .node _ _ _,_,⟨b,lp,rp,h1,h2,h3,h4⟩=>⟨b,lp,rp,h1,h2.chg (Chg.new he (fun _=>False)) (fun h=>h),h3.ext he,h4.ext he⟩
theorem SeqAt.nil (w:World):SeqAt w none .nil:=rfl
theorem seqCells (w:World) {p:Option Addr} {l r:T} {x:Int} (h:SeqAt w p (.node l x r)):∃ (b:Nat) (lp rp:Option Addr),p=some ⟨b,0,none⟩∧b < w.heap.size∧w.cell? ⟨b,0,none⟩=some (.pointer lp)∧w.cell? ⟨b,1,none⟩=some (.pointer rp)∧
  w.cell? ⟨b,2,none⟩=some (.int .i64 x)∧w.cell? ⟨b,3,none⟩=some (.int .i64 ((l.size+1+r.size:Nat):Int))∧SeqAt w lp l∧SeqAt w rp r:=by
 obtain ⟨b,lp,rp,h1,h2,h3,h4⟩:=h
 exact ⟨b,lp,rp,h1,h2.lt,h2.cell 0,h2.cell 1,h2.cell 2,h2.cell 3,h3,h4⟩
theorem len_any (w:World) (p:Option Addr) (t:T) (h:SeqAt w p t):
  Calls Tryz.prog 220 #[.pointer p] w fun e w'=>e=.returned (.int .i64 (t.size:Nat))∧w=w':=by
 cases t with
 | nil=>
  obtain rfl:p=none:=h
  go_enter Tryz.func220,Tryz.ntmps220
  go_wp2
  go_ret
  exact ⟨rfl,rfl⟩
 | node l x r=>
  obtain ⟨b,lp,rp,rfl,_,_,_,_,h3,_,_⟩:=seqCells w h
  clear h
  go_enter Tryz.func220,Tryz.ntmps220
  go_wp2
  go_ret
  exact ⟨rfl,rfl⟩
theorem ret_b {a b:Bool} (h:a=b):Ending.returned (.bool a)=.returned (.bool b):=by rw [h]
theorem heavy_any (w:World) (p q:Option Addr) (a b:T) (ha:SeqAt w p a) (hb:SeqAt w q b) (h1:a.size≤1000) (h2:b.size≤1000) (r:Bool) (hr:hv a b=r):
  Calls Tryz.prog 217 #[.pointer p,.pointer q] w fun e w'=>e=.returned (.bool r)∧w=w':=by
 have HR:=Lib.hid hr
 clear hr
 go_enter Tryz.func217,Tryz.ntmps217
 go_wp2_with fail
 refine (len_any w p a ha).mono ?_
 rintro e w' ⟨rfl,rfl⟩
 go_wp2_with fail
 refine (len_any w q b hb).mono ?_
 rintro e w' ⟨rfl,rfl⟩
 go_wp2
 go_ret
 refine ⟨ret_b ?_,rfl⟩
 rw [←HR.out];unfold hv;rw [Bool.eq_iff_iff];simp only [decide_eq_true_eq];omega
theorem single_any (w:World) (p q:Option Addr) (a b:T) (ha:SeqAt w p a) (hb:SeqAt w q b) (h1:a.size≤1000) (h2:b.size≤1000) (r:Bool) (hr:sg a b=r):
  Calls Tryz.prog 232 #[.pointer p,.pointer q] w fun e w'=>e=.returned (.bool r)∧w'=w:=by
 have HR:=Lib.hid hr
 clear hr
 go_enter Tryz.func232,Tryz.ntmps232
 go_wp2_with fail
 refine (len_any w p a ha).mono ?_
 rintro e w' ⟨rfl,rfl⟩
 go_wp2_with fail
 refine (len_any w q b hb).mono ?_
 rintro e w' ⟨rfl,rfl⟩
 go_wp2
 go_ret
 refine ⟨ret_b ?_,rfl⟩
 rw [←HR.out];unfold sg;rw [Bool.eq_iff_iff];simp only [decide_eq_true_eq];omega
def Made (w:World) (t:T) (e:Ending) (w':World):Prop:=∃ p:Option Addr,e=.returned (.pointer p)∧SeqAt w' p t∧Ext w w'
theorem mk_any (w:World) (p q:Option Addr) (a b:T) (x:Int) (ha:SeqAt w p a) (hb:SeqAt w q b) (h1:a.size≤1000) (h2:b.size≤1000):
  Calls Tryz.prog 219 #[.pointer p,.int .i64 x,.pointer q] w (Made w (.node a x b)):=by
 have HA:=Lib.hid ha
 have HB:=Lib.hid hb
 go_enter Tryz.func219,Tryz.ntmps219
 go_wp2_with fail
 refine (len_any w p a ha).mono ?_
 rintro e w' ⟨rfl,rfl⟩
 go_wp2_with fail
 refine (len_any w q b hb).mono ?_
 rintro e w' ⟨rfl,rfl⟩
 clear ha hb
 go_wp2
 go_ret
 refine ⟨some ⟨w.heap.size,0,none⟩,rfl,⟨w.heap.size,p,q,rfl,?_,HA.out.ext (Ext.alloc _ _),HB.out.ext (Ext.alloc _ _)⟩,Ext.alloc _ _⟩
 have:=Blk.new w 296 #[.pointer p,.pointer q,.int .i64 x,.int .i64 ((a.size:Int)+1+(b.size:Int))]
 rw [show ((a.size+1+b.size:Nat):Int)=(a.size:Int)+1+(b.size:Int) by omega]
 exact this
attribute [local go_sem ↓] Go.wp_at_zero Go.wp_at_succ
theorem fst_ {A B:Prop} (h:A∧B):A:=h.1
theorem held1 {w W:World} {b:Nat} {lp rp:Option Addr} {x:Int} (he:Ext w W) (hb:b < w.heap.size) (c0:w.cell? ⟨b,0,none⟩=some (.pointer lp)) (c1:w.cell? ⟨b,1,none⟩=some (.pointer rp)) (c2:w.cell? ⟨b,2,none⟩=some (.int .i64 x)):
  Ext w W∧W.cell? ⟨b,0,none⟩=some (.pointer lp)∧W.cell? ⟨b,1,none⟩=some (.pointer rp)∧W.cell? ⟨b,2,none⟩=some (.int .i64 x):=
 ⟨he,(he.cell (p:=⟨b,0,none⟩) hb).trans c0,(he.cell (p:=⟨b,1,none⟩) hb).trans c1,(he.cell (p:=⟨b,2,none⟩) hb).trans c2⟩
set_option maxRecDepth 100000 in
theorem bal_sr (w:World) (p q:Option Addr) (l rl rr:T) (x rx:Int) (hl:SeqAt w p l) (hr:SeqAt w q (.node rl rx rr)) (hsz:l.size+1+(T.node rl rx rr).size≤1000)
  (h:hv (.node rl rx rr) l=true) (s:sg rl rr=true):
  Calls Tryz.prog 218 #[.pointer p,.int .i64 x,.pointer q] w (Made w (.node (.node l x rl) rx rr)):=by
 have hs2:(T.node rl rx rr).size=rl.size+1+rr.size:=rfl
 have HL:=Lib.hid hl
 have HR:=Lib.hid hr
 have Hh:=Lib.hid h
 have Hs:=Lib.hid s
 obtain ⟨b,lp,rp,rfl,hb,c0,c1,c2,_,r1,r2⟩:=seqCells w hr
 have R1:=Lib.hid r1
 have R2:=Lib.hid r2
 have hz1:l.size≤1000:=by omega
 have hz2:rl.size≤1000:=by omega
 have hz3:rr.size≤1000:=by omega
 have HZ:Hid ((T.node rl rx rr).size≤1000):=by unfold Hid;omega
 have HZ2:Hid ((T.node l x rl).size≤1000):=by unfold Hid;simp only [T.size];omega
 clear h s hs2 hl hr r1 r2 hsz
 go_enter Tryz.func218,Tryz.ntmps218
 go_wp2_with fail
 refine (heavy_any w _ p (.node rl rx rr) l HR.out HL.out HZ.out hz1 true Hh.out).mono ?_
 rintro e w' ⟨rfl,rfl⟩
 go_wp2_with fail
 go_quiet ((go_at_call 232;exact Calls.quiet_of_same (single_any _ lp rp rl rr (R1.out.ext (Ext.drewN _ _)) (R2.out.ext (Ext.drewN _ _)) hz2 hz3 true Hs.out)))
 go_wp2_with fail
 go_region_held3 (fun w'=>Ext w w'∧w'.cell? ⟨b,0,none⟩=some (.pointer lp)∧w'.cell? ⟨b,1,none⟩=some (.pointer rp)∧w'.cell? ⟨b,2,none⟩=some (.int .i64 rx))
  (exact held1 (by first | exact (Ext.drewN _ _).trans (Ext.drew _) | exact Ext.trans (fst_ (by assumption)) (by assumption)) hb c0 c1 c2)
  (first
   | (go_at_call_of 219 (Value.pointer lp);refine (mk_any _ p lp l rl x (HL.out.ext (fst_ (by assumption))) (R1.out.ext (fst_ (by assumption))) hz1 hz2).mono ?_;rintro e w1 ⟨p1,rfl,hs1,hx1⟩)
   | (go_at_call_of 219 (Value.pointer rp);refine (mk_any _ _ rp (T.node l x rl) rr rx (by assumption) (R2.out.ext (fst_ (by assumption))) HZ2.out hz3).mono ?_;rintro e w2 ⟨p2,rfl,hs2,hx2⟩))
 go_wp2
 go_ret
 exact ⟨_,rfl,by assumption,fst_ (by assumption)⟩
set_option maxRecDepth 100000 in
theorem bal_sl (w:World) (p q:Option Addr) (ll lr r:T) (lx x:Int) (hl:SeqAt w p (.node ll lx lr)) (hr:SeqAt w q r) (hsz:(T.node ll lx lr).size+1+r.size≤1000)
  (g:hv r (.node ll lx lr)=false) (h:hv (.node ll lx lr) r=true) (s:sg lr ll=true):
  Calls Tryz.prog 218 #[.pointer p,.int .i64 x,.pointer q] w (Made w (.node ll lx (.node lr x r))):=by
 have hs2:(T.node ll lx lr).size=ll.size+1+lr.size:=rfl
 have HL:=Lib.hid hl
 have HR:=Lib.hid hr
 have Hg:=Lib.hid g
 have Hh:=Lib.hid h
 have Hs:=Lib.hid s
 obtain ⟨b,lp,rp,rfl,hb,c0,c1,c2,_,r1,r2⟩:=seqCells w hl
 have R1:=Lib.hid r1
 have R2:=Lib.hid r2
 have hz1:r.size≤1000:=by omega
 have hz2:ll.size≤1000:=by omega
 have hz3:lr.size≤1000:=by omega
 have HZ:Hid ((T.node ll lx lr).size≤1000):=by unfold Hid;omega
 have HZ2:Hid ((T.node lr x r).size≤1000):=by unfold Hid;simp only [T.size];omega
 clear g h s hs2 hl hr r1 r2 hsz
 go_enter Tryz.func218,Tryz.ntmps218
 go_wp2_with fail
 refine (heavy_any w q _ r (.node ll lx lr) HR.out HL.out hz1 HZ.out false Hg.out).mono ?_
 rintro e w' ⟨rfl,rfl⟩
 go_wp2_with fail
 refine (heavy_any w _ q (.node ll lx lr) r HL.out HR.out HZ.out hz1 true Hh.out).mono ?_
 rintro e w' ⟨rfl,rfl⟩
 go_wp2_with fail
 go_quiet ((go_at_call 232;exact Calls.quiet_of_same (single_any _ rp lp lr ll (R2.out.ext (Ext.drewN _ _)) (R1.out.ext (Ext.drewN _ _)) hz3 hz2 true Hs.out)))
 go_wp2_with fail
 go_region_held3 (fun w'=>Ext w w'∧w'.cell? ⟨b,0,none⟩=some (.pointer lp)∧w'.cell? ⟨b,1,none⟩=some (.pointer rp)∧w'.cell? ⟨b,2,none⟩=some (.int .i64 lx))
  (exact held1 (by first | exact (Ext.drewN _ _).trans (Ext.drew _) | exact Ext.trans (fst_ (by assumption)) (by assumption)) hb c0 c1 c2)
  (first
   | (go_at_call_of 219 (Value.int IntKind.i64 x);refine (mk_any _ rp q lr r x (R2.out.ext (fst_ (by assumption))) (HR.out.ext (fst_ (by assumption))) hz3 hz1).mono ?_;rintro e w1 ⟨p1,rfl,hs1,hx1⟩)
   | (go_at_call_of 219 (Value.int IntKind.i64 lx);refine (mk_any _ lp _ ll (T.node lr x r) lx (R1.out.ext (fst_ (by assumption))) (by assumption) hz2 HZ2.out).mono ?_;rintro e w2 ⟨p2,rfl,hs2,hx2⟩))
 go_wp2
 go_ret
 exact ⟨_,rfl,by assumption,fst_ (by assumption)⟩
theorem held2 {w W:World} {b b2:Nat} {lp rp lp2 rp2:Option Addr} {x y:Int} (he:Ext w W) (hb:b < w.heap.size) (c0:w.cell? ⟨b,0,none⟩=some (.pointer lp)) (c1:w.cell? ⟨b,1,none⟩=some (.pointer rp)) (c2:w.cell? ⟨b,2,none⟩=some (.int .i64 x))
  (hb2:b2 < w.heap.size) (d0:w.cell? ⟨b2,0,none⟩=some (.pointer lp2)) (d1:w.cell? ⟨b2,1,none⟩=some (.pointer rp2)) (d2:w.cell? ⟨b2,2,none⟩=some (.int .i64 y)):
  Ext w W∧W.cell? ⟨b,0,none⟩=some (.pointer lp)∧W.cell? ⟨b,1,none⟩=some (.pointer rp)∧W.cell? ⟨b,2,none⟩=some (.int .i64 x)∧W.cell? ⟨b2,0,none⟩=some (.pointer lp2)∧W.cell? ⟨b2,1,none⟩=some (.pointer rp2)∧W.cell? ⟨b2,2,none⟩=some (.int .i64 y):=
 ⟨he,(he.cell (p:=⟨b,0,none⟩) hb).trans c0,(he.cell (p:=⟨b,1,none⟩) hb).trans c1,(he.cell (p:=⟨b,2,none⟩) hb).trans c2,(he.cell (p:=⟨b2,0,none⟩) hb2).trans d0,(he.cell (p:=⟨b2,1,none⟩) hb2).trans d1,(he.cell (p:=⟨b2,2,none⟩) hb2).trans d2⟩
set_option maxRecDepth 100000 in
theorem bal_dr (w:World) (p q:Option Addr) (l a c rr:T) (x y rx:Int) (hl:SeqAt w p l) (hr:SeqAt w q (.node (.node a y c) rx rr)) (hsz:l.size+1+(T.node (.node a y c) rx rr).size≤1000)
  (h:hv (.node (.node a y c) rx rr) l=true) (s:sg (.node a y c) rr=false):
  Calls Tryz.prog 218 #[.pointer p,.int .i64 x,.pointer q] w (Made w (.node (.node l x a) y (.node c rx rr))):=by
 have hs2:(T.node (.node a y c) rx rr).size=(a.size+1+c.size)+1+rr.size:=rfl
 have hs3:(T.node a y c).size=a.size+1+c.size:=rfl
 have HL:=Lib.hid hl
 have HR:=Lib.hid hr
 have Hh:=Lib.hid h
 have Hs:=Lib.hid s
 obtain ⟨b,lp,rp,rfl,hb,c0,c1,c2,_,r1,r2⟩:=seqCells w hr
 have R1:=Lib.hid r1
 have R2:=Lib.hid r2
 obtain ⟨b2,lp2,rp2,rfl,hb2,d0,d1,d2,_,r3,r4⟩:=seqCells w r1
 have R3:=Lib.hid r3
 have R4:=Lib.hid r4
 have hz1:l.size≤1000:=by omega
 have hz2:a.size≤1000:=by omega
 have hz3:c.size≤1000:=by omega
 have hz4:rr.size≤1000:=by omega
 have HZ:Hid ((T.node (.node a y c) rx rr).size≤1000):=by unfold Hid;omega
 have HZm:Hid ((T.node a y c).size≤1000):=by unfold Hid;omega
 have HZ2:Hid ((T.node l x a).size≤1000):=by unfold Hid;simp only [T.size];omega
 have HZ3:Hid ((T.node c rx rr).size≤1000):=by unfold Hid;simp only [T.size];omega
 clear h s hs2 hs3 hl hr r1 r2 r3 r4 hsz
 go_enter Tryz.func218,Tryz.ntmps218
 go_wp2_with fail
 refine (heavy_any w _ p (.node (.node a y c) rx rr) l HR.out HL.out HZ.out hz1 true Hh.out).mono ?_
 rintro e w' ⟨rfl,rfl⟩
 go_wp2_with fail
 go_quiet ((go_at_call 232;exact Calls.quiet_of_same (single_any _ _ rp (.node a y c) rr (R1.out.ext (Ext.drewN _ _)) (R2.out.ext (Ext.drewN _ _)) HZm.out hz4 false Hs.out)))
 go_wp2_with fail
 go_region_held3 (fun w'=>Ext w w'∧w'.cell? ⟨b,0,none⟩=some (.pointer (some ⟨b2,0,none⟩))∧w'.cell? ⟨b,1,none⟩=some (.pointer rp)∧w'.cell? ⟨b,2,none⟩=some (.int .i64 rx)∧w'.cell? ⟨b2,0,none⟩=some (.pointer lp2)∧w'.cell? ⟨b2,1,none⟩=some (.pointer rp2)∧w'.cell? ⟨b2,2,none⟩=some (.int .i64 y))
  (exact held2 (by first | exact (Ext.drewN _ _).trans (Ext.drew _) | exact Ext.trans (fst_ (by assumption)) (by assumption)) hb c0 c1 c2 hb2 d0 d1 d2)
  (first
   | (go_at_call_of 219 (Value.int IntKind.i64 x);refine (mk_any _ p lp2 l a x (HL.out.ext (fst_ (by assumption))) (R3.out.ext (fst_ (by assumption))) hz1 hz2).mono ?_;rintro e w1 ⟨p1,rfl,hs1,hx1⟩)
   | (go_at_call_of 219 (Value.int IntKind.i64 rx);refine (mk_any _ rp2 rp c rr rx (R4.out.ext (fst_ (by assumption))) (R2.out.ext (fst_ (by assumption))) hz3 hz4).mono ?_;rintro e w2 ⟨p2,rfl,hs2,hx2⟩)
   | (go_at_call_of 219 (Value.int IntKind.i64 y);refine (mk_any _ _ _ (T.node l x a) (T.node c rx rr) y (by first | assumption | exact SeqAt.ext (by assumption) (by assumption)) (by first | assumption | exact SeqAt.ext (by assumption) (by assumption)) HZ2.out HZ3.out).mono ?_;rintro e w3 ⟨p3,rfl,hs3,hx3⟩))
 all_goals
  go_wp2
  go_ret
  exact ⟨_,rfl,by assumption,fst_ (by assumption)⟩
set_option maxRecDepth 100000 in
theorem bal_dl (w:World) (p q:Option Addr) (ll a c r:T) (lx x y:Int) (hl:SeqAt w p (.node ll lx (.node a y c))) (hr:SeqAt w q r) (hsz:(T.node ll lx (.node a y c)).size+1+r.size≤1000)
  (g:hv r (.node ll lx (.node a y c))=false) (h:hv (.node ll lx (.node a y c)) r=true) (s:sg (.node a y c) ll=false):
  Calls Tryz.prog 218 #[.pointer p,.int .i64 x,.pointer q] w (Made w (.node (.node ll lx a) y (.node c x r))):=by
 have hs2:(T.node ll lx (.node a y c)).size=ll.size+1+(a.size+1+c.size):=rfl
 have hs3:(T.node a y c).size=a.size+1+c.size:=rfl
 have HL:=Lib.hid hl
 have HR:=Lib.hid hr
 have Hg:=Lib.hid g
 have Hh:=Lib.hid h
 have Hs:=Lib.hid s
 obtain ⟨b,lp,rp,rfl,hb,c0,c1,c2,_,r1,r2⟩:=seqCells w hl
 have R1:=Lib.hid r1
 have R2:=Lib.hid r2
 obtain ⟨b2,lp2,rp2,rfl,hb2,d0,d1,d2,_,r3,r4⟩:=seqCells w r2
 have R3:=Lib.hid r3
 have R4:=Lib.hid r4
 have hz1:r.size≤1000:=by omega
 have hz2:a.size≤1000:=by omega
 have hz3:c.size≤1000:=by omega
 have hz4:ll.size≤1000:=by omega
 have HZ:Hid ((T.node ll lx (.node a y c)).size≤1000):=by unfold Hid;omega
 have HZm:Hid ((T.node a y c).size≤1000):=by unfold Hid;omega
 have HZ2:Hid ((T.node ll lx a).size≤1000):=by unfold Hid;simp only [T.size];omega
 have HZ3:Hid ((T.node c x r).size≤1000):=by unfold Hid;simp only [T.size];omega
 clear g h s hs2 hs3 hl hr r1 r2 r3 r4 hsz
 go_enter Tryz.func218,Tryz.ntmps218
 go_wp2_with fail
 refine (heavy_any w q _ r (.node ll lx (.node a y c)) HR.out HL.out hz1 HZ.out false Hg.out).mono ?_
 rintro e w' ⟨rfl,rfl⟩
 go_wp2_with fail
 refine (heavy_any w _ q (.node ll lx (.node a y c)) r HL.out HR.out HZ.out hz1 true Hh.out).mono ?_
 rintro e w' ⟨rfl,rfl⟩
 go_wp2_with fail
 go_quiet ((go_at_call 232;exact Calls.quiet_of_same (single_any _ _ lp (.node a y c) ll (R2.out.ext (Ext.drewN _ _)) (R1.out.ext (Ext.drewN _ _)) HZm.out hz4 false Hs.out)))
 go_wp2_with fail
 go_region_held3 (fun w'=>Ext w w'∧w'.cell? ⟨b,0,none⟩=some (.pointer lp)∧w'.cell? ⟨b,1,none⟩=some (.pointer (some ⟨b2,0,none⟩))∧w'.cell? ⟨b,2,none⟩=some (.int .i64 lx)∧w'.cell? ⟨b2,0,none⟩=some (.pointer lp2)∧w'.cell? ⟨b2,1,none⟩=some (.pointer rp2)∧w'.cell? ⟨b2,2,none⟩=some (.int .i64 y))
  (exact held2 (by first | exact (Ext.drewN _ _).trans (Ext.drew _) | exact Ext.trans (fst_ (by assumption)) (by assumption)) hb c0 c1 c2 hb2 d0 d1 d2)
  (first
   | (go_at_call_of 219 (Value.int IntKind.i64 lx);refine (mk_any _ lp lp2 ll a lx (R1.out.ext (fst_ (by assumption))) (R3.out.ext (fst_ (by assumption))) hz4 hz2).mono ?_;rintro e w1 ⟨p1,rfl,hs1,hx1⟩)
   | (go_at_call_of 219 (Value.int IntKind.i64 x);refine (mk_any _ rp2 q c r x (R4.out.ext (fst_ (by assumption))) (HR.out.ext (fst_ (by assumption))) hz3 hz1).mono ?_;rintro e w2 ⟨p2,rfl,hs2,hx2⟩)
   | (go_at_call_of 219 (Value.int IntKind.i64 y);refine (mk_any _ _ _ (T.node ll lx a) (T.node c x r) y (by first | assumption | exact SeqAt.ext (by assumption) (by assumption)) (by first | assumption | exact SeqAt.ext (by assumption) (by assumption)) HZ2.out HZ3.out).mono ?_;rintro e w3 ⟨p3,rfl,hs3,hx3⟩))
 all_goals
  go_wp2
  go_ret
  exact ⟨_,rfl,by assumption,fst_ (by assumption)⟩
set_option maxRecDepth 100000 in
theorem bal_no (w:World) (p q:Option Addr) (l r:T) (x:Int) (hl:SeqAt w p l) (hr:SeqAt w q r) (hsz:l.size+1+r.size≤1000)
  (g:hv r l=false) (h:hv l r=false):
  Calls Tryz.prog 218 #[.pointer p,.int .i64 x,.pointer q] w (Made w (.node l x r)):=by
 have HL:=Lib.hid hl
 have HR:=Lib.hid hr
 have Hg:=Lib.hid g
 have Hh:=Lib.hid h
 have hz1:r.size≤1000:=by omega
 have hz2:l.size≤1000:=by omega
 clear g h hl hr hsz
 go_enter Tryz.func218,Tryz.ntmps218
 go_wp2_with fail
 refine (heavy_any w q p r l HR.out HL.out hz1 hz2 false Hg.out).mono ?_
 rintro e w' ⟨rfl,rfl⟩
 go_wp2_with fail
 refine (heavy_any w p q l r HL.out HR.out hz2 hz1 false Hh.out).mono ?_
 rintro e w' ⟨rfl,rfl⟩
 go_wp2_with fail
 refine (mk_any w p q l r x HL.out HR.out hz2 hz1).mono ?_
 rintro e w1 ⟨p1,rfl,hs1,hb1⟩
 go_wp2
 go_ret
 exact ⟨_,rfl,hs1,hb1⟩
theorem bal_any (w:World) (p q:Option Addr) (l r t:T) (x:Int) (hl:SeqAt w p l) (hr:SeqAt w q r) (hsz:l.size+1+r.size≤1000) (h:BalR l x r t):
  Calls Tryz.prog 218 #[.pointer p,.int .i64 x,.pointer q] w (Made w t):=by
 cases h with
 | sr h s=>exact bal_sr w p q _ _ _ x _ hl hr hsz h s
 | dr h s=>exact bal_dr w p q _ _ _ _ x _ _ hl hr hsz h s
 | sl g h s=>exact bal_sl w p q _ _ _ _ x hl hr hsz g h s
 | dl g h s=>exact bal_dl w p q _ _ _ _ _ x _ hl hr hsz g h s
 | no g h=>exact bal_no w p q _ _ x hl hr hsz g h
attribute [local go_sem ↓] Go.wp_at_zero Go.wp_at_succ
theorem bal_ex (l:T) (x:Int) (r:T):∃ t,BalR l x r t:=by
 by_cases h1:hv r l=true
 ·obtain ⟨rl,rx,rr,rfl⟩:=hv_node h1
  by_cases s:sg rl rr=true
  ·exact ⟨_,.sr h1 s⟩
  ·have s':sg rl rr=false:=by simpa using s
   obtain ⟨a,y,b,rfl⟩:=sg_node s'
   exact ⟨_,.dr h1 s'⟩
 ·have h1':hv r l=false:=by simpa using h1
  by_cases h2:hv l r=true
  ·obtain ⟨ll,lx,lr,rfl⟩:=hv_node h2
   by_cases s:sg lr ll=true
   ·exact ⟨_,.sl h1' h2 s⟩
   ·have s':sg lr ll=false:=by simpa using s
    obtain ⟨a,y,b,rfl⟩:=sg_node s'
    exact ⟨_,.dl h1' h2 s'⟩
  ·exact ⟨_,.no h1' (by simpa using h2)⟩
def MadeR (w:World) (R:T→Prop) (e:Ending) (w':World):Prop:=∃ t,R t∧Made w t e w'
set_option maxRecDepth 100000 in
theorem link_aux:∀ (n:Nat) (w:World) (p q:Option Addr) (l r:T) (x:Int),l.size+r.size≤n→SeqAt w p l→SeqAt w q r→l.size+1+r.size≤1000→
  Calls Tryz.prog 190 #[.pointer p,.int .i64 x,.pointer q] w (MadeR w (LinkR l x r))
 | n,w,p,q,l,r,x,hn,hl,hr,hsz=>by
  have HL:=Lib.hid hl
  have HR:=Lib.hid hr
  have hz1:l.size≤1000:=by omega
  have hz2:r.size≤1000:=by omega
  have IH:Hid (∀ m,m < n→∀ (w:World) (p q:Option Addr) (l r:T) (x:Int),l.size+r.size≤m→SeqAt w p l→SeqAt w q r→l.size+1+r.size≤1000→
    Calls Tryz.prog 190 #[.pointer p,.int .i64 x,.pointer q] w (MadeR w (LinkR l x r))):=fun m _=>link_aux m
  by_cases h:hv r l=true
  ·obtain ⟨rl,rx,rr,rfl⟩:=hv_node h
   have hs2:(T.node rl rx rr).size=rl.size+1+rr.size:=rfl
   obtain ⟨b,lp,rp,rfl,hb,c0,c1,c2,_,r1,r2⟩:=seqCells w hr
   have R1:=Lib.hid r1
   have R2:=Lib.hid r2
   have Hh:=Lib.hid h
   have HZ:Hid ((T.node rl rx rr).size≤1000):=hz2
   have HI:Hid (∀ W:World,SeqAt W p l→SeqAt W lp rl→Calls Tryz.prog 190 #[.pointer p,.int .i64 x,.pointer lp] W (MadeR W (LinkR l x rl))):=
    fun W h1 h2=>IH.out (l.size+rl.size) (by omega) W p lp l rl x (Nat.le_refl _) h1 h2 (by omega)
   have HZ3:Hid (l.size+1+rl.size+1+rr.size≤1000):=by unfold Hid;omega
   clear hl hr h r1 r2 hn hsz hs2 hz2 IH
   go_enter Tryz.func190,Tryz.ntmps190
   go_wp2_with fail
   refine (heavy_any w _ p (.node rl rx rr) l HR.out HL.out HZ.out hz1 true Hh.out).mono ?_
   rintro e w' ⟨rfl,rfl⟩
   go_wp2_with fail
   go_region_held3 (fun w'=>Ext w w'∧w'.cell? ⟨b,0,none⟩=some (.pointer lp)∧w'.cell? ⟨b,1,none⟩=some (.pointer rp)∧w'.cell? ⟨b,2,none⟩=some (.int .i64 rx))
    (exact held1 (by first | exact Ext.drew _ | exact Ext.trans (fst_ (by assumption)) (by assumption)) hb c0 c1 c2)
    (first
     | (go_at_call 190;refine (HI.out _ (HL.out.ext (fst_ (by assumption))) (R1.out.ext (fst_ (by assumption)))).mono ?_;rintro e w1 ⟨t1,hk1,p1,rfl,hs1,hx1⟩)
     | (go_at_call 218;obtain ⟨u,hu⟩:=bal_ex t1 rx rr;refine (bal_any _ p1 rp t1 rr u rx hs1 (R2.out.ext (fst_ (by assumption))) (by rw [LinkR.size hk1];exact HZ3.out) hu).mono ?_;rintro e w2 ⟨p2,rfl,hs2,hx2⟩))
   go_wp2
   go_ret
   exact ⟨u,.r Hh.out hk1 hu,p2,rfl,by assumption,fst_ (by assumption)⟩
  ·have h':hv r l=false:=by simpa using h
   clear h
   by_cases g:hv l r=true
   ·obtain ⟨ll,lx,lr,rfl⟩:=hv_node g
    have hs2:(T.node ll lx lr).size=ll.size+1+lr.size:=rfl
    obtain ⟨b,lp,rp,rfl,hb,c0,c1,c2,_,r1,r2⟩:=seqCells w hl
    have R1:=Lib.hid r1
    have R2:=Lib.hid r2
    have Hh:=Lib.hid h'
    have Hg:=Lib.hid g
    have HZ:Hid ((T.node ll lx lr).size≤1000):=hz1
    have HI:Hid (∀ W:World,SeqAt W rp lr→SeqAt W q r→Calls Tryz.prog 190 #[.pointer rp,.int .i64 x,.pointer q] W (MadeR W (LinkR lr x r))):=
     fun W h1 h2=>IH.out (lr.size+r.size) (by omega) W rp q lr r x (Nat.le_refl _) h1 h2 (by omega)
    have HZ3:Hid (ll.size+1+(lr.size+1+r.size)≤1000):=by unfold Hid;omega
    clear hl hr h' g r1 r2 hn hsz hs2 hz1 IH
    go_enter Tryz.func190,Tryz.ntmps190
    go_wp2_with fail
    refine (heavy_any w q _ r (.node ll lx lr) HR.out HL.out hz2 HZ.out false Hh.out).mono ?_
    rintro e w' ⟨rfl,rfl⟩
    go_wp2_with fail
    refine (heavy_any w _ q (.node ll lx lr) r HL.out HR.out HZ.out hz2 true Hg.out).mono ?_
    rintro e w' ⟨rfl,rfl⟩
    go_wp2_with fail
    go_region_held3 (fun w'=>Ext w w'∧w'.cell? ⟨b,0,none⟩=some (.pointer lp)∧w'.cell? ⟨b,1,none⟩=some (.pointer rp)∧w'.cell? ⟨b,2,none⟩=some (.int .i64 lx))
     (exact held1 (by first | exact Ext.drew _ | exact Ext.trans (fst_ (by assumption)) (by assumption)) hb c0 c1 c2)
     (first
      | (go_at_call 190;refine (HI.out _ (R2.out.ext (fst_ (by assumption))) (HR.out.ext (fst_ (by assumption)))).mono ?_;rintro e w1 ⟨t1,hk1,p1,rfl,hs1,hx1⟩)
      | (go_at_call 218;obtain ⟨u,hu⟩:=bal_ex ll lx t1;refine (bal_any _ lp p1 ll t1 u lx (R1.out.ext (fst_ (by assumption))) hs1 (by rw [LinkR.size hk1];exact HZ3.out) hu).mono ?_;rintro e w2 ⟨p2,rfl,hs2,hx2⟩))
    go_wp2
    go_ret
    exact ⟨u,.l Hh.out Hg.out hk1 hu,p2,rfl,by assumption,fst_ (by assumption)⟩
   ·have g':hv l r=false:=by simpa using g
    have Hh:=Lib.hid h'
    have Hg:=Lib.hid g'
    clear h' g g' hl hr hn hsz IH
    go_enter Tryz.func190,Tryz.ntmps190
    go_wp2_with fail
    refine (heavy_any w q p r l HR.out HL.out hz2 hz1 false Hh.out).mono ?_
    rintro e w' ⟨rfl,rfl⟩
    go_wp2_with fail
    refine (heavy_any w p q l r HL.out HR.out hz1 hz2 false Hg.out).mono ?_
    rintro e w' ⟨rfl,rfl⟩
    go_wp2_with fail
    refine (mk_any w p q l r x HL.out HR.out hz1 hz2).mono ?_
    rintro e w1 ⟨p1,rfl,hs1,hb1⟩
    go_wp2
    go_ret
    exact ⟨_,.no Hh.out Hg.out,p1,rfl,hs1,hb1⟩
theorem link_any (w:World) (p q:Option Addr) (l r:T) (x:Int) (hl:SeqAt w p l) (hr:SeqAt w q r) (hsz:l.size+1+r.size≤1000):
  Calls Tryz.prog 190 #[.pointer p,.int .i64 x,.pointer q] w (MadeR w (LinkR l x r)):=link_aux _ w p q l r x (Nat.le_refl _) hl hr hsz
attribute [local go_sem ↓] Go.wp_at_zero Go.wp_at_succ
def FirstPost (w:World) (s:T) (e:Ending) (w':World):Prop:=∃ (x:Int) (t:T) (p:Option Addr),FirstR s x t∧e=.returned (.tuple #[.int .i64 x,.pointer p])∧SeqAt w' p t∧Ext w w'
set_option maxRecDepth 100000 in
theorem first_any:∀ (s:T) (w:World) (p:Option Addr),SeqAt w p s→0 < s.size→s.size≤900→
  Calls Tryz.prog 233 #[.pointer p] w (FirstPost w s)
 | .nil,_,_,_,h,_=>absurd h (by simp [T.size])
 | .node .nil x r,w,p,hs,_,_=>by
  obtain ⟨b,lp,rp,rfl,hb,c0,c1,c2,_,r1,r2⟩:=seqCells w hs
  obtain rfl:lp=none:=r1
  have R2:=Lib.hid r2
  clear hs r2
  go_enter Tryz.func233,Tryz.ntmps233
  go_wp2
  go_quiet (fail)
  go_wp2
  go_ret2
  exact ⟨x,r,rp,.no,rfl,R2.out.ext (Ext.drewN _ _),Ext.drewN _ _⟩
 | .node (.node ll lx lr) x r,w,p,hs,_,hsz=>by
  obtain ⟨b,lp,rp,rfl,hb,c0,c1,c2,_,r1,r2⟩:=seqCells w hs
  obtain ⟨b2,lp2,rp2,hlp,_⟩:=seqCells w r1
  have h1:(T.node (.node ll lx lr) x r).size=(T.node ll lx lr).size+1+r.size:=rfl
  have HI:=Lib.hid (first_any (.node ll lx lr) w lp r1 (by simp only [T.size];omega) (by omega))
  have R2:=Lib.hid r2
  have HZ:Hid ((T.node ll lx lr).size+r.size≤900):=by unfold Hid;omega
  clear hs r1 r2 hsz h1
  subst hlp
  go_enter Tryz.func233,Tryz.ntmps233
  go_wp2_with fail
  refine HI.out.mono ?_
  rintro e w1 ⟨y,t,p1,hf,rfl,hs1,hx⟩
  have HF:=Lib.hid hf
  have HS1:=Lib.hid hs1
  have HX:=Lib.hid hx
  have d2:=(hx.cell (p:=⟨b,2,none⟩) hb).trans c2
  have d1:=(hx.cell (p:=⟨b,1,none⟩) hb).trans c1
  have d0:=(hx.cell (p:=⟨b,0,none⟩) hb).trans c0
  have hb1:b < w1.heap.size:=Nat.lt_of_lt_of_le hb hx.size
  obtain ⟨u,hu⟩:=bal_ex t x r
  have HU:=Lib.hid hu
  have HB:Hid (∀ W,Ext w1 W→Calls Tryz.prog 218 #[.pointer p1,.int .i64 x,.pointer rp] W (Made W u)):=fun W hW=>
   bal_any W p1 rp t r u x (HS1.out.ext hW) (R2.out.ext (HX.out.trans hW)) (by have:=HZ.out;have:=HF.out.size;omega) HU.out
  clear hf hs1 hx hu c0 c1 c2 hb HI
  go_wp2_with fail
  go_region_held3 (fun w'=>Ext w1 w'∧w'.cell? ⟨b,0,none⟩=some (.pointer (some ⟨b2,0,none⟩))∧w'.cell? ⟨b,1,none⟩=some (.pointer rp)∧w'.cell? ⟨b,2,none⟩=some (.int .i64 x))
   (exact held1 (by first | exact Ext.drew _ | exact Ext.trans (fst_ (by assumption)) (by assumption)) hb1 d0 d1 d2)
   (first
    | (go_at_call 218;refine (HB.out _ (fst_ (by assumption))).mono ?_;rintro e w2 ⟨p2,rfl,hs2,hx2⟩))
  go_wp2
  go_ret2
  exact ⟨y,u,p2,.go HF.out HU.out,rfl,by assumption,HX.out.trans (fst_ (by assumption))⟩
def ListR (xs:List Int) (b:Prop) (t:T):Prop:=t.list=xs∧(b→Bal t)
set_option maxRecDepth 100000 in
theorem both_any (w:World) (p q:Option Addr) (l r:T) (hl:SeqAt w p l) (hr:SeqAt w q r) (hsz:l.size+r.size≤900):
  Calls Tryz.prog 223 #[.pointer p,.pointer q] w (MadeR w (ListR (l.list++r.list) (Bal l∧Bal r))):=by
 cases r with
 | nil=>
  obtain rfl:q=none:=hr
  have HL:=Lib.hid hl
  clear hl hsz
  go_enter Tryz.func223,Tryz.ntmps223
  go_wp2
  go_ret
  exact ⟨l,⟨by simp [T.list],fun h=>h.1⟩,p,rfl,HL.out,Ext.refl _⟩
 | node rl x rr=>
  have HI:=Lib.hid (first_any (.node rl x rr) w q hr (by simp only [T.size];omega) (by omega))
  obtain ⟨b2,lp2,rp2,rfl,_⟩:=seqCells w hr
  have HL:=Lib.hid hl
  have HZ:Hid (l.size+(T.node rl x rr).size≤900):=hsz
  clear hl hr hsz
  go_enter Tryz.func223,Tryz.ntmps223
  go_wp2_with fail
  refine HI.out.mono ?_
  rintro e w1 ⟨y,t,p1,hf,rfl,hs1,hx⟩
  have HF:=Lib.hid hf
  have HX:=Lib.hid hx
  have HK:=Lib.hid (link_any w1 p p1 l t y (HL.out.ext hx) hs1 (by have:=HZ.out;have:=hf.size;omega))
  clear hf hs1 hx HI
  go_wp2_with fail
  refine HK.out.mono ?_
  rintro e w2 ⟨u,hu,p2,rfl,hs2,hx2⟩
  have HU:=Lib.hid hu
  have HS2:=Lib.hid hs2
  have HX2:=Lib.hid hx2
  clear hu hs2 hx2 HK
  go_wp2
  go_ret
  exact ⟨u,⟨by rw [HU.out.list,HF.out.list],fun h=>HU.out.bal h.1 (HF.out.bal h.2)⟩,p2,rfl,HS2.out,HX.out.trans HX2.out⟩
theorem take_mid {l r:List Int} {x:Int} {i:Nat} (h:l.length < i):(l++x::r).take i=l++x::r.take (i - l.length - 1):=by
 rw [List.take_append,List.take_of_length_le (by omega),show i - l.length=(i - l.length - 1)+1 by omega,List.take_succ_cons];simp
theorem drop_mid {l r:List Int} {x:Int} {i:Nat} (h:l.length < i):(l++x::r).drop i=r.drop (i - l.length - 1):=by
 rw [List.drop_append,List.drop_eq_nil_of_le (by omega),show i - l.length=(i - l.length - 1)+1 by omega,List.drop_succ_cons];simp
def SplitPost (w:World) (t:T) (i:Nat) (e:Ending) (w':World):Prop:=∃ (lo hi:T) (p q:Option Addr),lo.list=t.list.take i∧hi.list=t.list.drop i∧(Bal t→Bal lo∧Bal hi)∧
 e=.returned (.tuple #[.pointer p,.pointer q])∧SeqAt w' p lo∧SeqAt w' q hi∧Ext w w'
theorem size_of_list {t:T} {xs:List Int} (h:t.list=xs):t.size=xs.length:=by rw [←h,T.len]
set_option maxRecDepth 100000 in
theorem split_any:∀ (t:T) (w:World) (p:Option Addr) (i:Nat),SeqAt w p t→t.size≤900→i≤t.size→
  Calls Tryz.prog 221 #[.pointer p,.int .i64 i] w (SplitPost w t i)
 | .nil,w,p,i,hs,_,hi=>by
  obtain rfl:p=none:=hs
  obtain rfl:i=0:=by simpa [T.size] using hi
  clear hi
  go_enter Tryz.func221,Tryz.ntmps221
  go_wp2
  go_ret2
  exact ⟨.nil,.nil,none,none,by simp [T.list],by simp [T.list],fun _=>⟨trivial,trivial⟩,rfl,SeqAt.nil _,SeqAt.nil _,Ext.refl _⟩
 | .node l x r,w,p,i,hs,hsz,hi=>by
  obtain ⟨b,lp,rp,rfl,hb,c0,c1,c2,_,r1,r2⟩:=seqCells w hs
  have h1:(T.node l x r).size=l.size+1+r.size:=rfl
  rw [h1] at hsz hi
  have R1:=Lib.hid r1
  have R2:=Lib.hid r2
  have hll:=T.len l
  by_cases hc:l.size < i
  ·have HI:=Lib.hid (split_any r w rp (i - l.size - 1) r2 (by omega) (by omega))
   have HZ:Hid (l.size+1+r.size≤900∧i≤l.size+1+r.size):=⟨hsz,hi⟩
   have e1:(((i - l.size - 1:Nat)):Int)=(i:Int) - (l.size:Int) - 1:=by omega
   rw [e1] at HI
   have z1:(l.size:Int) < (i:Int):=by omega
   have z2:l.size≤900:=by omega
   have z3:i≤901:=by omega
   clear hs r1 r2 hsz hi h1 e1 hll hc
   go_enter Tryz.func221,Tryz.ntmps221
   go_wp2_with fail
   refine (len_any w lp l R1.out).mono ?_
   rintro e w' ⟨rfl,rfl⟩
   go_wp2_with fail
   refine HI.out.mono ?_
   rintro e w1 ⟨lo,hi,p1,q1,h1,h2,h3,rfl,hs1,hs2,hx⟩
   have H1:=Lib.hid h1
   have H2:=Lib.hid h2
   have H3:=Lib.hid h3
   have HS2:=Lib.hid hs2
   have HX:=Lib.hid hx
   have d2:=(hx.cell (p:=⟨b,2,none⟩) hb).trans c2
   have d1:=(hx.cell (p:=⟨b,1,none⟩) hb).trans c1
   have d0:=(hx.cell (p:=⟨b,0,none⟩) hb).trans c0
   have hb1:b < w1.heap.size:=Nat.lt_of_lt_of_le hb hx.size
   have HB:Hid (∀ W,Ext w1 W→Calls Tryz.prog 190 #[.pointer lp,.int .i64 x,.pointer p1] W (MadeR W (LinkR l x lo))):=by
    have HS1:=Lib.hid hs1
    exact fun W hW=>link_any W lp p1 l lo x (R1.out.ext (HX.out.trans hW)) (HS1.out.ext hW) (by
     have hz:=HZ.out
     have hlo:=size_of_list H1.out
     have hr:=T.len r
     simp at hlo;omega)
   clear h1 h2 h3 hs1 hs2 hx c0 c1 c2 hb HI
   go_wp2_with fail
   go_region_held3 (fun w'=>Ext w1 w'∧w'.cell? ⟨b,0,none⟩=some (.pointer lp)∧w'.cell? ⟨b,1,none⟩=some (.pointer rp)∧w'.cell? ⟨b,2,none⟩=some (.int .i64 x))
    (exact held1 (by first | exact Ext.drew _ | exact Ext.trans (fst_ (by assumption)) (by assumption)) hb1 d0 d1 d2)
    (first
     | (go_at_call 190;refine (HB.out _ (fst_ (by assumption))).mono ?_;rintro e w2 ⟨u,hu,p2,rfl,hs2,hx2⟩))
   go_wp2
   go_ret2
   have hxx:=fst_ (show Ext w1 w2∧_ by assumption)
   refine ⟨u,hi,p2,q1,?_,?_,fun hb=>⟨hu.bal hb.1 (H3.out hb.2.1).1,(H3.out hb.2.1).2⟩,rfl,by assumption,HS2.out.ext hxx,HX.out.trans hxx⟩
   ·rw [hu.list,H1.out]
    simp only [T.list]
    rw [take_mid (by rw [T.len];omega),T.len]
   ·rw [H2.out]
    simp only [T.list]
    rw [drop_mid (by rw [T.len];omega),T.len]
  ·have HI:=Lib.hid (split_any l w lp i r1 (by omega) (by omega))
   have HZ:Hid (l.size+1+r.size≤900∧i≤l.size):=⟨hsz,by omega⟩
   have z1:¬ (l.size:Int) < (i:Int):=by omega
   have z4:decide (l.size < i)=false:=by simp only [decide_eq_false_iff_not];exact hc
   clear hs r1 r2 hsz hi h1 hll hc
   go_enter Tryz.func221,Tryz.ntmps221
   go_wp2_with fail
   refine (len_any w lp l R1.out).mono ?_
   rintro e w' ⟨rfl,rfl⟩
   go_wp2_with fail
   refine HI.out.mono ?_
   rintro e w1 ⟨lo,hi,p1,q1,h1,h2,h3,rfl,hs1,hs2,hx⟩
   have H1:=Lib.hid h1
   have H2:=Lib.hid h2
   have H3:=Lib.hid h3
   have HS1:=Lib.hid hs1
   have HX:=Lib.hid hx
   have d2:=(hx.cell (p:=⟨b,2,none⟩) hb).trans c2
   have d1:=(hx.cell (p:=⟨b,1,none⟩) hb).trans c1
   have d0:=(hx.cell (p:=⟨b,0,none⟩) hb).trans c0
   have hb1:b < w1.heap.size:=Nat.lt_of_lt_of_le hb hx.size
   have HB:Hid (∀ W,Ext w1 W→Calls Tryz.prog 190 #[.pointer q1,.int .i64 x,.pointer rp] W (MadeR W (LinkR hi x r))):=by
    have HS2:=Lib.hid hs2
    exact fun W hW=>link_any W q1 rp hi r x (HS2.out.ext hW) (R2.out.ext (HX.out.trans hW)) (by
     have hz:=HZ.out
     have hhi:=size_of_list H2.out
     have hr:=T.len l
     simp at hhi;omega)
   clear h1 h2 h3 hs1 hs2 hx c0 c1 c2 hb HI
   go_wp2_with fail
   go_region_held3 (fun w'=>Ext w1 w'∧w'.cell? ⟨b,0,none⟩=some (.pointer lp)∧w'.cell? ⟨b,1,none⟩=some (.pointer rp)∧w'.cell? ⟨b,2,none⟩=some (.int .i64 x))
    (exact held1 (by first | exact Ext.drew _ | exact Ext.trans (fst_ (by assumption)) (by assumption)) hb1 d0 d1 d2)
    (first
     | (go_at_call 190;refine (HB.out _ (fst_ (by assumption))).mono ?_;rintro e w2 ⟨u,hu,p2,rfl,hs2,hx2⟩))
   go_wp2
   go_ret2
   have hxx:=fst_ (show Ext w1 w2∧_ by assumption)
   refine ⟨lo,u,p1,p2,?_,?_,fun hb=>⟨(H3.out hb.1).1,hu.bal (H3.out hb.1).2 hb.2.1⟩,rfl,HS1.out.ext hxx,by assumption,HX.out.trans hxx⟩
   ·rw [H1.out]
    simp only [T.list]
    rw [List.take_append_of_le_length (by rw [T.len];exact HZ.out.2)]
   ·rw [hu.list,H2.out]
    simp only [T.list]
    rw [List.drop_append_of_le_length (by rw [T.len];exact HZ.out.2)]
attribute [local go_sem ↓] Go.wp_at_zero Go.wp_at_succ
theorem ret_i {a b:Int} (h:a=b):Ending.returned (.int .i64 a)=.returned (.int .i64 b):=by rw [h]
abbrev errV (n:Int):Value:=.iface 52 (.int .i64 n)
def RowPost (w:World) (R:T→Prop) (e:Ending) (w':World):Prop:=∃ (t:T) (p:Option Addr),R t∧e=.returned (.tuple #[.pointer p,.nilIface])∧SeqAt w' p t∧Ext w w'
set_option maxRecDepth 100000 in
theorem of_no (w:World) (A:Option Addr) (n c:Nat) (h:400 < n):
  Calls Tryz.prog 139 #[.slice A n c] w fun e w'=>e=.returned (.tuple #[.pointer none,errV 3])∧w=w':=by
 have z:(400:Int) < (n:Int):=by omega
 go_enter Tryz.func139,Tryz.ntmps139
 go_wp2
 go_ret2
 exact ⟨rfl,rfl⟩
set_option maxRecDepth 100000 in
theorem of_yes (w:World) (A:Option Addr) (n c:Nat) (xs:List Int) (hx:IntsAt w A xs) (hl:xs.length=n) (h:n≤400):
  Calls Tryz.prog 139 #[.slice A n c] w (RowPost w fun t=>t.list=xs∧Bal t):=by
 have HX:=Lib.hid hx
 have HL:=Lib.hid hl
 have z:¬ (400:Int) < (n:Int):=by omega
 clear hx hl
 go_enter Tryz.func139,Tryz.ntmps139
 go_wp2
 go_loopw [4,13] (fun s i wr=>∃ (k:Nat) (p:Option Addr),k≤n∧i=.int .i64 k∧s=.pointer p∧(∃ t,SeqAt wr p t∧t.list=xs.take k∧Bal t)∧Ext w wr) (fun _ i _=>n - (intOf i).toNat)
 case atStart=>exact ⟨0,none,Nat.zero_le _,rfl,rfl,⟨.nil,SeqAt.nil _,by simp [T.list],trivial⟩,Ext.refl _⟩
 case round=>
  obtain ⟨k,p,hk,rfl,rfl,ht,he⟩:=hrel
  have HT:=Lib.hid ht
  have HE:=Lib.hid he
  by_cases hlt:k < n
  ·rcases HX.out.ext he with h0 | ⟨b,off,rfl,_,hc⟩
   ·have:=HL.out;subst h0;simp at this;omega
   have hkx:k < xs.length:=by rw [HL.out];exact hlt
   obtain ⟨x,hxx⟩:∃ x,xs[k]?=some x:=⟨_,List.getElem?_eq_getElem hkx⟩
   have c1:=hc k x hxx
   obtain ⟨t,h1,h2,h3⟩:=ht
   have HK:=Lib.hid (link_any wr p none t .nil x h1 (SeqAt.nil _) (by have:=size_of_list h2;simp at this;simp only [T.size];omega))
   have H2:=Lib.hid h2
   have HXX:=Lib.hid hxx
   clear hc hxx he h1 h2 hkx HT
   go_wp2_with fail
   refine HK.out.mono ?_
   rintro e w1 ⟨u,hu,p1,rfl,hs1,hx1⟩
   have HU:Hid (∃ t,SeqAt w1 p1 t∧t.list=xs.take (k+1)∧Bal t):=⟨u,hs1,by rw [hu.list,H2.out,take_snoc' HXX.out];simp [T.list],hu.bal h3 trivial⟩
   have HX1:=Lib.hid (HE.out.trans hx1)
   clear hu hs1 hx1 HK
   go_wp2
   go_roundw
   case rel=>exact ⟨k+1,p1,by omega,by go_num,rfl,HU.out,HX1.out⟩
   case measure=>simp [intOf];omega
  ·clear ht he
   go_wp2
   go_ret2
   obtain ⟨t,h1,h2,h3⟩:=HT.out
   exact ⟨t,p,⟨by rw [h2,List.take_of_length_le (by rw [HL.out];omega)],h3⟩,rfl,h1,HE.out⟩
set_option maxRecDepth 100000 in
theorem sjoin_no (w:World) (p q:Option Addr) (l r:T) (hl:SeqAt w p l) (hr:SeqAt w q r) (h1:l.size≤400) (h2:r.size≤400) (h:400 < l.size+r.size):
  Calls Tryz.prog 193 #[.pointer p,.pointer q] w fun e w'=>e=.returned (.tuple #[.pointer none,errV 3])∧w=w':=by
 have HL:=Lib.hid hl
 have HR:=Lib.hid hr
 have z:(400:Int) < (l.size:Int)+(r.size:Int):=by omega
 clear hl hr
 go_enter Tryz.func193,Tryz.ntmps193
 go_wp2_with fail
 refine (len_any w p l HL.out).mono ?_
 rintro e w' ⟨rfl,rfl⟩
 go_wp2_with fail
 refine (len_any w q r HR.out).mono ?_
 rintro e w' ⟨rfl,rfl⟩
 go_wp2
 go_ret2
 exact ⟨rfl,rfl⟩
set_option maxRecDepth 100000 in
theorem sjoin_yes (w:World) (p q:Option Addr) (l r:T) (hl:SeqAt w p l) (hr:SeqAt w q r) (h:l.size+r.size≤400):
  Calls Tryz.prog 193 #[.pointer p,.pointer q] w (RowPost w (ListR (l.list++r.list) (Bal l∧Bal r))):=by
 have HL:=Lib.hid hl
 have HR:=Lib.hid hr
 have z:¬ (400:Int) < (l.size:Int)+(r.size:Int):=by omega
 clear hl hr
 go_enter Tryz.func193,Tryz.ntmps193
 go_wp2_with fail
 refine (len_any w p l HL.out).mono ?_
 rintro e w' ⟨rfl,rfl⟩
 go_wp2_with fail
 refine (len_any w q r HR.out).mono ?_
 rintro e w' ⟨rfl,rfl⟩
 go_wp2_with fail
 refine (both_any w p q l r HL.out HR.out (by omega)).mono ?_
 rintro e w1 ⟨u,hu,p1,rfl,hs1,hx1⟩
 have HU:=Lib.hid hu
 have HS:=Lib.hid hs1
 have HX:=Lib.hid hx1
 clear hu hs1 hx1
 go_wp2
 go_ret2
 exact ⟨u,p1,HU.out,rfl,HS.out,HX.out⟩
def SplitPost3 (w:World) (t:T) (i:Nat) (e:Ending) (w':World):Prop:=∃ (lo hi:T) (p q:Option Addr),lo.list=t.list.take i∧hi.list=t.list.drop i∧(Bal t→Bal lo∧Bal hi)∧
 e=.returned (.tuple #[.pointer p,.pointer q,.nilIface])∧SeqAt w' p lo∧SeqAt w' q hi∧Ext w w'
set_option maxRecDepth 100000 in
theorem ssplit_yes (w:World) (p:Option Addr) (t:T) (i:Nat) (ht:SeqAt w p t) (hz:t.size≤400) (hi:i≤t.size):
  Calls Tryz.prog 191 #[.pointer p,.int .i64 i] w (SplitPost3 w t i):=by
 have HT:=Lib.hid ht
 have HK:=Lib.hid (split_any t w p i ht (by omega) hi)
 have z1:¬ (i:Int) < 0:=by omega
 have z2:¬ (t.size:Int) < (i:Int):=by omega
 have z3:decide (t.size < i)=false:=by simp only [decide_eq_false_iff_not];omega
 clear ht
 go_enter Tryz.func191,Tryz.ntmps191
 go_wp2_with fail
 refine (len_any w p t HT.out).mono ?_
 rintro e w' ⟨rfl,rfl⟩
 go_wp2_with fail
 refine HK.out.mono ?_
 rintro e w1 ⟨lo,hi,p1,q1,h1,h2,h3,rfl,hs1,hs2,hx⟩
 have H:Hid (lo.list=t.list.take i∧hi.list=t.list.drop i∧(Bal t→Bal lo∧Bal hi)∧SeqAt w1 p1 lo∧SeqAt w1 q1 hi∧Ext w w1):=⟨h1,h2,h3,hs1,hs2,hx⟩
 clear h1 h2 h3 hs1 hs2 hx HK
 go_wp2
 go_ret3
 obtain ⟨h1,h2,h3,h4,h5,h6⟩:=H.out
 exact ⟨lo,hi,p1,q1,h1,h2,h3,rfl,h4,h5,h6⟩
theorem own_slice' {w:World} {base:Nat} {e:TypeId} {size:Nat} {v:Value} {n:Nat} {xs:List Value} (h:w.ownsRow base e size v n xs):∃ A c,v=.slice A n c∧n≤c:=by
 rcases h.2 with ⟨rfl,rfl⟩ | ⟨g,cap,cur,rfl,_,_,h1,_⟩
 ·exact ⟨none,0,rfl,Nat.le_refl _⟩
 ·exact ⟨_,cap,rfl,h1⟩
theorem infoInt':(Tryz.prog.info? 3).map (fun i=>(i.zero,i.size,i.bytes))=some (some (.int .i64 0),1,8):=by kernel_rfl
abbrev walkV (wb ob:Nat):Value:=.func (.func 222) #[] #[.pointer (some ⟨wb,0,none⟩),.pointer (some ⟨ob,0,none⟩)]
structure LSt (W w:World) (wb ob:Nat) (v:Value) (xs:List Int):Prop where
 bel:Below W.heap.size W w
 nwb:W.heap.size≤wb
 nob:W.heap.size≤ob
 bw:Blk w wb 223 #[walkV wb ob]
 bo:Blk w ob 79 #[v]
 row:w.ownsRow 0 3 1 v xs.length (xs.map (Value.int .i64))
 own:∀ k,v.ownBlock=some k→W.heap.size≤k
theorem LSt.drew {W w:World} {wb ob:Nat} {v:Value} {xs:List Int} (h:LSt W w wb ob v xs):LSt W w.drew wb ob v xs:=⟨h.bel.drew,h.nwb,h.nob,h.bw,h.bo,h.row,h.own⟩
theorem LSt.push {W w w1:World} {wb ob g c:Nat} {v:Value} {xs:List Int} {x:Int} {o:Obj} (h:LSt W w wb ob v xs)
  (ho:w1.ownsRow 0 3 1 (.slice (some ⟨g,0,none⟩) (xs.length+1) c) (xs.length+1) (xs.map (Value.int .i64)++[.int .i64 x])) (hc:Chg (fun k=>v.ownBlock=some k) (w.alloc o) w1) (hat:v.ownBlock=some g∨g=(w.alloc o).heap.size):
  Blk w1 ob 79 #[v]∧LSt W (w1.setCell ⟨ob,0,none⟩ (.slice (some ⟨g,0,none⟩) (xs.length+1) c)) wb ob (.slice (some ⟨g,0,none⟩) (xs.length+1) c) (xs++[x]):=by
 have n1:wb≠ob:=h.bw.ne_ h.bo (by decide)
 have n2:v.ownBlock≠some wb:=own_ne h.row h.bw (by decide)
 have n3:v.ownBlock≠some ob:=own_ne h.row h.bo (by decide)
 have hB:=(h.bo.alloc o).chg hc n3
 have hz:=h.bel.size
 have z1:=h.bo.lt
 simp only [World.size_alloc] at hat
 have hg:g≠ob:=by
  rcases hat with e | e
  ·intro e2;subst e2;exact n3 e
  ·omega
 refine ⟨hB,⟨?_,h.nwb,h.nob,((h.bw.alloc o).chg hc n2).far n1 _,hB.set_ 0 _,?_,fun k hk=>?_⟩⟩
 ·exact (((Chg.of_below h.bel).alloc o).trans hc (fun k _ hk=>h.own k hk)).setCell (p:=⟨ob,0,none⟩) (fun _=>h.nob) _ |>.below (Nat.le_refl _) (fun _ _ h=>h)
 ·have:=own_far ho (p:=⟨ob,0,none⟩) (by simp [Value.ownBlock];exact hg) (.slice (some ⟨g,0,none⟩) (xs.length+1) c)
  simpa using this
 ·simp [Value.ownBlock] at hk
  subst hk
  rcases hat with e | e
  ·exact h.own _ e
  ·omega
def WalkPost (W:World) (wb ob:Nat) (xs:List Int) (e:Ending) (w':World):Prop:=∃ v,e=.returned (.tuple #[])∧LSt W w' wb ob v xs
set_option maxRecDepth 100000 in
theorem walk_any (t:T):∀ (W w:World) (p:Option Addr) (wb ob:Nat) (v:Value) (xs:List Int),SeqAt W p t→LSt W w wb ob v xs→xs.length+t.size≤1000→
  Calls Tryz.prog 222 #[.pointer p,.pointer (some ⟨wb,0,none⟩),.pointer (some ⟨ob,0,none⟩)] w (WalkPost W wb ob (xs++t.list)):=by
 induction t with
 | nil=>
  intro W w p wb ob v xs hs h _
  obtain rfl:p=none:=hs
  have H:=Lib.hid h
  clear h
  go_enter Tryz.func222,Tryz.ntmps222
  go_wp2
  go_end0
  exact ⟨v,rfl,by simpa [T.list] using H.out⟩
 | node l x r ihl ihr=>
  intro W w p wb ob v xs hs h hz
  obtain ⟨b,lp,rp,rfl,hb,c0,c1,c2,_,r1,r2⟩:=seqCells W hs
  have h1:(T.node l x r).size=l.size+1+r.size:=rfl
  have z1:=T.len l
  obtain ⟨ys,hys⟩:∃ ys,ys=xs++l.list:=⟨_,rfl⟩
  have hyl:ys.length=xs.length+l.list.length:=by rw [hys];simp
  have HI1:=Lib.hid (ihl W w.drew lp wb ob v xs r1 h.drew (by omega))
  rw [←hys] at HI1
  have HI2:Hid (∀ (w:World) (v:Value),LSt W w wb ob v (ys++[x])→Calls Tryz.prog 222 #[.pointer rp,.pointer (some ⟨wb,0,none⟩),.pointer (some ⟨ob,0,none⟩)] w (WalkPost W wb ob (ys++[x]++r.list))):=
   fun w v h=>ihr W w rp wb ob v _ r2 h (by simp only [List.length_append,List.length_cons,List.length_nil];omega)
  have HF:Hid (xs++(T.node l x r).list=ys++[x]++r.list):=by unfold Hid;rw [hys];simp [T.list]
  have HZ:ys.length≤1000:=by omega
  have HB:=Lib.hid (show ∀ w',Below W.heap.size W w'→w'.cell? ⟨b,0,none⟩=some (.pointer lp)∧w'.cell? ⟨b,1,none⟩=some (.pointer rp)∧w'.cell? ⟨b,2,none⟩=some (.int .i64 x) from
   fun w' hw=>⟨(hw.cell (p:=⟨b,0,none⟩) hb).trans c0,(hw.cell (p:=⟨b,1,none⟩) hb).trans c1,(hw.cell (p:=⟨b,2,none⟩) hb).trans c2⟩)
  obtain ⟨d0,d1,d2⟩:=HB.out w h.bel
  have dw:w.cell? ⟨wb,0,none⟩=some (walkV wb ob):=h.bw.cell 0
  clear h hs r1 r2 h1 z1 hz c0 c1 c2 hyl hys ihl ihr
  go_enter Tryz.func222,Tryz.ntmps222
  go_wp2
  go_still_tail 5,(by kernel_rfl)
  go_wp2_with fail
  refine HI1.out.mono ?_
  rintro e w1 ⟨v1,rfl,hl1⟩
  have HL1:=Lib.hid hl1
  obtain ⟨e0,e1,e2⟩:=HB.out w1 hl1.bel
  have eo:w1.cell? ⟨ob,0,none⟩=some v1:=hl1.bo.cell 0
  have eo2:∀ o,(w1.alloc o).cell? ⟨ob,0,none⟩=some v1:=fun o=>(hl1.bo.alloc o).cell 0
  clear hl1 d0 d1 d2 dw HI1
  go_wp2
  have HL2:=Lib.hid (HL1.out.drew)
  go_region_law (first
   | (refine step_push _ (by rfl) (.tmp 12) (.tmp 17) 79 (by rfl) 3 (.int .i64 0) 8 Tryz.underlying79 infoInt' (by rfl) v1 ys.length (ys.map (Value.int .i64)) (by rfl) (HL1.out.row.alloc _).drew ⟨by omega,by omega⟩ (.int .i64 x) w1.heap.size (by rfl) (cell_new1 rfl _ _) (by rfl) ?_;intro g c w2 ho hc hat;have HP:=Lib.hid (HL1.out.push ho hc.undrew hat);have f1:w2.cell? ⟨ob,0,none⟩=some v1:=HP.out.1.cell 0;have f2:=HP.out.1.frozen 0;clear ho hc hat))
  all_goals
   have HP2:=Lib.hid HP.out.2
   obtain ⟨g0,g1,g2⟩:=HB.out _ HP2.out.bel
   have gw:=HP2.out.bw.cell 0
   have gw':(w2.setCell ⟨ob,0,none⟩ (.slice (some ⟨g,0,none⟩) (ys.length+1) c)).cell? ⟨wb,0,none⟩=some (walkV wb ob):=gw
   clear gw f1 f2 e0 e1 e2 eo eo2 HP HL1 HL2
   generalize (w2.setCell ⟨ob,0,none⟩ (.slice (some ⟨g,0,none⟩) (ys.length+1) c))=w3 at HP2 g0 g1 g2 gw' ⊢
   go_wp2
   go_still_tail 5,(by kernel_rfl)
   go_wp2_with fail
   refine (HI2.out _ _ HP2.out.drew).mono ?_
   rintro e w4 ⟨v4,rfl,hl4⟩
   have HL4:=Lib.hid hl4
   clear hl4 HI2 g0 g1 g2 gw'
   go_wp2
   go_end0
   exact ⟨v4,rfl,by rw [HF.out];exact HL4.out⟩
def ListPost (w:World) (xs:List Int) (e:Ending) (w':World):Prop:=∃ (A:Option Addr) (c:Nat),e=.returned (.slice A xs.length c)∧w'.ownsRow 0 3 1 (.slice A xs.length c) xs.length (xs.map (Value.int .i64))∧Ext w w'∧∀ k,(Value.slice A xs.length c).ownBlock=some k→w.heap.size≤k
set_option maxRecDepth 100000 in
theorem list_any (w:World) (p:Option Addr) (t:T) (hs:SeqAt w p t) (hz:t.size≤1000):
  Calls Tryz.prog 192 #[.pointer p] w (ListPost w t.list):=by
 have HS:=Lib.hid hs
 have HW:Hid (∀ W',LSt w W' (w.heap.size+1) w.heap.size (.slice none 0 0) []→Calls Tryz.prog 222 #[.pointer p,.pointer (some ⟨w.heap.size+1,0,none⟩),.pointer (some ⟨w.heap.size,0,none⟩)] W' (WalkPost w (w.heap.size+1) w.heap.size t.list)):=
  fun W' h=>by have:=walk_any t w W' p _ _ _ [] HS.out h (by simpa using hz);simpa using this
 clear hs
 go_enter Tryz.func192,Tryz.ntmps192
 go_wp2_with fail
 refine (HW.out _ ⟨((Below.refl _ _).alloc (Nat.le_refl _) _).alloc (by simp) _,by omega,Nat.le_refl _,?_,?_,World.ownsRow_nil _ _ _ _,fun k hk=>by simp [Value.ownBlock] at hk⟩).mono ?_
 ·have:=Blk.new (w.alloc (.cells #[.slice none 0 0] 79)) 223 #[walkV (w.heap.size+1) w.heap.size]
  simpa using this
 ·exact (Blk.new w 79 #[.slice none 0 0]).alloc _
 rintro e w1 ⟨v,rfl,h⟩
 have H:=Lib.hid h
 have d0:w1.cell? ⟨w.heap.size,0,none⟩=some v:=h.bo.cell 0
 clear h HW
 go_wp2
 go_ret
 obtain ⟨A,c,hv,_⟩:=own_slice' H.out.row
 subst hv
 exact ⟨A,c,rfl,H.out.row,H.out.bel,H.out.own⟩
def Some2 (w:World) (e:Ending) (w':World):Prop:=∃ v1 v2:Value,e=.returned (.tuple #[v1,v2])∧Ext w w'
theorem of_some (w:World) (A:Option Addr) (n c:Nat) (xs:List Int) (hx:IntsAt w A xs) (hl:xs.length=n):Calls Tryz.prog 139 #[.slice A n c] w (Some2 w):=by
 by_cases h:n≤400
 ·exact (of_yes w A n c xs hx hl h).mono fun e w' ⟨t,p,_,he,_,hx⟩=>⟨_,_,he,hx⟩
 ·exact (of_no w A n c (by omega)).mono fun e w' ⟨he,hw⟩=>⟨_,_,he,hw ▸ Ext.refl _⟩
theorem sjoin_some (w:World) (p q:Option Addr) (l r:T) (hl:SeqAt w p l) (hr:SeqAt w q r) (h1:l.size≤400) (h2:r.size≤400):Calls Tryz.prog 193 #[.pointer p,.pointer q] w (Some2 w):=by
 by_cases h:l.size+r.size≤400
 ·exact (sjoin_yes w p q l r hl hr h).mono fun e w' ⟨t,p,_,he,_,hx⟩=>⟨_,_,he,hx⟩
 ·exact (sjoin_no w p q l r hl hr h1 h2 (by omega)).mono fun e w' ⟨he,hw⟩=>⟨_,_,he,hw ▸ Ext.refl _⟩
def RowAt (w:World) (p:Option Addr) (xs:List Int):Prop:=∃ t,SeqAt w p t∧t.list=xs
theorem RowAt.ext {w w':World} {p:Option Addr} {xs:List Int} (h:RowAt w p xs) (he:Ext w w'):RowAt w' p xs:=by
 obtain ⟨t,h1,h2⟩:=h;exact ⟨t,h1.ext he,h2⟩
theorem row_list {w:World} {p:Option Addr} {xs:List Int} (h:RowAt w p xs) (hz:xs.length≤1000):Calls Tryz.prog 192 #[.pointer p] w (ListPost w xs):=by
 obtain ⟨t,h1,rfl⟩:=h;exact list_any w p t h1 (by rw [←T.len];exact hz)
def RowRes (w:World) (xs:List Int) (e:Ending) (w':World):Prop:=∃ p:Option Addr,e=.returned (.tuple #[.pointer p,.nilIface])∧RowAt w' p xs∧Ext w w'
theorem row_of {w:World} {A:Option Addr} {n c:Nat} {xs:List Int} (hx:IntsAt w A xs) (hl:xs.length=n) (h:n≤400):Calls Tryz.prog 139 #[.slice A n c] w (RowRes w xs):=
 (of_yes w A n c xs hx hl h).mono fun _ _ ⟨t,p,h1,he,h2,hx⟩=>⟨p,he,⟨t,h2,h1.1⟩,hx⟩
theorem row_join {w:World} {p q:Option Addr} {xs ys:List Int} (h1:RowAt w p xs) (h2:RowAt w q ys) (h:xs.length+ys.length≤400):Calls Tryz.prog 193 #[.pointer p,.pointer q] w (RowRes w (xs++ys)):=by
 obtain ⟨t,t1,rfl⟩:=h1
 obtain ⟨u,u1,rfl⟩:=h2
 rw [T.len,T.len] at h
 exact (sjoin_yes w p q t u t1 u1 h).mono fun _ _ ⟨v,p,h1,he,h2,hx⟩=>⟨p,he,⟨v,h2,h1.1⟩,hx⟩
def SplitRes (w:World) (xs:List Int) (i:Nat) (e:Ending) (w':World):Prop:=∃ p q:Option Addr,e=.returned (.tuple #[.pointer p,.pointer q,.nilIface])∧RowAt w' p (xs.take i)∧RowAt w' q (xs.drop i)∧Ext w w'
theorem row_split {w:World} {p:Option Addr} {xs:List Int} (h:RowAt w p xs) (z:xs.length≤400) (i:Nat) (hi:i≤xs.length):Calls Tryz.prog 191 #[.pointer p,.int .i64 i] w (SplitRes w xs i):=by
 obtain ⟨t,t1,rfl⟩:=h
 rw [T.len] at z hi
 exact (ssplit_yes w p t i t1 z hi).mono fun _ _ ⟨lo,hi,p,q,h1,h2,_,he,h3,h4,hx⟩=>⟨p,q,he,⟨lo,h3,h1⟩,⟨hi,h4,h2⟩,hx⟩
end Go.Proofs.YtkoajpeabicpdaaGreatDoor
namespace Go.Proofs.YtkoajpeabicpdaaGreatDoor
open Go Go.RowKit
structure KK (α:Type) where
 t:TypeId
 ok:α→Prop
 lit:α→Lit
 kv:α→Value
 keyed:Maps.Keyed Tryz.prog t
 key:∀ x,ok x→keyOf Tryz.prog t (kv x)=some (lit x)
 inv:∀ v l,keyOf Tryz.prog t v=some l→∃ x,ok x∧v=kv x
 inj:∀ x y,kv x=kv y→x=y
section
variable {α:Type} (k:KK α)
theorem KK.isKey {x:α} (h:k.ok x):WideAt.IsKeyLit (k.lit x):=k.keyed.key (k.key x h)
theorem KK.ne {x y:α} (hx:k.ok x) (hy:k.ok y) (h:x≠y):k.lit x≠k.lit y:=fun e=>by
 have h1:=k.key x hx
 rw [e] at h1
 exact h (k.inj _ _ (k.keyed.inj h1 (k.key y hy)))
end
def RV (v:Value):Option (DataW Value × List MemPlace):=some (.held v,[])
def VM {α:Type} (k:KK α) (w:World) (b N s:Nat) (m:α→Option Value):Prop:=
 ∃ D:DataW Value,w.ownsMap Tryz.prog k.t RV b N D∧Maps.size D=s∧∀ x,k.ok x→Maps.has D (k.lit x)=(m x).isSome∧∀ zd,D.atKey (k.lit x) zd=match m x with | some v=>.held v | none=>zd
def updV {α:Type} [DecidableEq α] (m:α→Option Value) (x:α) (v:Option Value):α→Option Value:=fun y=>if y=x then v else m y
section
variable {α:Type} {k:KK α} {w w':World} {b N s:Nat} {m:α→Option Value}
theorem VM.made (k:KK α) (w:World):VM k (w.alloc (.map #[] 0)) w.heap.size 0 0 (fun _=>none):=
 ⟨.map [],World.ownsMap_made _ _ _ _,rfl,fun x _=>⟨rfl,fun _=>rfl⟩⟩
theorem VM.lt (h:VM k w b N s m):b < w.heap.size:=by obtain ⟨D,h,_⟩:=h;exact h.lt
theorem VM.isMap (h:VM k w b N s m):∃ es clock,w.heap[b]?=some (.map es clock):=by
 obtain ⟨D,⟨es,clock,hb,_⟩,_⟩:=h;exact ⟨es,clock,hb⟩
theorem VM.chg {S:Nat→Prop} (h:VM k w b N s m) (hc:Chg S w w') (hn:¬ S b):VM k w' b N s m:=by
 obtain ⟨D,h1,r⟩:=h
 have hlt:=h1.lt
 obtain ⟨es,clock,hb,r1⟩:=h1
 exact ⟨D,⟨es,clock,(hc.block b hlt hn).trans hb,r1⟩,r⟩
theorem VM.ext (h:VM k w b N s m) (hb:Below w.heap.size w w'):VM k w' b N s m:=h.chg (Chg.of_below hb) (by have:=h.lt;omega)
theorem VM.mono (h:VM k w b N s m) {N':Nat} (hn:N≤N'):VM k w b N' s m:=by
 obtain ⟨D,h1,r⟩:=h
 exact ⟨D,h1.mono hn,r⟩
theorem VM.own_ne {base:Nat} {e:TypeId} {size:Nat} {v:Value} {n:Nat} {xs:List Value} (hm:VM k w b N s m) (h:w.ownsRow base e size v n xs):v.ownBlock≠some b:=by
 rcases h.2 with ⟨rfl,_⟩ | ⟨g,cap,cur,rfl,_,hh,_⟩
 ·simp [Value.ownBlock]
 ·intro he
  have:g=b:=by simpa [Value.ownBlock] using he
  subst this
  obtain ⟨es,clock,hb⟩:=hm.isMap
  rw [hh] at hb
  cases hb
theorem VM.blk_ne {g:Nat} {t:TypeId} {cs:Array Value} (hm:VM k w b N s m) (h:Blk w g t cs):g≠b:=by
 rintro rfl
 obtain ⟨es,clock,hb⟩:=hm.isMap
 unfold Blk at h
 rw [h] at hb;cases hb
theorem VM.look {T e:TypeId} (h:VM k w b N s m) (ht:Tryz.prog.underlying T=some (.map k.t e)) {z:Value} (hz:(zeroValue e).run Tryz.prog w=.ok z w) (x:α) (hx:k.ok x):
  (Instr.lookup T (.map (some b)) (k.kv x) false).run Tryz.prog w=.ok ((m x).getD z) w:=by
 obtain ⟨D,h1,h2,h3⟩:=h
 obtain ⟨v,ps,hr,hv⟩:=h1.lookup k.keyed ht hz (zd:=.held z) (zp:=[]) rfl (k.key x hx)
 rw [(h3 x hx).2] at hv
 rw [hr]
 cases hm:m x with
 | none=>rw [hm] at hv;simp [RV] at hv;rw [hv.1];rfl
 | some u=>rw [hm] at hv;simp [RV] at hv;rw [hv.1];rfl
theorem VM.look_ok {T e:TypeId} (h:VM k w b N s m) (ht:Tryz.prog.underlying T=some (.map k.t e)) {z:Value} (hz:(zeroValue e).run Tryz.prog w=.ok z w) (x:α) (hx:k.ok x):
  (Instr.lookup T (.map (some b)) (k.kv x) true).run Tryz.prog w=.ok (.tuple #[(m x).getD z,.bool (m x).isSome]) w:=by
 obtain ⟨D,h1,h2,h3⟩:=h
 obtain ⟨v,ps,hr,hv⟩:=h1.look_ok k.keyed ht hz (zd:=.held z) (zp:=[]) rfl (k.key x hx)
 rw [(h3 x hx).2] at hv
 rw [hr,(h3 x hx).1]
 cases hm:m x with
 | none=>rw [hm] at hv;simp [RV] at hv;rw [hv.1];rfl
 | some u=>rw [hm] at hv;simp [RV] at hv;rw [hv.1];rfl
variable [DecidableEq α]
theorem VM.put {T e:TypeId} (h:VM k w b N s m) (ht:Tryz.prog.underlying T=some (.map k.t e)) (hN:N < 1000000) (x:α) (hx:k.ok x) (v:Value):
  ∃ w',(Instr.mapUpdate T (.map (some b)) (k.kv x) v).run Tryz.prog w=.ok () w'∧VM k w' b (N+1) (if (m x).isSome then s else s+1) (updV m x (some v))∧Chg (fun j=>j=b) w w'∧w'.heap.size=w.heap.size:=by
 obtain ⟨D,h1,h2,h3⟩:=h
 obtain ⟨w',hr,ho,hg⟩:=h1.store k.keyed ht (by unfold maxLen;omega) (k.key x hx) (d:=.held v) (ps:=[]) rfl
 have hT:=h1.tidy k.keyed
 have hM:=h1.isMap
 refine ⟨w',hr,⟨_,ho,?_,fun y hy=>?_⟩,(Chg.of_grown hg.grown).mono (fun k _ hk=>by simpa using hk),?_⟩
 ·rw [Maps.size_put hT,(h3 x hx).1,h2]
 ·by_cases e:y=x
  ·subst e
   rw [Maps.has_put_same hM (k.isKey hy)]
   exact ⟨by simp [updV],fun zd=>by rw [Maps.atKey_put_same hM (k.isKey hy)];simp [updV]⟩
  ·rw [Maps.has_put_other (k.ne hy hx e)]
   exact ⟨by rw [(h3 y hy).1];simp [updV,e],fun zd=>by rw [Maps.atKey_put_other (k.ne hy hx e),(h3 y hy).2];simp [updV,e]⟩
 ·obtain ⟨es,clock,es',clock',hb,rfl⟩:=hg
  simp [Go.ChangeMaps.setBlock]
theorem VM.del {T e:TypeId} (h:VM k w b N s m) (ht:Tryz.prog.underlying T=some (.map k.t e)) (x:α) (hx:k.ok x):
  ∃ w',(∀ ty,(Builtin.delete_ #[T,k.t] ty #[.map (some b),k.kv x]).run Tryz.prog w=.ok (.tuple #[]) w')∧(∃ s',s'+(if (m x).isSome then 1 else 0)=s∧VM k w' b N s' (updV m x none))∧Chg (fun j=>j=b) w w'∧w'.heap.size=w.heap.size:=by
 obtain ⟨D,h1,h2,h3⟩:=h
 have hT:=h1.tidy k.keyed
 obtain ⟨w',hr,ho,hg⟩:=h1.drop k.keyed ht (k.key x hx) 0
 have hsz:=Maps.size_del (k:=k.lit x) hT
 rw [(h3 x hx).1,h2] at hsz
 refine ⟨w',fun ty=>hr,⟨_,hsz,_,ho,rfl,fun y hy=>?_⟩,(Chg.of_grown hg.grown).mono (fun k _ hk=>by simpa using hk),?_⟩
 ·by_cases e:y=x
  ·subst e
   rw [Maps.has_del_same]
   exact ⟨by simp [updV],fun zd=>by rw [Maps.atKey_del_same];simp [updV]⟩
  ·rw [Maps.has_del_other (k.ne hy hx e)]
   exact ⟨by rw [(h3 y hy).1];simp [updV,e],fun zd=>by rw [Maps.atKey_del_other (k.ne hy hx e),(h3 y hy).2];simp [updV,e]⟩
 ·obtain ⟨es,clock,es',clock',hb,rfl⟩:=hg
  simp [Go.ChangeMaps.setBlock]
end
structure VR {α:Type} (k:KK α) (w:World) (b r N s:Nat) (m:α→Option Value) (d:List α):Prop where
 rg:∃ (D:DataW Value) (left:Lit→Bool) (cnt:Nat),w.ranges Tryz.prog k.t RV b r N D left cnt∧Maps.size D=s∧cnt≤s∧(∀ x,k.ok x→(Maps.has D (k.lit x)=(m x).isSome∧∀ zd,D.atKey (k.lit x) zd=match m x with | some v=>.held v | none=>zd)∧(x∈d↔(m x).isSome=true∧left (k.lit x)=false))
 nd:d.Nodup
 okd:∀ x∈d,k.ok x
section
variable {α:Type} {k:KK α} {w w':World} {b r N s:Nat} {m:α→Option Value} {d:List α}
theorem VR.vm (h:VR k w b r N s m d):VM k w b N s m:=by
 obtain ⟨D,left,cnt,h1,h2,_,h3⟩:=h.rg
 exact ⟨D,h1.owns,h2,fun x hx=>(h3 x hx).1⟩
theorem VR.kept {S:Nat→Prop} (h:VR k w b r N s m d) (hc:Chg S w w') (hb:¬ S b) (hr:¬ S r):VR k w' b r N s m d:=by
 obtain ⟨D,left,cnt,h1,h2⟩:=h.rg
 have hbl:=h1.owns.lt
 have hrl:=h1.lt
 refine ⟨⟨D,left,cnt,?_,h2⟩,h.nd,h.okd⟩
 obtain ⟨es,clock,since,seen,c0,q1,q2,q3,q4,q5,q6⟩:=h1
 exact ⟨es,clock,since,seen,c0,(hc.block b hbl hb).trans q1,q2,q3,q4,(hc.block r hrl hr).trans q5,q6⟩
theorem VR.lt (h:VR k w b r N s m d):r < w.heap.size:=by obtain ⟨D,left,cnt,h1,_⟩:=h.rg;exact h1.lt
theorem VM.range {T e:TypeId} (h:VM k w b N s m) (ht:Tryz.prog.underlying T=some (.map k.t e)):
  ∃ w',(Instr.range T (.map (some b))).run Tryz.prog w=.ok (.pointer (some ⟨w.heap.size,0,none⟩)) w'∧VR k w' b w.heap.size N s m []∧Below w.heap.size w w'∧w'.heap.size=w.heap.size+1:=by
 obtain ⟨D,h1,h2,h3⟩:=h
 obtain ⟨w',hr,hrg,hg,hsz⟩:=h1.range k.keyed ht
 refine ⟨w',hr,⟨⟨D,_,_,hrg,h2,by omega,fun x hx=>⟨h3 x hx,?_⟩⟩,List.nodup_nil,by simp⟩,⟨hg.os,hg.tape,hg.output,hg.size,fun i hi=>hg.block i hi (by simp)⟩,hsz⟩
 rw [(h3 x hx).1]
 cases (m x).isSome <;> simp
theorem VR.next (h:VR k w b r N s m d) (ty:TypeId):
  ((Instr.next (.pointer (some ⟨r,0,none⟩)) false ty).run Tryz.prog w=.ok (.tuple #[.bool false]) w∧∀ x,k.ok x→(x∈d↔(m x).isSome=true))∨
  ∃ x v w',k.ok x∧x ∉ d∧m x=some v∧(Instr.next (.pointer (some ⟨r,0,none⟩)) false ty).run Tryz.prog w=.ok (.tuple #[.bool true,k.kv x,v]) w'∧VR k w' b r N s m (d++[x])∧w'.rangeLeft b r < w.rangeLeft b r∧Chg (fun j=>j=r) w w'∧w'.heap.size=w.heap.size∧
   (Instr.entry (.pointer (some ⟨r,0,none⟩))).run Tryz.prog w'=.ok (.tuple #[k.kv x,v]) w':=by
 obtain ⟨D,left,cnt,h1,h2,h4,h3⟩:=h.rg
 rcases h1.next k.keyed ty with ⟨h0,hl,hrun⟩ | ⟨key,v,kl,y,w',cnt',hkey,hlk,hv,hat,hrun,hrg,hlt,hgr,hsz,hen⟩
 ·exact .inl ⟨hrun,fun x hx=>by rw [(h3 x hx).2,hl];simp⟩
 ·obtain ⟨x,hx,rfl⟩:=k.inv key kl hkey
  have e:=k.key x hx
  rw [hkey] at e
  obtain rfl:=Option.some.inj e
  have hmx:m x=some v:=by
   have q:=(h3 x hx).1.2 (.held (.bool false))
   rw [hat] at q
   have q2:=(h3 x hx).1.2 (.held (.bool true))
   rw [hat] at q2
   simp [RV] at hv
   subst hv
   cases hm:m x with
   | none=>rw [hm] at q q2;simp at q q2;rw [q] at q2;simp at q2
   | some u=>rw [hm] at q;simp at q;rw [q]
  have hnd:x ∉ d:=fun hd=>by have:=((h3 x hx).2.1 hd).2;rw [hlk] at this;cases this
  refine .inr ⟨x,v,w',hx,hnd,hmx,hrun,⟨⟨D,_,cnt',hrg,h2,by omega,fun y hy=>⟨(h3 y hy).1,?_⟩⟩,?_,?_⟩,by rw [hrg.left_eq,h1.left_eq];exact hlt,(Chg.of_grown hgr).mono (fun j _ hj=>by simpa using hj),hsz,hen⟩
  ·by_cases e:y=x
   ·subst e
    simp [hmx,WideAt.sameKey_self (k.isKey hy)]
   ·have hs:(k.lit y).sameKey (k.lit x)=false:=by
     cases hs:(k.lit y).sameKey (k.lit x) with
     | false=>rfl
     | true=>exact absurd (WideAt.sameKey_eq hs) (k.ne hy hx e)
    rw [List.mem_append,(h3 y hy).2]
    simp [e,hs]
  ·rw [List.nodup_append]
   exact ⟨h.nd,by simp,fun a ha b hb e=>by
      have hb':b=x:=by simpa using hb
      exact hnd (hb' ▸ e ▸ ha)⟩
  ·intro y hy
   rcases List.mem_append.1 hy with hy | hy
   ·exact h.okd y hy
   ·have:y=x:=by simpa using hy
    subst this;exact hx
end
theorem laidOutK:laidOutB Tryz.prog=true:=by kernel_rfl
theorem keyTypeEK:Tryz.prog.keyType 93=true:=by kernel_rfl
theorem cellsEK:Tryz.prog.cellsOf 93=2:=by kernel_rfl
theorem cellsIK:Tryz.prog.cellsOf 3=1:=by kernel_rfl
theorem rowEK:(93:TypeId) < Tryz.prog.types.size:=of_decide_eq_true (by kernel_rfl)
theorem keyTypeEK2:Tryz.prog.keyTypeAt 2 93=true:=by kernel_rfl
theorem keyedEK:Maps.Keyed Tryz.prog 93:=Maps.Keyed.of_law (deep_law_laid laidOutK (m:=2) (by omega) rowEK keyTypeEK2 (by rw [Tryz.underlying93]))
theorem someTypesK:0 < Tryz.prog.types.size:=of_decide_eq_true (by kernel_rfl)
def okE (x:AK.Ed):Prop:=(Lit.int .i64 x.1).wf=true∧(Lit.int .i64 x.2).wf=true
theorem okE_of {x:AK.Ed} (h1:-1000≤x.1∧x.1≤1000000) (h2:-1000≤x.2∧x.2≤1000000):okE x:=⟨WalkArith.wf_i64 (by omega),WalkArith.wf_i64 (by omega)⟩
theorem keyOfE (x:AK.Ed) (h:okE x):∃ l,keyOf Tryz.prog 93 (edV x)=some l:=by
 obtain ⟨n,hn⟩:∃ n,Tryz.prog.types.size=n+1:=⟨Tryz.prog.types.size - 1,by have:=someTypesK;omega⟩
 unfold keyOf
 rw [Tryz.underlying93]
 have hf:(Value.agg #[.int .i64 x.1,.int .i64 x.2]).formed Tryz.prog 93=true:=by simp [Value.formed,Tryz.underlying93,cellsEK]
 simp only [keyTypeEK,hf,Bool.and_self,if_true]
 refine ⟨.string (keyBytes [.int .i64 x.1,.int .i64 x.2]),?_⟩
 rw [hn]
 simp [Program.keyLits,Tryz.underlying93,cellsEK,cellsIK,Value.cells,h.1,h.2]
theorem pairL {α:Type} {l:List α} (h:l.length=2):∃ a b,l=[a,b]:=by
 match l,h with
 | [a,b],_=>exact ⟨a,b,rfl⟩
theorem keyInvE (v:Value) (l:Lit) (h:keyOf Tryz.prog 93 v=some l):∃ x,okE x∧v=edV x:=by
 obtain ⟨n,hn⟩:∃ n,Tryz.prog.types.size=n+1:=⟨Tryz.prog.types.size - 1,by have:=someTypesK;omega⟩
 have ek:keyOf Tryz.prog 93 v=if Tryz.prog.keyType 93 && v.formed Tryz.prog 93 then (Tryz.prog.keyLits (n+1+1) 93 v.cells.toList).map fun ls=>.string (keyBytes ls) else none:=by
  unfold keyOf
  rw [Tryz.underlying93,hn]
 rw [ek] at h
 clear ek
 by_cases hf:v.formed Tryz.prog 93=true
 ·rw [keyTypeEK,hf] at h
  have hf2:=hf
  cases v with
  | agg cs=>
   have hf:cs.size=2:=by
    simp [Value.formed,Tryz.underlying93,cellsEK] at hf2
    exact hf2
   obtain ⟨cs⟩:=cs
   have hl:cs.length=2:=hf
   clear hf hf2 hn
   obtain ⟨a,b,rfl⟩:=pairL hl
   have ha:∃ x,a=.int .i64 x∧(Lit.int .i64 x).wf=true:=by
    cases a <;> simp [Program.keyLits,Tryz.underlying93,cellsEK,cellsIK,Value.cells] at h
    case int q z=>
     by_cases hq:q=IntKind.i64∧(Lit.int IntKind.i64 z).wf=true
     ·obtain ⟨rfl,hw⟩:=hq;exact ⟨z,rfl,hw⟩
     ·rw [if_neg (by intro w;obtain ⟨rfl,w2⟩:=w;exact hq ⟨rfl,w2⟩)] at h;simp at h
   have hb:∃ x,b=.int .i64 x∧(Lit.int .i64 x).wf=true:=by
    obtain ⟨x,rfl,hx⟩:=ha
    cases b <;> simp [Program.keyLits,Tryz.underlying93,cellsEK,cellsIK,Value.cells,hx] at h
    case int q z=>
     by_cases hq:q=IntKind.i64∧(Lit.int IntKind.i64 z).wf=true
     ·obtain ⟨rfl,hw⟩:=hq;exact ⟨z,rfl,hw⟩
     ·rw [if_neg (by intro w;obtain ⟨rfl,w2⟩:=w;exact hq ⟨rfl,w2⟩)] at h;simp at h
   obtain ⟨x,rfl,hx⟩:=ha
   obtain ⟨y,rfl,hy⟩:=hb
   exact ⟨(x,y),⟨hx,hy⟩,rfl⟩
  | _=>simp [Value.formed,Tryz.underlying93] at hf2
 ·rw [Bool.not_eq_true] at hf
  rw [hf] at h
  simp at h
noncomputable def litE (x:AK.Ed):Lit:=(keyOf Tryz.prog 93 (edV x)).getD (.bool false)
theorem litE_eq {x:AK.Ed} (h:okE x):keyOf Tryz.prog 93 (edV x)=some (litE x):=by
 obtain ⟨l,hl⟩:=keyOfE x h
 unfold litE;rw [hl];rfl
noncomputable def kE:KK AK.Ed:=⟨93,okE,litE,edV,keyedEK,fun x h=>litE_eq h,keyInvE,fun x y h=>by simp at h;exact Prod.ext h.1 h.2⟩
def kI:KK Int:=⟨3,fun x=>(Lit.int .i64 x).wf=true,fun x=>.int .i64 x,fun x=>.int .i64 x,Maps.int_keyed Tryz.underlying3,fun x h=>Maps.keyOf_int_mk Tryz.underlying3 h,fun v l h=>by obtain ⟨x,rfl,rfl,hw⟩:=Maps.keyOf_int_inv Tryz.underlying3 h;exact ⟨x,hw,rfl⟩,fun x y h=>by simpa using h⟩
end Go.Proofs.YtkoajpeabicpdaaGreatDoor
