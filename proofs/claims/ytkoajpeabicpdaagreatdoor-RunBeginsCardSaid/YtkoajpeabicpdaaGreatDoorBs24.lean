/-
How a disk lies in memory; walks of disk.New and (*Disk).step. New: for every number; step: over a disk that lies so.
-/
import Derived.Test.YtkoajpeabicpdaaGreatDoorRows
import Derived.Test.YtkoajpeabicpdaaGreatDoorBs4
import Derived.WalkKit
import Derived.WalkSpells
import Derived.Lib.Hide
import Derived.Outline
import Derived.RegionTactic
import Derived.BigRegion
import Derived.Deep.QuietTactic
import Derived.BigQuiet
import Derived.Deep.DeepFit
import Derived.Laws.MakeOwn
import Derived.Deep.RegionHeld3
import Derived.Deep.DrawnRows
import Derived.Test.YtkoajpeabicpdaaGreatDoorBs2
import Derived.Test.YtkoajpeabicpdaaGreatDoorBs8
import Derived.Deep.RegionHeldLaw
import Derived.Laws.BytesArg
set_option linter.unusedVariables false
set_option maxHeartbeats 8000000
namespace Go.Proofs.YtkoajpeabicpdaaGreatDoor
open Go Go.RowKit
structure Dsk where
 g:Nat
 gk:Nat
 ck:Nat
 gn:Nat
 cn:Nat
 wv:Value
def Dsk.fp (u:Dsk) (k:Nat):Prop:=k=u.g∨k=u.gk∨k=u.gn∨u.wv.ownBlock=some k
structure DAt (w:World) (u:Dsk) (n:Nat) (d:DK.D):Prop where
 ok:DK.Ok n d
 pos:0 < n
 le:n≤80
 blk:Blk w u.g 56 #[.slice (some ⟨u.gk,0,none⟩) n u.ck,.slice (some ⟨u.gn,0,none⟩) n u.cn,u.wv,.int .i64 d.left,.bool d.down]
 rk:w.ownsRow 0 160 32 (.slice (some ⟨u.gk,0,none⟩) n u.ck) n (DK.pagesV d.kept)
 rn:w.ownsRow 0 160 32 (.slice (some ⟨u.gn,0,none⟩) n u.cn) n (DK.pagesV d.now)
 rw:w.ownsRow 0 162 33 u.wv d.ws.length (DK.writesV d.ws)
 n1:u.gk≠u.gn
section
variable {w w':World} {u:Dsk} {n:Nat} {d:DK.D} {S:Nat→Prop}
theorem DAt.ggk (h:DAt w u n d):u.gk≠u.g:=by have:=own_ne h.rk h.blk (by decide);simpa [Value.ownBlock] using this
theorem DAt.ggn (h:DAt w u n d):u.gn≠u.g:=by have:=own_ne h.rn h.blk (by decide);simpa [Value.ownBlock] using this
theorem DAt.ggw (h:DAt w u n d):u.wv.ownBlock≠some u.g:=own_ne h.rw h.blk (by decide)
theorem own_ne2 {base base':Nat} {e e':TypeId} {size size':Nat} {v v':Value} {n n':Nat} {xs xs':List Value} (h:w.ownsRow base e size v n xs) (h':w.ownsRow base' e' size' v' n' xs') (hne:e≠e') {k:Nat} (hk:v.ownBlock=some k):v'.ownBlock≠some k:=by
 rcases h.2 with ⟨rfl,_⟩ | ⟨g,cap,cur,rfl,_,hg,_⟩
 ·simp [Value.ownBlock] at hk
 ·simp [Value.ownBlock] at hk;subst hk
  rcases h'.2 with ⟨rfl,_⟩ | ⟨g',cap',cur',rfl,_,hg',_⟩
  ·simp [Value.ownBlock]
  ·intro hk;simp [Value.ownBlock] at hk;subst hk
   rw [hg] at hg'
   injection hg' with h1
   injection h1 with _ h2
   exact hne h2
theorem DAt.gwk (h:DAt w u n d):u.wv.ownBlock≠some u.gk:=own_ne2 h.rk h.rw (by decide) rfl
theorem DAt.gwn (h:DAt w u n d):u.wv.ownBlock≠some u.gn:=own_ne2 h.rn h.rw (by decide) rfl
theorem DAt.lt (h:DAt w u n d) {k:Nat} (hk:u.fp k):k < w.heap.size:=by
 rcases hk with rfl | rfl | rfl | hk
 ·exact h.blk.lt
 ·exact own_lt h.rk (by simp [Value.ownBlock])
 ·exact own_lt h.rn (by simp [Value.ownBlock])
 ·exact own_lt h.rw hk
theorem DAt.chg (h:DAt w u n d) (hc:Chg S w w') (hn:∀ k,u.fp k→¬ S k):DAt w' u n d:=
 ⟨h.ok,h.pos,h.le,h.blk.chg hc (hn _ (.inl rfl)),own_chg h.rk hc (by intro k hk;simp [Value.ownBlock] at hk;exact hn k (.inr (.inl hk.symm))),
  own_chg h.rn hc (by intro k hk;simp [Value.ownBlock] at hk;exact hn k (.inr (.inr (.inl hk.symm)))),own_chg h.rw hc (fun k hk=>hn k (.inr (.inr (.inr hk)))),h.n1⟩
theorem DAt.ext (h:DAt w u n d) (hb:Below w.heap.size w w'):DAt w' u n d:=h.chg (Chg.of_below hb) (fun k hk=>by have:=h.lt hk;omega)
theorem DAt.left (h:DAt w u n d) (x:Int) (hx:-1≤x∧x≤9223372036854775807):DAt (w.setCell ⟨u.g,3,none⟩ (.int .i64 x)) u n { d with left:=x }:=
 ⟨⟨h.ok.lk,h.ok.ln,h.ok.kp,h.ok.np,h.ok.wp,hx⟩,h.pos,h.le,by simpa using h.blk.set_ 3 (.int .i64 x),own_far h.rk (by simpa [Value.ownBlock] using h.ggk) _,own_far h.rn (by simpa [Value.ownBlock] using h.ggn) _,own_far h.rw h.ggw _,h.n1⟩
theorem DAt.downs (h:DAt w u n d) (x:Bool):DAt (w.setCell ⟨u.g,4,none⟩ (.bool x)) u n { d with down:=x }:=
 ⟨⟨h.ok.lk,h.ok.ln,h.ok.kp,h.ok.np,h.ok.wp,h.ok.left⟩,h.pos,h.le,by simpa using h.blk.set_ 4 (.bool x),own_far h.rk (by simpa [Value.ownBlock] using h.ggk) _,own_far h.rn (by simpa [Value.ownBlock] using h.ggn) _,own_far h.rw h.ggw _,h.n1⟩
end
def DMoved (w:World) (u u':Dsk) (w':World):Prop:=u'.g=u.g∧Chg u.fp w w'∧∀ k,u'.fp k→u.fp k∨w.heap.size≤k
abbrev derrV (n:Int):Value:=.iface 52 (.int .i64 n)
theorem dnew_no (w:World) (n:Int) (h:n < 1∨80 < n):
  Calls Tryz.prog 7 #[.int .i64 n] w fun e w'=>e=.returned (.tuple #[.pointer none,derrV 1])∧Below w.heap.size w w':=by
 by_cases h1:n < 1
 ·clear h
  go_enter Tryz.func7,Tryz.ntmps7
  go_wp2
  go_ret2
  exact ⟨rfl,Below.refl _ _⟩
 ·have h2:80 < n:=by omega
  clear h
  go_enter Tryz.func7,Tryz.ntmps7
  go_wp2
  go_ret2
  exact ⟨rfl,Below.refl _ _⟩
def DNew (w:World) (n:Nat) (e:Ending) (w':World):Prop:=∃ u:Dsk,e=.returned (.tuple #[.pointer (some ⟨u.g,0,none⟩),.nilIface])∧DAt w' u n (DK.new n)∧Below w.heap.size w w'∧∀ k,u.fp k→w.heap.size≤k
theorem zpages (n:Nat):DK.pagesV (List.replicate n DK.zero)=List.replicate (n * 32) (Value.int .u8 0):=by
 induction n with
 | zero=>rfl
 | succ n ih=>
  rw [List.replicate_succ,DK.pagesV,rowsOf_cons]
  rw [DK.pagesV] at ih
  rw [ih,Nat.succ_mul,Nat.add_comm,←List.replicate_append_replicate]
  simp [DK.pgv,DK.zero]
theorem made_cells (S:Nat) (z:Value) (hS:0 < S) (c:Nat):(madeCells (List.replicate S z).toArray c).toList=List.replicate c z:=by
 apply List.ext_getElem?
 intro j
 by_cases hj:j < c
 ·have hm:j % S < S:=Nat.mod_lt _ hS
  simp [madeCells,hj,hm]
 ·simp [madeCells,hj]
theorem infoPage:(Tryz.prog.info? 160).map (fun i=>(i.zero,i.size,i.bytes))=some (some (.agg (List.replicate 32 (Value.int .u8 0)).toArray),32,32):=by kernel_rfl
theorem run_pages (n:Nat) (h:n≤80):∃ cs:Array Value,cs.toList=DK.pagesV (List.replicate n DK.zero)∧∀ w:World,
  (Instr.makeSlice 53 (.int .i64 (n:Int)) (.int .i64 (n:Int))).run Tryz.prog w=.ok (.slice (some ⟨w.heap.size,0,none⟩) n n) (w.alloc (.cells cs 160)):=by
 obtain ⟨i,hi,hz0,hz1,hz2⟩:=info_parts infoPage
 refine ⟨madeCells (Value.agg (List.replicate 32 (Value.int .u8 0)).toArray).cells (n * i.size),?_,fun w=>?_⟩
 ·rw [hz1,zpages];exact made_cells 32 _ (by decide) _
 ·have:=run_make w 53 160 i _ Tryz.underlying53 hi hz0 .i64 .i64 (n:Int) (n:Int) (by omega) (Int.le_refl _) (by rw [hz2];omega) (by omega)
  simpa using this
theorem dnew_end {w:World} {n a b:Nat} {cs:Array Value} (h1:0 < n) (h2:n≤80) (hcs:cs.toList=DK.pagesV (List.replicate n DK.zero)) (hab:(a=w.heap.size∧b=w.heap.size+1)∨(a=w.heap.size+1∧b=w.heap.size)):
  DNew w n (.returned (.tuple #[.pointer (some ⟨w.heap.size+1+1,0,none⟩),.nilIface]))
   (((w.alloc (.cells cs 160)).alloc (.cells cs 160)).alloc (.cells #[.slice (some ⟨a,0,none⟩) n n,.slice (some ⟨b,0,none⟩) n n,.slice none 0 0,.int .i64 (-1),.bool false] 56)).drew:=by
 have hsz:cs.size=n * 32:=by
  have:=congrArg List.length hcs
  rw [Array.length_toList] at this
  rw [this,DK.pagesV,rowsOf_len (f:=DK.pgv) (l:=List.replicate n DK.zero) (S:=32) (fun p hp=>DK.pgv_len ((DK.Ok.new n).kp p hp))];simp
 have r1:∀ W:World,(W.alloc (.cells cs 160)).ownsRow 0 160 32 (.slice (some ⟨W.heap.size,0,none⟩) n n) n (DK.pagesV (List.replicate n DK.zero)):=fun W=>by
  rw [←hcs];exact World.ownsRow_lit W cs n (Nat.zero_le _) (by unfold maxLen;omega) hsz
 have ra:=(((r1 w).alloc (.cells cs 160)).alloc (.cells #[.slice (some ⟨a,0,none⟩) n n,.slice (some ⟨b,0,none⟩) n n,.slice none 0 0,.int .i64 (-1),.bool false] 56)).drew
 have rb:=((r1 (w.alloc (.cells cs 160))).alloc (.cells #[.slice (some ⟨a,0,none⟩) n n,.slice (some ⟨b,0,none⟩) n n,.slice none 0 0,.int .i64 (-1),.bool false] 56)).drew
 rw [World.size_alloc] at rb
 have hB:Blk (((w.alloc (.cells cs 160)).alloc (.cells cs 160)).alloc (.cells #[.slice (some ⟨a,0,none⟩) n n,.slice (some ⟨b,0,none⟩) n n,.slice none 0 0,.int .i64 (-1),.bool false] 56)).drew (w.heap.size+1+1) 56 #[.slice (some ⟨a,0,none⟩) n n,.slice (some ⟨b,0,none⟩) n n,.slice none 0 0,.int .i64 (-1),.bool false]:=by
  have:=(Blk.new ((w.alloc (.cells cs 160)).alloc (.cells cs 160)) 56 #[.slice (some ⟨a,0,none⟩) n n,.slice (some ⟨b,0,none⟩) n n,.slice none 0 0,.int .i64 (-1),.bool false]).drew
  simpa using this
 refine ⟨⟨w.heap.size+1+1,a,n,b,n,.slice none 0 0⟩,rfl,⟨DK.Ok.new n,h1,h2,hB,?_,?_,World.ownsRow_nil _ _ _ _,?_⟩,?_,?_⟩
 ·rcases hab with ⟨rfl,rfl⟩ | ⟨rfl,rfl⟩
  ·exact ra
  ·exact rb
 ·rcases hab with ⟨rfl,rfl⟩ | ⟨rfl,rfl⟩
  ·exact rb
  ·exact ra
 ·show a≠b
  omega
 ·exact ((((Below.refl _ _).alloc (Nat.le_refl _) _).alloc (by simp) _).alloc (by simp;omega) _).drew
 ·rintro k (h | h | h | h)
  ·simp only at h;omega
  ·simp only at h;omega
  ·simp only at h;omega
  ·simp [Value.ownBlock] at h
set_option maxRecDepth 100000 in
theorem dnew_yes (w:World) (n:Nat) (h1:0 < n) (h2:n≤80):
  Calls Tryz.prog 7 #[.int .i64 n] w (DNew w n):=by
 have t1:¬ ((n:Int) < 1):=by omega
 have t2:decide ((80:Int) < n)=false:=by simp only [decide_eq_false_iff_not];omega
 have hc:∃ cs:Array Value,cs.toList=DK.pagesV (List.replicate n DK.zero)∧∀ w:World,
  (Instr.makeSlice 53 (.int .i64 (n:Int)) (.int .i64 (n:Int))).run Tryz.prog w=.ok (.slice (some ⟨w.heap.size,0,none⟩) n n) (w.alloc (.cells cs 160)):=run_pages n h2
 obtain ⟨cs,hcs,hmk⟩:=hc
 have HCS:=Lib.hid hcs
 clear hcs
 go_enter Tryz.func7,Tryz.ntmps7
 go_wp2
 go_region
 all_goals go_wp2
 all_goals go_ret2
 ·exact dnew_end h1 h2 HCS.out (Or.inl ⟨rfl,rfl⟩)
 ·exact dnew_end h1 h2 HCS.out (Or.inr ⟨rfl,rfl⟩)
theorem chg_cell (w:World) (g i:Nat) (v:Value):Chg (fun k=>k=g) w (w.setCell ⟨g,i,none⟩ v):=(Chg.refl (fun k=>k=g) w).setCell (p:=⟨g,i,none⟩) (fun _=>rfl) v
def DStep (w:World) (u:Dsk) (n:Nat) (d:DK.D) (e:Ending) (w':World):Prop:=e=.returned (.bool (!(DK.stopped d)))∧DAt w' u n (DK.step d)∧Chg (fun k=>k=u.g) w w'
theorem dstep_any (w:World) (u:Dsk) (n:Nat) (d:DK.D) (h:DAt w u n d):
  Calls Tryz.prog 101 #[.pointer (some ⟨u.g,0,none⟩)] w (DStep w u n d):=by
 obtain ⟨kept,now,ws,left,down⟩:=d
 have c3:w.cell? ⟨u.g,3,none⟩=some (.int .i64 left):=h.blk.cell 3
 have c4:w.cell? ⟨u.g,4,none⟩=some (.bool down):=h.blk.cell 4
 have f3:=h.blk.frozen 3
 have f4:=h.blk.frozen 4
 have hl:=h.ok.left
 simp only at hl
 obtain ⟨hl1,hl2⟩:=hl
 have HH:=Lib.hid h
 clear h
 by_cases e:down=true
 ·subst e
  go_enter Tryz.func101,Tryz.ntmps101
  go_wp2
  go_ret
  exact ⟨by simp [DK.stopped],by simpa [DK.step,DK.stopped] using HH.out.downs true,chg_cell _ _ _ _⟩
 ·have e':down=false:=by simpa using e
  clear e;subst e'
  by_cases e0:left=0
  ·subst e0
   go_enter Tryz.func101,Tryz.ntmps101
   go_wp2
   go_ret
   exact ⟨by simp [DK.stopped],by simpa [DK.step,DK.stopped] using HH.out.downs true,chg_cell _ _ _ _⟩
  ·have e1:(left == 0)=false:=by simpa using e0
   have HE:=Lib.hid e0
   clear e0
   go_enter Tryz.func101,Tryz.ntmps101
   go_wp2
   ·go_ret
    exact ⟨by simp [DK.stopped,HE.out],by have:=HH.out.left (-1) (by omega);rw [DK.step];simp [DK.stopped,HE.out];rwa [show max (left - 1) (-1)=-1 by omega],chg_cell _ _ _ _⟩
   ·go_ret
    exact ⟨by simp [DK.stopped,HE.out],by have:=HH.out.left (left - 1) (by omega);rw [DK.step];simp [DK.stopped,HE.out];rwa [show max (left - 1) (-1)=left - 1 by omega],chg_cell _ _ _ _⟩
theorem wpList_clone {P:Program} (W:World) {ops:Array Oper} {rest:List Oper} {o:Oper} {a:Act} {Q:Exit→Act→World→Prop} (hgd:o.guard=none) (s x:Operand) (t:TypeId)
  (ho:o.op=.call { callee:=.builtin .append,args:=#[s,x],argTypes:=#[t,t] })
  (e:TypeId) (z:Value) (size bytes:Nat) (ht:P.underlying t=some (.slice e)) (hinfo:(P.info? e).map (fun i=>(i.zero,i.size,i.bytes))=some (some z,size,bytes)) (hzs:z.cells.size=size) (hsz:0 < size)
  (hs:a.eval s=.slice (some ⟨W.heap.size,0,none⟩) 0 0)
  (ad:Addr) (m c:Nat) (news:List Value) (hx:a.eval x=.slice (some ad) m c) (hm:0 < m) (hl:news.length=m * size) (hnews:∀ j u,news[j]?=some u→(W.alloc (.cells #[] e)).cell? (ad.add j)=some u) (h1:∀ u∈news,u.oneCell'=true)
  (hb:m≤1000000∧bytes≤1000)
  (h:∀ g cap w',W.heap.size≤g→w'.ownsRow 0 e size (.slice (some ⟨g,0,none⟩) m cap) m news→Below W.heap.size W w'→wpList P ops Q rest (a.put o.dst (.slice (some ⟨g,0,none⟩) m cap)) w'):wpList P ops Q (o::rest) a (W.alloc (.cells #[] e)):=by
 obtain ⟨i,hi,hz0,hz1,hz2⟩:=info_parts hinfo
 have hmul:(0+m) * bytes≤140737488355328:=Nat.le_trans (Nat.mul_le_mul (show 0+m≤1000000 by omega) hb.2) (by decide)
 have hown:(W.alloc (.cells #[] e)).ownsRow 0 e size (.slice (some ⟨W.heap.size,0,none⟩) 0 0) 0 []:=World.ownsRow_lit W #[] 0 (Nat.zero_le _) (by unfold maxLen;omega) (by simp)
 refine wpList_append_own_at _ hgd s x t ho 0 e i z size bytes ht hi hz0 hz1 hz2 hzs hsz _ 0 [] hs hown ad m c news hx hl hnews h1 (by unfold maxLen;omega) hmul (Nat.zero_le _) ?_
 intro v' w' hown' hgr _ hat
 rw [List.nil_append,Nat.zero_add] at hown'
 obtain ⟨g,cap,rfl,_,_⟩:=own_form hown' hm
 simp [Value.ownBlock] at hat
 refine h g cap w' (by omega) hown' ?_
 have c1:=((Chg.of_below (Below.refl W.heap.size W)).alloc (.cells #[] e)).trans (Chg.of_grown hgr) (S':=fun k=>some k=(Value.slice (some ⟨W.heap.size,0,none⟩) 0 0).ownBlock) (fun k _ hk=>by simp [Value.ownBlock] at hk;omega)
 exact c1.below (Nat.le_refl _) (fun k _ hk=>hk)
theorem pagesV_one {ps:List DK.Pg}:∀ u∈DK.pagesV ps,u.oneCell'=true:=by
 intro u hu
 simp only [DK.pagesV,rowsOf,List.mem_flatMap] at hu
 obtain ⟨p,_,hp⟩:=hu
 simp only [DK.pgv,List.mem_map] at hp
 obtain ⟨x,_,rfl⟩:=hp
 rfl
theorem pgv_one {p:DK.Pg}:∀ u∈DK.pgv p,u.oneCell'=true:=by
 intro u hu
 simp only [DK.pgv,List.mem_map] at hu
 obtain ⟨x,_,rfl⟩:=hu
 rfl
def PClone (w:World) (n:Nat) (xs:List Value) (e:Ending) (w':World):Prop:=∃ g c,e=.returned (.slice (some ⟨g,0,none⟩) n c)∧w.heap.size≤g∧w'.ownsRow 0 160 32 (.slice (some ⟨g,0,none⟩) n c) n xs∧Below w.heap.size w w'
set_option maxRecDepth 100000 in
theorem pclone_any (w:World) (g n c:Nat) (ps:List DK.Pg) (hn:0 < n) (hn2:n≤80) (h:w.ownsRow 0 160 32 (.slice (some ⟨g,0,none⟩) n c) n (DK.pagesV ps)):
  Calls Tryz.prog 95 #[.slice (some ⟨g,0,none⟩) n c] w (PClone w n (DK.pagesV ps)):=by
 obtain ⟨X,hX⟩:∃ X,X=DK.pagesV ps:=⟨_,rfl⟩
 have h1:Hid (∀ u∈X,u.oneCell'=true):=by subst hX;exact pagesV_one
 rw [←hX] at h ⊢
 have HH:=Lib.hid h
 have HS:Hid (∀ j u,X[j]?=some u→(w.alloc (.cells #[] 160)).cell? ((⟨g,0,none⟩:Addr).add j)=some u):=fun j u hj=>(h.alloc (.cells #[] 160)).cells (g:=g) rfl j u hj
 have HL:Hid (X.length=n * 32):=h.1
 clear h hX
 have u87:=fun w a n c n' c'=>Lib.run_eql_slice_nil (P:=Tryz.prog) w 53 160 a n c n' c' Tryz.underlying53
 go_enter Tryz.func95,Tryz.ntmps95
 go_wp2_with (at_builtin;refine wpList_clone w rfl (.tmp 5) (.tmp 6) 53 rfl 160 (.agg (List.replicate 32 (Value.int .u8 0)).toArray) 32 32 Tryz.underlying53 infoPage (by rfl) (by decide) rfl ⟨g,0,none⟩ n c X rfl hn HL.out HS.out h1.out ⟨by omega,by omega⟩ ?_;intro g' c' w' hg ho hb)
 go_ret
 exact ⟨g',c',rfl,hg,ho,hb⟩
theorem infoByte:(Tryz.prog.info? 5).map (fun i=>(i.zero,i.size,i.bytes))=some (some (.int .u8 0),1,1):=by kernel_rfl
def BClone (w:World) (n:Nat) (xs:List Value) (e:Ending) (w':World):Prop:=∃ g c,e=.returned (.slice (some ⟨g,0,none⟩) n c)∧w.heap.size≤g∧w'.ownsRow 0 5 1 (.slice (some ⟨g,0,none⟩) n c) n xs∧Below w.heap.size w w'
set_option maxRecDepth 100000 in
theorem bclone_any (w:World) (g o n c:Nat) (p:DK.Pg) (hn:0 < n) (hn2:n≤100000) (hl:p.length=n) (h:w.rangeAt g o (DK.pgv p)):
  Calls Tryz.prog 66 #[.slice (some ⟨g,o,none⟩) n c] w (BClone w n (DK.pgv p)):=by
 obtain ⟨X,hX⟩:∃ X,X=DK.pgv p:=⟨_,rfl⟩
 have h1:Hid (∀ u∈X,u.oneCell'=true):=by subst hX;exact pgv_one
 have HL:Hid (X.length=n * 1):=by subst hX;simp [DK.pgv,hl,Hid]
 rw [←hX] at h ⊢
 have HS:Hid (∀ j u,X[j]?=some u→(w.alloc (.cells #[] 5)).cell? ((⟨g,o,none⟩:Addr).add j)=some u):=fun j u hj=>by
  rw [Addr.add_mid];exact (World.rangeAt_alloc h (.cells #[] 5)) j u hj
 clear h hX
 have u48:=fun w a n c n' c'=>Lib.run_eql_slice_nil (P:=Tryz.prog) w 38 5 a n c n' c' Tryz.underlying38
 go_enter Tryz.func66,Tryz.ntmps66
 go_wp2_with (at_builtin;refine wpList_clone w rfl (.tmp 5) (.tmp 6) 38 rfl 5 (.int .u8 0) 1 1 Tryz.underlying38 infoByte (by rfl) (by decide) rfl ⟨g,o,none⟩ n c X rfl hn HL.out HS.out h1.out ⟨by omega,by omega⟩ ?_;intro g' c' w' hg ho hb)
 go_ret
 exact ⟨g',c',rfl,hg,ho,hb⟩
theorem DAt.now_range {w:World} {u:Dsk} {n:Nat} {d:DK.D} (h:DAt w u n d) {i:Nat} {p:DK.Pg} (hp:d.now[i]?=some p):w.rangeAt u.gn (i * 32) (DK.pgv p):=
 own_range h.rn (fun _ _ hv=>rowsOf_get h.ok.pl hp hv)
def DRead (w:World) (p:DK.Pg) (e:Ending) (w':World):Prop:=∃ g c,e=.returned (.tuple #[.slice (some ⟨g,0,none⟩) 32 c,.nilIface])∧w.heap.size≤g∧w'.ownsRow 0 5 1 (.slice (some ⟨g,0,none⟩) 32 c) 32 (DK.pgv p)∧Below w.heap.size w w'
set_option maxRecDepth 100000 in
theorem dread_yes (w:World) (u:Dsk) (n:Nat) (d:DK.D) (h:DAt w u n d) (i:Nat) (p:DK.Pg) (hp:d.now[i]?=some p):
  Calls Tryz.prog 63 #[.pointer (some ⟨u.g,0,none⟩),.int .i64 i] w (DRead w p):=by
 have c1:w.cell? ⟨u.g,1,none⟩=some (.slice (some ⟨u.gn,0,none⟩) n u.cn):=h.blk.cell 1
 have hle:=h.le
 have hi:i < n:=by have:=(List.getElem?_eq_some_iff.1 hp).1;rwa [h.ok.ln] at this
 have HR:=Lib.hid (h.now_range hp)
 have HL:=Lib.hid (h.ok.np p (List.mem_of_getElem? hp))
 have h1:¬ ((i:Int) < 0):=by omega
 have h2:decide ((n:Int)≤(i:Int))=false:=by simp only [decide_eq_false_iff_not];omega
 clear h hp
 go_enter Tryz.func63,Tryz.ntmps63
 go_wp2_with fail
 refine (bclone_any w u.gn (i * 32) 32 32 p (by omega) (by omega) HL.out HR.out).mono ?_
 rintro e w' ⟨g,c,rfl,hg,ho,hb⟩
 go_wp2
 go_ret2
 exact ⟨g,c,rfl,hg,ho,hb⟩
def FoundPost (w:World) (xs:List Int) (x:Int) (e:Ending) (w':World):Prop:=e=.returned (.bool (decide (x∈xs)))∧w=w'
def IndexPost (w:World) (xs:List Int) (x:Int) (e:Ending) (w':World):Prop:=∃ r:Int,e=.returned (.int .i64 r)∧decide (0≤r)=decide (x∈xs)∧w=w'
theorem dindex_any (w:World) (A:Option Addr) (n c:Nat) (xs:List Int) (x:Int) (hx:IntsAt w A xs) (hn:xs.length=n) (hnb:n≤9223372036854775807):
  Calls Tryz.prog 134 #[.slice A n c,.int .i64 x] w (IndexPost w xs x):=by
 have HX:=Lib.hid hx
 have HN:=Lib.hid hn
 clear hx hn
 go_enter Tryz.func134,Tryz.ntmps134
 go_wp2
 go_loop [8] (fun v=>∃ k:Nat,k≤n∧v=.int .i64 k∧x ∉ xs.take k) (fun v=>n - (intOf v).toNat)
 case atStart=>exact ⟨0,Nat.zero_le _,rfl,by simp⟩
 case round=>
  obtain ⟨k,hk,rfl,ht⟩:=hrel
  have HT:=Lib.hid ht
  clear ht
  by_cases hlt:k < n
  ·rcases HX.out with h0 | ⟨b,off,rfl,_,hc⟩
   ·have:=HN.out;subst h0;simp at this;omega
   have hkx:k < xs.length:=by rw [HN.out];exact hlt
   obtain ⟨y,hy⟩:∃ y,xs[k]?=some y:=⟨_,List.getElem?_eq_getElem hkx⟩
   have c1:=hc k y hy
   have HY:=Lib.hid hy
   have z0:(0:Int)≤(k:Int):=by omega
   have z1:(k:Int) < (n:Int):=by omega
   clear hc hy hkx
   by_cases e:x=y
   ·have e2:(x == y)=true:=by simp [e]
    have HE:=Lib.hid e
    clear e
    go_wp2
    go_ret
    refine ⟨k,rfl,?_,rfl⟩
    rw [decide_eq_true (by omega),eq_comm,decide_eq_true_eq,HE.out]
    exact List.mem_of_getElem? HY.out
   ·have e2:(x == y)=false:=by simpa using e
    have HE:=Lib.hid e
    clear e
    go_wp2
    go_round
    case rel=>
     refine ⟨k+1,by omega,by go_num,?_⟩
     rw [take_snoc' HY.out,List.mem_append]
     rintro (h | h)
     ·exact HT.out h
     ·simp at h;exact HE.out h
    case measure=>simp [intOf];omega
  ·go_wp2
   go_ret
   refine ⟨-1,rfl,?_,rfl⟩
   have h:=HT.out
   rw [List.take_of_length_le (by have:=HN.out;omega)] at h
   rw [decide_eq_false (by omega),eq_comm,decide_eq_false_iff_not]
   exact h
theorem contains_any (w:World) (A:Option Addr) (n c:Nat) (xs:List Int) (x:Int) (hx:IntsAt w A xs) (hn:xs.length=n) (hnb:n≤9223372036854775807):
  Calls Tryz.prog 94 #[.slice A n c,.int .i64 x] w (FoundPost w xs x):=by
 have HX:=Lib.hid hx
 have HN:=Lib.hid hn
 clear hx hn
 go_enter Tryz.func94,Tryz.ntmps94
 go_wp2_with fail
 refine (dindex_any w A n c xs x HX.out HN.out hnb).mono ?_
 rintro e w' ⟨r,rfl,hr,rfl⟩
 have HR:=Lib.hid hr
 clear hr
 go_wp2
 all_goals go_ret
 all_goals (refine ⟨?_,rfl⟩;rw [←HR.out];simp;try omega)
def DSync (w:World) (u:Dsk) (n:Nat) (d:DK.D) (e:Ending) (w':World):Prop:=
 ∃ u':Dsk,e=.returned (if DK.stopped d then derrV 8 else .nilIface)∧DAt w' u' n (if DK.stopped d then DK.step d else DK.sync (DK.step d))∧DMoved w u u' w'
theorem dsync_no (w:World) (u:Dsk) (n:Nat) (d:DK.D) (h:DAt w u n d) (hs:DK.stopped d=true):
  Calls Tryz.prog 61 #[.pointer (some ⟨u.g,0,none⟩)] w (DSync w u n d):=by
 have HH:=Lib.hid h
 have HS:=Lib.hid hs
 clear h hs
 go_enter Tryz.func61,Tryz.ntmps61
 go_wp2_with fail
 refine (dstep_any w u n d HH.out).mono ?_
 rintro e w1 ⟨rfl,h1,c1⟩
 have H1:=Lib.hid h1
 have C1:=Lib.hid c1
 clear h1 c1
 rw [HS.out]
 go_wp2
 go_ret
 refine ⟨u,by rw [HS.out];rfl,by rw [HS.out];exact H1.out,rfl,C1.out.mono (fun k _ hk=>.inl hk),fun k hk=>.inl hk⟩
theorem sync_end {w w1 w2:World} {u:Dsk} {n g c:Nat} {d:DK.D} (h1:DAt w1 u n d) (c1:Chg (fun k=>k=u.g) w w1) (hg:w1.heap.size≤g) (ho:w2.ownsRow 0 160 32 (.slice (some ⟨g,0,none⟩) n c) n (DK.pagesV d.now)) (hb:Below w1.heap.size w1 w2):
  DAt ((w2.setCell ⟨u.g,0,none⟩ (.slice (some ⟨g,0,none⟩) n c)).setCell ⟨u.g,2,none⟩ (.slice none 0 0)) ⟨u.g,g,c,u.gn,u.cn,.slice none 0 0⟩ n (DK.sync d)∧
  DMoved w u ⟨u.g,g,c,u.gn,u.cn,.slice none 0 0⟩ ((w2.setCell ⟨u.g,0,none⟩ (.slice (some ⟨g,0,none⟩) n c)).setCell ⟨u.g,2,none⟩ (.slice none 0 0)):=by
 have h2:=h1.ext hb
 have hug:u.g < w1.heap.size:=h1.lt (.inl rfl)
 have hgn:u.gn < w1.heap.size:=h1.lt (.inr (.inr (.inl rfl)))
 refine ⟨⟨h1.ok.sync,h1.pos,h1.le,by simpa [DK.sync] using (h2.blk.set_ 0 (.slice (some ⟨g,0,none⟩) n c)).set_ 2 (.slice none 0 0),?_,?_,World.ownsRow_nil _ _ _ _,?_⟩,rfl,?_,?_⟩
 ·exact own_far (own_far ho (by simp [Value.ownBlock];omega) _) (by simp [Value.ownBlock];omega) _
 ·exact own_far (own_far h2.rn (by simpa [Value.ownBlock] using h1.ggn) _) (by simpa [Value.ownBlock] using h1.ggn) _
 ·show g≠u.gn
  omega
 ·have c2:Chg u.fp w w2:=(c1.mono (fun k _ hk=>Or.inl hk)).trans (Chg.of_below hb) (fun i hi hS=>absurd hS (by have:=c1.size;omega))
  exact (c2.setCell (p:=⟨u.g,0,none⟩) (fun _=>.inl rfl) _).setCell (p:=⟨u.g,2,none⟩) (fun _=>.inl rfl) _
 ·have:=c1.size
  rintro k (h | h | h | h)
  ·exact .inl (.inl h)
  ·simp only at h;right;omega
  ·exact .inl (.inr (.inr (.inl h)))
  ·simp [Value.ownBlock] at h
theorem dsync_yes (w:World) (u:Dsk) (n:Nat) (d:DK.D) (h:DAt w u n d) (hs:DK.stopped d=false):
  Calls Tryz.prog 61 #[.pointer (some ⟨u.g,0,none⟩)] w (DSync w u n d):=by
 have HH:=Lib.hid h
 have HS:=Lib.hid hs
 clear h hs
 go_enter Tryz.func61,Tryz.ntmps61
 go_wp2_with fail
 refine (dstep_any w u n d HH.out).mono ?_
 rintro e w1 ⟨rfl,h1,c1⟩
 have H1:=Lib.hid h1
 have C1:=Lib.hid c1
 have b1:w1.cell? ⟨u.g,1,none⟩=some (.slice (some ⟨u.gn,0,none⟩) n u.cn):=h1.blk.cell 1
 have hle:=h1.le
 have hps:=h1.pos
 clear h1 c1
 rw [HS.out]
 go_wp2_with fail
 refine (pclone_any w1 u.gn n u.cn (DK.step d).now hps hle H1.out.rn).mono ?_
 rintro e w2 ⟨g,c,rfl,hg,ho,hb⟩
 have HG:=Lib.hid hg
 have HO:=Lib.hid ho
 have HB:=Lib.hid hb
 have HD:=Lib.hid (H1.out.ext hb)
 have b2:w2.cell? ⟨u.g,2,none⟩=some u.wv:=HD.out.blk.cell 2
 have b0:w2.cell? ⟨u.g,0,none⟩=some (.slice (some ⟨u.gk,0,none⟩) n u.ck):=HD.out.blk.cell 0
 have f0:=HD.out.blk.frozen 0
 have f2:=HD.out.blk.frozen 2
 clear hg ho hb
 go_wp2
 go_ret
 obtain ⟨r1,r2⟩:=sync_end H1.out C1.out HG.out HO.out HB.out
 refine ⟨_,by rw [HS.out];rfl,by rw [HS.out];exact r1,r2⟩
theorem dsync_any (w:World) (u:Dsk) (n:Nat) (d:DK.D) (h:DAt w u n d):
  Calls Tryz.prog 61 #[.pointer (some ⟨u.g,0,none⟩)] w (DSync w u n d):=by
 by_cases hs:DK.stopped d=true
 ·exact dsync_no w u n d h hs
 ·exact dsync_yes w u n d h (by simpa using hs)
def wrErr (n:Nat) (d:DK.D) (i:Int) (b:List Int):Option Int:=
 if i < 0∨(n:Int)≤i then some 1 else if 32 < b.length then some 3 else if DK.stopped d then some 8 else none
def wrTo (n:Nat) (d:DK.D) (i:Int) (b:List Int):DK.D:=
 if i < 0∨(n:Int)≤i then d else if 32 < b.length then d else if DK.stopped d then DK.step d else DK.write (DK.step d) i.toNat b
def optErr:Option Int→Value
 | none=>.nilIface
 | some k=>derrV k
def DWrite (w:World) (u:Dsk) (n:Nat) (d:DK.D) (i:Int) (b:List Int) (e:Ending) (w':World):Prop:=
 ∃ u':Dsk,e=.returned (optErr (wrErr n d i b))∧DAt w' u' n (wrTo n d i b)∧DMoved w u u' w'
theorem DMoved.refl (w:World) (u:Dsk):DMoved w u u w:=⟨rfl,Chg.refl _ _,fun _ h=>.inl h⟩
theorem wr_range {w:World} {u:Dsk} {n:Nat} {d:DK.D} {i:Int} {b:List Int} (h:DAt w u n d) (hi:i < 0∨(n:Int)≤i):DWrite w u n d i b (.returned (derrV 1)) w:=
 ⟨u,by simp [wrErr,hi,optErr],by simp [wrTo,hi];exact h,DMoved.refl w u⟩
theorem wr_full {w:World} {u:Dsk} {n:Nat} {d:DK.D} {i:Int} {b:List Int} (h:DAt w u n d) (hi:¬ (i < 0∨(n:Int)≤i)) (hb:32 < b.length):DWrite w u n d i b (.returned (derrV 3)) w:=
 ⟨u,by simp [wrErr,hi,hb,optErr],by simp [wrTo,hi,hb];exact h,DMoved.refl w u⟩
theorem wr_down {w w1:World} {u:Dsk} {n:Nat} {d:DK.D} {i:Int} {b:List Int} (hi:¬ (i < 0∨(n:Int)≤i)) (hb:¬ 32 < b.length) (hs:DK.stopped d=true) (h1:DAt w1 u n (DK.step d)) (c1:Chg (fun k=>k=u.g) w w1):DWrite w u n d i b (.returned (derrV 8)) w1:=
 ⟨u,by simp [wrErr,hi,hb,hs,optErr],by simp [wrTo,hi,hb,hs];exact h1,rfl,c1.mono (fun k _ hk=>.inl hk),fun k hk=>.inl hk⟩
theorem put_cells (b:List Int):splice (DK.pgv DK.zero) 0 (DK.pgv b)=DK.pgv (DK.put b):=by
 simp [splice,DK.pgv,DK.put]
theorem dwrite_no (w:World) (u:Dsk) (n:Nat) (d:DK.D) (h:DAt w u n d) (i:Int) (hi:i < 0∨(n:Int)≤i) (A:Option Addr) (m c:Nat) (b:List Int):
  Calls Tryz.prog 60 #[.pointer (some ⟨u.g,0,none⟩),.int .i64 i,.slice A m c] w (DWrite w u n d i b):=by
 have c1:w.cell? ⟨u.g,1,none⟩=some (.slice (some ⟨u.gn,0,none⟩) n u.cn):=h.blk.cell 1
 have HE:Hid (DWrite w u n d i b (.returned (derrV 1)) w):=wr_range h hi
 have hle:=h.le
 clear h
 by_cases h1:i < 0
 ·clear hi
  go_enter Tryz.func60,Tryz.ntmps60
  go_wp2
  go_ret
  exact HE.out
 ·have h2:(n:Int)≤i:=by omega
  clear hi
  go_enter Tryz.func60,Tryz.ntmps60
  go_wp2
  go_ret
  exact HE.out
theorem dwrite_full (w:World) (u:Dsk) (n:Nat) (d:DK.D) (h:DAt w u n d) (i:Int) (hi:¬ (i < 0∨(n:Int)≤i)) (A:Option Addr) (m c:Nat) (b:List Int) (hm:b.length=m) (hb:32 < m):
  Calls Tryz.prog 60 #[.pointer (some ⟨u.g,0,none⟩),.int .i64 i,.slice A m c] w (DWrite w u n d i b):=by
 have c1:w.cell? ⟨u.g,1,none⟩=some (.slice (some ⟨u.gn,0,none⟩) n u.cn):=h.blk.cell 1
 have HE:Hid (DWrite w u n d i b (.returned (derrV 3)) w):=wr_full h hi (by omega)
 have hle:=h.le
 clear h
 have h1:¬ (i < 0):=by omega
 have h2:decide ((n:Int)≤i)=false:=by simp only [decide_eq_false_iff_not];omega
 have h3:(32:Int) < (m:Int):=by omega
 clear hi hm
 go_enter Tryz.func60,Tryz.ntmps60
 go_wp2
 go_ret
 exact HE.out
theorem dwrite_down (w:World) (u:Dsk) (n:Nat) (d:DK.D) (h:DAt w u n d) (i:Int) (hi:¬ (i < 0∨(n:Int)≤i)) (A:Option Addr) (m c:Nat) (b:List Int) (hm:b.length=m) (hb:m≤32) (hs:DK.stopped d=true):
  Calls Tryz.prog 60 #[.pointer (some ⟨u.g,0,none⟩),.int .i64 i,.slice A m c] w (DWrite w u n d i b):=by
 have c1:w.cell? ⟨u.g,1,none⟩=some (.slice (some ⟨u.gn,0,none⟩) n u.cn):=h.blk.cell 1
 have hle:=h.le
 have HH:=Lib.hid h
 have HS:=Lib.hid hs
 have HI:=Lib.hid hi
 have HM:=Lib.hid hm
 clear h hs
 have h1:¬ (i < 0):=by omega
 have h2:decide ((n:Int)≤i)=false:=by simp only [decide_eq_false_iff_not];omega
 have h3:decide ((32:Int) < (m:Int))=false:=by simp only [decide_eq_false_iff_not];omega
 clear hi hm
 go_enter Tryz.func60,Tryz.ntmps60
 go_wp2_with fail
 refine (dstep_any w u n d HH.out).mono ?_
 rintro e w1 ⟨rfl,k1,q1⟩
 have K1:=Lib.hid k1
 have Q1:=Lib.hid q1
 clear k1 q1
 rw [HS.out]
 go_wp2
 go_ret
 exact wr_down HI.out (by have:=HM.out;omega) HS.out K1.out Q1.out
theorem run_write_built (X:List Value) (hX:X.length=32) (i:Nat) (w:World):(Instr.build 162 #[(0,.int .i64 (i:Int)),(1,.agg X.toArray)]).run Tryz.prog w=.ok (.agg (Value.int .i64 (i:Int)::X).toArray) w:=by
 refine run_build w _ _ _ ?_
 match X,hX with
 | [a0,a1,a2,a3,a4,a5,a6,a7,a8,a9,b0,b1,b2,b3,b4,b5,b6,b7,b8,b9,c0,c1,c2,c3,c4,c5,c6,c7,c8,c9,d0,d1],_=>exact (by show Tryz.prog.built _ _=some _;kernel_rfl)
theorem infoWrite:(Tryz.prog.info? 162).map (fun i=>(i.zero,i.size,i.bytes))=some (some (.agg (Value.int .i64 0::List.replicate 32 (Value.int .u8 0)).toArray),33,40):=by kernel_rfl
theorem fold_write (i:Nat) (X:List Value) (hX:X.length=32):List.foldl (fun (cs:Array Value) (x:Value × Nat)=>cs.setIfInBounds (1+x.snd) x.fst) #[Value.int .i64 (i:Int),Value.int .u8 0,Value.int .u8 0,Value.int .u8 0,Value.int .u8 0,Value.int .u8 0,Value.int .u8 0,Value.int .u8 0,Value.int .u8 0,Value.int .u8 0,Value.int .u8 0,Value.int .u8 0,Value.int .u8 0,Value.int .u8 0,Value.int .u8 0,Value.int .u8 0,Value.int .u8 0,Value.int .u8 0,Value.int .u8 0,Value.int .u8 0,Value.int .u8 0,Value.int .u8 0,Value.int .u8 0,Value.int .u8 0,Value.int .u8 0,Value.int .u8 0,Value.int .u8 0,Value.int .u8 0,Value.int .u8 0,Value.int .u8 0,Value.int .u8 0,Value.int .u8 0,Value.int .u8 0] X.zipIdx=(Value.int .i64 (i:Int)::X).toArray:=by
 match X,hX with
 | [a0,a1,a2,a3,a4,a5,a6,a7,a8,a9,b0,b1,b2,b3,b4,b5,b6,b7,b8,b9,c0,c1,c2,c3,c4,c5,c6,c7,c8,c9,d0,d1],_=>exact (by show List.foldl _ _ _=List.toArray _;kernel_rfl)
theorem fold_slice (Y:List Value) (hY:Y.length=33):List.foldl (fun (cs:Array Value) (x:Value × Nat)=>cs.setIfInBounds x.snd x.fst) #[Value.int .i64 0,Value.int .u8 0,Value.int .u8 0,Value.int .u8 0,Value.int .u8 0,Value.int .u8 0,Value.int .u8 0,Value.int .u8 0,Value.int .u8 0,Value.int .u8 0,Value.int .u8 0,Value.int .u8 0,Value.int .u8 0,Value.int .u8 0,Value.int .u8 0,Value.int .u8 0,Value.int .u8 0,Value.int .u8 0,Value.int .u8 0,Value.int .u8 0,Value.int .u8 0,Value.int .u8 0,Value.int .u8 0,Value.int .u8 0,Value.int .u8 0,Value.int .u8 0,Value.int .u8 0,Value.int .u8 0,Value.int .u8 0,Value.int .u8 0,Value.int .u8 0,Value.int .u8 0,Value.int .u8 0] Y.zipIdx=Y.toArray:=by
 match Y,hY with
 | y::X,h=>
  match X,(show X.length=32 by simpa using h) with
  | [a0,a1,a2,a3,a4,a5,a6,a7,a8,a9,b0,b1,b2,b3,b4,b5,b6,b7,b8,b9,c0,c1,c2,c3,c4,c5,c6,c7,c8,c9,d0,d1],_=>exact (by show List.foldl _ _ _=List.toArray _;kernel_rfl)
theorem cell_setCells_far {w:World} {p:Addr} {v:Value} (h:w.cell? p=some v) {b:Nat} (hb:p.block≠b) (o:Nat) (vs:List Value):(w.setCells b o vs).cell? p=some v:=by
 rw [World.cell?_setCells_out b vs o w p (fun e _=>absurd e hb)];exact h
theorem byteSize:(Tryz.prog.info? 5).map (·.size)=some 1:=by kernel_rfl
def CopyOk (w:World) (A:Option Addr) (b:List Int) (m H:Nat):Prop:=
 (DK.pgv b).length=Nat.min m 32∧(0 < (DK.pgv b).length→(some (⟨H,0,none⟩:Addr))=some ⟨H,0,none⟩∧∃ ad,A=some ad∧∀ j v,(DK.pgv b)[j]?=some v→w.cell? (ad.add j)=some v)
theorem bytes_copy {w:World} {A:Option Addr} {b:List Int} {m:Nat} (h:BytesAt w A b) (hm:b.length=m) (h32:m≤32) (H:Nat):CopyOk w A b m H:=by
 have e:(DK.pgv b).length=m:=by simp [DK.pgv,hm]
 refine ⟨by rw [e];exact (Nat.min_eq_left h32).symm,fun hp=>⟨rfl,?_⟩⟩
 rcases h with h | ⟨bb,off,rfl,_,hx⟩
 ·subst h;simp [DK.pgv] at hp
 ·refine ⟨_,rfl,fun j v hv=>?_⟩
  simp only [DK.pgv,List.getElem?_map,Option.map_eq_some_iff] at hv
  obtain ⟨x,h1,rfl⟩:=hv
  rw [Addr.add_mid];exact hx j x h1
theorem DAt.setNow {w:World} {u:Dsk} {n:Nat} {d:DK.D} (h:DAt w u n d) {i:Nat} (hi:i < n) {p:DK.Pg} (hp:p.length=32):DAt (w.setCells u.gn (i * 32) (DK.pgv p)) u n { d with now:=d.now.set i p }:=by
 have c:Chg (fun k=>k=u.gn) w (w.setCells u.gn (i * 32) (DK.pgv p)):=chg_setCells _ _ _ (Chg.refl _ _) (fun _=>rfl)
 have hl:i < d.now.length:=by rw [h.ok.ln];exact hi
 have hr:=own_setCells (DK.pgv p) (i * 32) w _ h.rn (by rw [DK.pgv_len hp,DK.pagesV,rowsOf_len h.ok.pl,h.ok.ln];omega)
 rw [DK.pagesV,rowsOf_set h.ok.pl hl (DK.pgv_len hp)] at hr
 refine ⟨⟨h.ok.lk,by simpa using h.ok.ln,h.ok.kp,?_,h.ok.wp,h.ok.left⟩,h.pos,h.le,h.blk.chg c (fun e=>h.ggn e.symm),own_chg h.rk c (by intro k hk;simp [Value.ownBlock] at hk;have:=h.n1;omega),hr,own_chg h.rw c (by rintro k hk rfl;exact h.gwn hk),h.n1⟩
 intro q hq
 rcases DK.mem_set hq with hq | rfl
 ·exact h.ok.np q hq
 ·exact hp
theorem DAt.setWs {w w4:World} {u:Dsk} {n:Nat} {d:DK.D} (h:DAt w u n d) {i:Nat} (hi:i < n) {p:DK.Pg} (hp:p.length=32) {o:Obj} {g c:Nat}
  (hr:w4.ownsRow 0 162 33 (.slice (some ⟨g,0,none⟩) (d.ws.length+1) c) (d.ws.length+1) (DK.writesV d.ws++DK.wrv (i,p))) (hg:(w.alloc o).drew.grownBy w4 u.wv.ownBlock) (hat:u.wv.ownBlock=some g∨g=w.heap.size+1):
  DAt (w4.setCell ⟨u.g,2,none⟩ (.slice (some ⟨g,0,none⟩) (d.ws.length+1) c)) ⟨u.g,u.gk,u.ck,u.gn,u.cn,.slice (some ⟨g,0,none⟩) (d.ws.length+1) c⟩ n { d with ws:=d.ws++[(i,p)] }∧
  Chg u.fp w (w4.setCell ⟨u.g,2,none⟩ (.slice (some ⟨g,0,none⟩) (d.ws.length+1) c)):=by
 have c1:Chg (fun k=>u.wv.ownBlock=some k) w w4:=(((Chg.refl _ w).alloc o).drew).trans ((Chg.of_grown hg).mono (fun k _ hk=>hk.symm)) (fun _ _ h=>h)
 have hug:u.g < w.heap.size:=h.lt (.inl rfl)
 have hge:u.g≠g:=by rcases hat with h' | h';(rintro rfl;exact h.ggw h');omega
 have hw:DK.writesV d.ws++DK.wrv (i,p)=DK.writesV (d.ws++[(i,p)]):=by rw [DK.writesV,DK.writesV,rowsOf_app,rowsOf_one]
 rw [hw] at hr
 refine ⟨⟨⟨h.ok.lk,h.ok.ln,h.ok.kp,h.ok.np,?_,h.ok.left⟩,h.pos,h.le,by simpa using (h.blk.chg c1 h.ggw).set_ 2 (.slice (some ⟨g,0,none⟩) (d.ws.length+1) c),?_,?_,?_,h.n1⟩,?_⟩
 ·intro x hx
  simp at hx
  rcases hx with hx | rfl
  ·exact h.ok.wp x hx
  ·exact ⟨hp,hi⟩
 ·exact own_far (own_chg h.rk c1 (by intro k hk;simp [Value.ownBlock] at hk;subst hk;exact h.gwk)) (by simpa [Value.ownBlock] using h.ggk) _
 ·exact own_far (own_chg h.rn c1 (by intro k hk;simp [Value.ownBlock] at hk;subst hk;exact h.gwn)) (by simpa [Value.ownBlock] using h.ggn) _
 ·show World.ownsRow _ _ _ _ _ (d.ws++[(i,p)]).length _
  rw [List.length_append]
  exact own_far hr (by simp [Value.ownBlock];omega) _
 ·exact (c1.mono (fun k _ hk=>.inr (.inr (.inr hk)))).setCell (p:=⟨u.g,2,none⟩) (fun _=>.inl rfl) _
theorem range_grown {w w':World} {row:Option Nat} {b o:Nat} {cs:List Value} (h:w.rangeAt b o cs) (hg:w.grownBy w' row) (hn:some b≠row):w'.rangeAt b o cs:=fun j v hv=>hg.cell (h j v hv) hn
theorem news_new {w:World} {H:Nat} (hH:w.heap.size=H) (Y:List Value) (t:TypeId):∀ j u,Y[j]?=some u→(w.alloc (.cells Y.toArray t)).cell? ((⟨H,0,none⟩:Addr).add j)=some u:=by
 subst hH
 intro j u hj
 rw [Addr.add_mid,Nat.zero_add,cell_of_row _ _ j Y.toArray t (0,0) (heap_alloc_new w _)]
 simpa using hj
theorem wpList_copy_page {P:Program} (W:World) {ops:Array Oper} {rest:List Oper} {o:Oper} {a:Act} {Q:Exit→Act→World→Prop} (hgd:o.guard=none) (d s:Operand) (dT:TypeId)
  (ho:o.op=.call { callee:=.builtin .copy,args:=#[d,s],argTypes:=#[dT,dT] }) (elem:TypeId) (hu:P.underlying dT=some (.slice elem)) (hsz:(P.info? elem).map (·.size)=some 1) (t:TypeId)
  (A:Option Addr) (m c:Nat) (b:List Int) (hd:a.eval d=.slice (some ⟨W.heap.size,0,none⟩) 32 32) (hs:a.eval s=.slice A m c) (hok:∀ w',Below W.heap.size W w'→CopyOk w' A b m W.heap.size) (hlen:b.length≤32)
  (h:∀ w',Hid (w'.heap[W.heap.size]?=some (.cells (DK.pgv (DK.put b)).toArray t (0,0)))→Below W.heap.size W w'→wpList P ops Q rest (a.put o.dst (goInt (DK.pgv b).length)) w'):
  wpList P ops Q (o::rest) a (W.alloc (.cells #[.int .u8 0,.int .u8 0,.int .u8 0,.int .u8 0,.int .u8 0,.int .u8 0,.int .u8 0,.int .u8 0,.int .u8 0,.int .u8 0,.int .u8 0,.int .u8 0,.int .u8 0,.int .u8 0,.int .u8 0,.int .u8 0,.int .u8 0,.int .u8 0,.int .u8 0,.int .u8 0,.int .u8 0,.int .u8 0,.int .u8 0,.int .u8 0,.int .u8 0,.int .u8 0,.int .u8 0,.int .u8 0,.int .u8 0,.int .u8 0,.int .u8 0,.int .u8 0] t)):=by
 have hz:#[.int .u8 0,.int .u8 0,.int .u8 0,.int .u8 0,.int .u8 0,.int .u8 0,.int .u8 0,.int .u8 0,.int .u8 0,.int .u8 0,.int .u8 0,.int .u8 0,.int .u8 0,.int .u8 0,.int .u8 0,.int .u8 0,.int .u8 0,.int .u8 0,.int .u8 0,.int .u8 0,.int .u8 0,.int .u8 0,.int .u8 0,.int .u8 0,.int .u8 0,.int .u8 0,.int .u8 0,.int .u8 0,.int .u8 0,.int .u8 0,.int .u8 0,.int .u8 0]=(DK.pgv DK.zero).toArray:=by kernel_rfl
 rw [hz]
 have hb:Below W.heap.size W (W.alloc (.cells (DK.pgv DK.zero).toArray t)):=(Below.refl _ _).alloc (Nat.le_refl _) _
 refine wpList_copy_splice hgd d s dT dT ho elem hu hsz _ A 32 32 m c hd hs W.heap.size 0 (DK.pgv DK.zero) t (heap_alloc_new _ _) (DK.pgv b) (hok _ hb).1 (hok _ hb).2 (by simp [DK.pgv,DK.zero];exact hlen) pgv_one W.heap.size W hb (Nat.le_refl _) ?_
 intro w' hg hbe
 rw [put_cells] at hg
 exact h w' hg hbe
theorem wr_yes {w w5:World} {u u':Dsk} {n:Nat} {d:DK.D} {i:Nat} {b:List Int} (hi:i < n) (hb:b.length≤32) (hs:DK.stopped d=false) (h5:DAt w5 u' n (DK.write (DK.step d) i b)) (hm:DMoved w u u' w5):DWrite w u n d i b (.returned .nilIface) w5:=by
 have h1:¬ ((i:Int) < 0∨(n:Int)≤i):=by omega
 have h2:¬ 32 < b.length:=by omega
 exact ⟨u',by simp only [wrErr,if_neg h1,if_neg h2,hs];rfl,by simp only [wrTo,if_neg h1,if_neg h2,hs];exact h5,hm⟩
theorem wr_moved {w w1 w2 w3 w5:World} {u:Dsk} {g c L:Nat} (q1:Chg (fun k=>k=u.g) w w1) (b2:Below w1.heap.size w1 w2) (c3:Chg (fun k=>k=u.gn) w2 w3) (c5:Chg u.fp w3 w5) (hat:u.wv.ownBlock=some g∨g=w3.heap.size+1):
  DMoved w u ⟨u.g,u.gk,u.ck,u.gn,u.cn,.slice (some ⟨g,0,none⟩) L c⟩ w5:=by
 have e1:Chg u.fp w w1:=q1.mono (fun k _ hk=>.inl hk)
 have e2:Chg u.fp w w2:=e1.trans (Chg.of_below b2) (fun i hi hS=>absurd hS (by have:=e1.size;omega))
 have e3:Chg u.fp w w3:=e2.trans c3 (fun i _ hS=>.inr (.inr (.inl hS)))
 have e5:Chg u.fp w w5:=e3.trans c5 (fun _ _ h=>h)
 refine ⟨rfl,e5,?_⟩
 have:=e3.size
 rintro k (h | h | h | h)
 ·exact .inl (.inl h)
 ·exact .inl (.inr (.inl h))
 ·exact .inl (.inr (.inr (.inl h)))
 ·simp [Value.ownBlock] at h
  subst h
  rcases hat with h' | h'
  ·exact .inl (.inr (.inr (.inr h')))
  ·right;omega
set_option linter.unusedSimpArgs false in
set_option maxRecDepth 100000 in
theorem dwrite_yes (w:World) (u:Dsk) (n:Nat) (d:DK.D) (h:DAt w u n d) (i:Nat) (hi:i < n) (A:Option Addr) (m c:Nat) (b:List Int) (hm:b.length=m) (hb:m≤32) (hs:DK.stopped d=false) (hws:d.ws.length≤10000)
  (hA:BytesAt w A b) (hAb:b≠[]→∀ x,A=some x→x.block≠u.g):
  Calls Tryz.prog 60 #[.pointer (some ⟨u.g,0,none⟩),.int .i64 i,.slice A m c] w (DWrite w u n d i b):=by
 have c1:w.cell? ⟨u.g,1,none⟩=some (.slice (some ⟨u.gn,0,none⟩) n u.cn):=h.blk.cell 1
 have hle:=h.le
 have HH:=Lib.hid h
 have HS:=Lib.hid hs
 have HM:=Lib.hid hm
 have HA:=Lib.hid hA
 have HAb:=Lib.hid hAb
 have HWS:=Lib.hid hws
 clear h hs hA hAb hws
 have h1:¬ ((i:Int) < 0):=by omega
 have h2:decide ((n:Int)≤(i:Int))=false:=by simp only [decide_eq_false_iff_not];omega
 have h3:decide ((32:Int) < (m:Int))=false:=by simp only [decide_eq_false_iff_not];omega
 clear hm
 go_enter Tryz.func60,Tryz.ntmps60
 go_wp2_with fail
 refine (dstep_any w u n d HH.out).mono ?_
 rintro e w1 ⟨rfl,k1,q1⟩
 have K1:=Lib.hid k1
 have Q1:=Lib.hid q1
 have HA1:Hid (BytesAt w1 A b):=HA.out.chg q1 HAb.out
 have HA2:Hid (∀ w',Below w1.heap.size w1 w'→CopyOk w' A b m w1.heap.size):=fun w' hw=>bytes_copy (HA1.out.ext hw) HM.out hb _
 have HLE:Hid (b.length≤32):=by have:=HM.out;simp only [Hid];omega
 clear k1 q1
 rw [HS.out]
 go_wp2_with (with_reducible refine wpList_copy_page w1 rfl (.tmp 31) (.tmp 32) 38 rfl 5 Tryz.underlying38 byteSize 160 A m c b rfl rfl HA2.out HLE.out ?_;intro w2 HG2 hB2)
 have HB2:=Lib.hid hB2
 have HD2:=Lib.hid (K1.out.ext hB2)
 have d1:w2.cell? ⟨u.g,1,none⟩=some (.slice (some ⟨u.gn,0,none⟩) n u.cn):=HD2.out.blk.cell 1
 have d2:w2.cell? ⟨u.g,2,none⟩=some u.wv:=HD2.out.blk.cell 2
 have HNE:Hid (u.gn < w1.heap.size∧u.g < w1.heap.size∧u.g≠u.gn):=⟨K1.out.lt (.inr (.inr (.inl rfl))),K1.out.lt (.inl rfl),Ne.symm K1.out.ggn⟩
 obtain ⟨X,hX⟩:∃ X,X=DK.pgv (DK.put b):=⟨_,rfl⟩
 rw [←hX] at HG2
 have hXl:X.length=32:=by rw [hX];exact DK.pgv_len (DK.put_len (by rw [HM.out];exact hb))
 have hX1:∀ v∈X,v.oneCell'=true:=by rw [hX];exact pgv_one
 have HX:=Lib.hid hX
 have r1:w2.rangeAt w1.heap.size 0 X:=by
  have:=World.rangeAt_of_block HG2.out 0 32
  rwa [show (X.toArray.extract 0 (0+32)).toList=X by simp [←hXl]] at this
 have r2:w2.there u.gn (i * 32) 32:=own_there HD2.out.rn (by omega)
 have hu:=Tryz.underlying160
 have hinf:(Tryz.prog.info? 160).map (·.size)=some X.length:=by rw [hXl];kernel_rfl
 have z0:(0:Int)≤(i:Int):=by omega
 have z1:(i:Int) < (n:Int):=by omega
 have p0:u.g≠w1.heap.size:=by have:=HNE.out.2.1;omega
 have p1:u.g≠u.gn:=HNE.out.2.2
 have p2:w1.heap.size≠u.gn:=by have:=HNE.out.1;omega
 clear hX hB2
 go_region_held (fun w'=>w'.cell? ⟨u.g,1,none⟩=some (.slice (some ⟨u.gn,0,none⟩) n u.cn)∧w'.rangeAt w1.heap.size 0 X∧w'.there u.gn (i * 32) 32)
  ((go_split_ands;refine ⟨?_,?_,?_⟩ <;> first | assumption | (exact cell_setCells_far (by assumption) p1 _ _) | (exact World.rangeAt_setCells_apart (by assumption) _ _ _ (.inl p2)) | (exact World.there_setCells (by assumption) _ _ _))) (fail)
 have HD3:Hid (DAt (w2.drew.setCells u.gn (i * 32) X) u n { DK.step d with now:=(DK.step d).now.set i (DK.put b) }):=by
  rw [HX.out];exact (HD2.out.chg ((Chg.refl (fun _=>False) w2).drew) (fun _ _ h=>h)).setNow hi (DK.put_len (by rw [HM.out];exact hb))
 have r3:(w2.drew.setCells u.gn (i * 32) X).rangeAt w1.heap.size 0 X:=World.rangeAt_setCells_apart (w:=w2.drew) r1 _ _ _ (.inl p2)
 have HC3:Hid (Chg (fun k=>k=u.gn) w2 (w2.drew.setCells u.gn (i * 32) X)):=chg_setCells _ _ _ ((Chg.refl _ w2).drew) (fun _=>rfl)
 obtain ⟨w3,hw3⟩:∃ w3,w3=w2.drew.setCells u.gn (i * 32) X:=⟨_,rfl⟩
 rw [←hw3] at HD3 HC3 r3
 rw [←hw3]
 obtain ⟨Y,hY⟩:∃ Y,Y=Value.int .i64 (i:Int)::X:=⟨_,rfl⟩
 have hbu:=fold_write i X hXl
 rw [←hY] at hbu
 have hYs:Y.length=33:=by rw [hY];simp [hXl]
 have hsl:=fold_slice Y hYs
 have HY:Hid (Y=DK.wrv (i,DK.put b)):=by rw [hY,HX.out];rfl
 have HYl:Hid (Y.length=1 * 33):=by rw [hY];simp [hXl,Hid]
 have HY1:Hid (∀ v∈Y,v.oneCell'=true):=by rw [hY];intro v hv;simp at hv;rcases hv with rfl | hv;(· rfl);exact hX1 v hv
 have e2:w3.cell? ⟨u.g,2,none⟩=some u.wv:=HD3.out.blk.cell 2
 have g2:=HD3.out.blk.frozen 2
 have HWL:Hid ((DK.step d).ws.length≤10000):=by have:=HWS.out;unfold Hid DK.step;split <;> exact this
 have HRW:Hid (∀ o:Obj,(w3.alloc o).drew.ownsRow 0 162 33 u.wv (DK.step d).ws.length (DK.writesV (DK.step d).ws)):=fun o=>own_drew (HD3.out.rw.alloc o)
 have HNW:Hid (∀ j u',Y[j]?=some u'→(w3.alloc (.cells Y.toArray 162)).drew.cell? ((⟨w3.heap.size,0,none⟩:Addr).add j)=some u'):=news_new (w:=w3) rfl Y _
 have HPW:Hid (some w1.heap.size≠u.wv.ownBlock):=by
  intro e
  have:=own_lt K1.out.rw e.symm
  omega
 have HKA:Hid (∀ o:Obj,(w3.alloc o).drew.cell? ⟨u.g,2,none⟩=some u.wv∧(w3.alloc o).drew.rangeAt w1.heap.size 0 X):=fun o=>⟨(HD3.out.blk.alloc o).drew.cell 2,World.rangeAt_alloc r3 o⟩
 have HKC:Hid (∀ (o:Obj) (w':World),(w3.alloc o).drew.grownBy w' u.wv.ownBlock→(w'.cell? ⟨u.g,2,none⟩=some u.wv∧w'.rangeAt w1.heap.size 0 X)∧w'.frozen? ⟨u.g,2,none⟩=false):=fun o w' hg=>by
  have hb':=(HD3.out.blk.alloc o).drew.grown hg (by intro e;exact HD3.out.ggw e.symm)
  exact ⟨⟨hb'.cell 2,range_grown (HKA.out o).2 hg HPW.out⟩,hb'.frozen 2⟩
 have HKD:Hid (∀ (o:Obj) (w':World),(w3.alloc o).drew.grownBy w' u.wv.ownBlock→∀ v,(w'.setCell ⟨u.g,2,none⟩ v).rangeAt w1.heap.size 0 X):=fun o w' hg v j x hx=>by
  rw [World.cell?_setCell_other _ _ _ _ (by intro e;exact p0 (congrArg Addr.block e))]
  exact (HKC.out o w' hg).1.2 j x hx
 have q2:∀ o:Obj,(w3.alloc o).cell? ⟨u.g,2,none⟩=some u.wv:=fun o=>(HKA.out o).1
 clear hw3 hY r1 r2 d1 d2 c1
 obtain ⟨ti,hti,hz0,hz1,hz2⟩:=info_parts infoWrite
 have HTI:=Lib.hid hti
 have HZ0:=Lib.hid hz0
 have HZ1:=Lib.hid hz1
 have HZ2:=Lib.hid hz2
 clear hti hz0 hz1 hz2
 go_wp2
 refine wp_region_held_drew (S:=fun w'=>w'.rangeAt w1.heap.size 0 X) (by kernel_rfl) r3 (fun hHeld=>?_)
 refine wpAnyH_take (i:=0) (v:=.pointer (some ⟨u.g,0,none⟩)) rfl (by kernel_rfl) (by kernel_rfl) (by kernel_rfl) (fun _ _ _ h=>h) (Or.inl ⟨by rfl,fun w hw=>by go_simp⟩) (by assumption) ?_
 try simp only [Act.put,List.setIfInBounds_toArray,List.set_cons_zero,List.set_cons_succ]
 refine wpAnyH_take (i:=1) (v:=.pointer (some ⟨u.g,0,none⟩)) rfl (by kernel_rfl) (by kernel_rfl) (by kernel_rfl) (fun _ _ _ h=>h) (Or.inl ⟨by rfl,fun w hw=>by go_simp⟩) (by assumption) ?_
 try simp only [Act.put,List.setIfInBounds_toArray,List.set_cons_zero,List.set_cons_succ]
 refine wpAnyH_take (i:=2) (v:=.pointer (some ⟨u.g,0,none⟩)) rfl (by kernel_rfl) (by kernel_rfl) (by kernel_rfl) (fun _ _ _ h=>h) (Or.inl ⟨by rfl,fun w hw=>by go_simp⟩) (by assumption) ?_
 try simp only [Act.put,List.setIfInBounds_toArray,List.set_cons_zero,List.set_cons_succ]
 refine wpAnyH_take (i:=3) (v:=.pointer (some ⟨u.g,2,none⟩)) rfl (by kernel_rfl) (by kernel_rfl) (by kernel_rfl) (fun _ _ _ h=>h) (Or.inl ⟨by rfl,fun w hw=>by go_simp⟩) (by assumption) ?_
 try simp only [Act.put,List.setIfInBounds_toArray,List.set_cons_zero,List.set_cons_succ]
 refine wpAnyH_take (i:=5) (v:=.int .i64 i) rfl (by kernel_rfl) (by kernel_rfl) (by kernel_rfl) (fun _ _ _ h=>h) (Or.inl ⟨by rfl,fun w hw=>by go_simp⟩) (by assumption) ?_
 try simp only [Act.put,List.setIfInBounds_toArray,List.set_cons_zero,List.set_cons_succ]
 refine wpAnyH_take (i:=6) (v:=.agg X.toArray) rfl (by kernel_rfl) (by kernel_rfl) (by kernel_rfl) (fun _ _ _ h=>h) (yieldsIf_load_mid (by rfl) _ _ rfl w1.heap.size 0 rfl X _ (fun _ h=>h) hu rfl hinf) (by assumption) ?_
 try simp only [Act.put,List.setIfInBounds_toArray,List.set_cons_zero,List.set_cons_succ]
 refine wpAnyH_take (i:=7) (v:=.agg Y.toArray) rfl (by kernel_rfl) (by kernel_rfl) (by kernel_rfl) (fun _ _ _ h=>h) (Or.inl ⟨by rfl,fun w hw=>by go_simp⟩) (by assumption) ?_
 try simp only [Act.put,List.setIfInBounds_toArray,List.set_cons_zero,List.set_cons_succ]
 refine wpAnyH_ready (rs:=[4,8]) (by kernel_rfl) (by simp) ?_
 refine AllReadyH.cons rfl (fun K hK=>?_) ?_
 ·go_simp
  refine hK.out _ _ hHeld (fun hHeld=>?_)
  clear hK K
  refine wpAnyH_ready (rs:=[8]) (by kernel_rfl) (by simp) ?_
  refine AllReadyH.cons rfl (fun K hK=>?_) AllReadyH.nil
  go_simp
  refine hK.out _ _ (HKA.out _).2 (fun hHeld=>?_)
  clear hK K
  refine wpAnyH_ready (rs:=[9]) (by kernel_rfl) (by simp) ?_
  refine AllReadyH.cons rfl (fun K hK=>?_) AllReadyH.nil
  refine step_append_lies _ (by rfl) (.tmp 45) (.tmp 49) 54 (by rfl) 0 162 ti _ 33 40 Tryz.underlying54 HTI.out HZ0.out HZ1.out HZ2.out (by rfl) (by decide) u.wv (DK.step d).ws.length (DK.writesV (DK.step d).ws) (by rfl) (HRW.out _) ⟨w3.heap.size,0,none⟩ 1 1 Y (by rfl) HYl.out HNW.out HY1.out (by decide) (by have:=HWL.out;unfold maxLen;omega) (by have:=HWL.out;omega) (Nat.zero_le _) (w3.heap.size+1) (by simp) ?_
  intro g cap w4 hown hgrow hat hlt
  obtain ⟨⟨y1,_⟩,y2⟩:=HKC.out _ _ hgrow
  refine hK.out _ _ (HKC.out _ _ hgrow).1.2 (fun hHeld=>?_)
  clear hK K
  try simp only [Act.put,List.setIfInBounds_toArray,List.set_cons_zero,List.set_cons_succ]
  refine wpAnyH_take (i:=10) (v:=.pointer (some ⟨u.g,0,none⟩)) rfl (by kernel_rfl) (by kernel_rfl) (by kernel_rfl) (fun _ _ _ h=>h) (Or.inl ⟨by rfl,fun w hw=>by go_simp⟩) (by assumption) ?_
  try simp only [Act.put,List.setIfInBounds_toArray,List.set_cons_zero,List.set_cons_succ]
  refine wpAnyH_take (i:=11) (v:=.pointer (some ⟨u.g,2,none⟩)) rfl (by kernel_rfl) (by kernel_rfl) (by kernel_rfl) (fun _ _ _ h=>h) (Or.inl ⟨by rfl,fun w hw=>by go_simp⟩) (by assumption) ?_
  try simp only [Act.put,List.setIfInBounds_toArray,List.set_cons_zero,List.set_cons_succ]
  refine wpAnyH_ready (rs:=[12]) (by kernel_rfl) (by simp) ?_
  refine AllReadyH.cons rfl (fun K hK=>?_) AllReadyH.nil
  go_simp
  refine hK.out _ _ (HKD.out _ _ hgrow _) (fun hHeld=>?_)
  clear hK K
  refine wpAnyH_done (by kernel_rfl) ?_ _
  go_wp2
  go_ret
  obtain ⟨s1,s2⟩:=HD3.out.setWs hi (DK.put_len (by rw [HM.out];exact hb)) (by rw [←HY.out];exact hown) hgrow hat
  exact wr_yes hi (by rw [HM.out];exact hb) HS.out s1 (wr_moved Q1.out HB2.out HC3.out s2 hat)
 ·refine AllReadyH.cons rfl (fun K hK=>?_) AllReadyH.nil
  go_simp
  refine hK.out _ _ (HKA.out _).2 (fun hHeld=>?_)
  clear hK K
  refine wpAnyH_ready (rs:=[4]) (by kernel_rfl) (by simp) ?_
  refine AllReadyH.cons rfl (fun K hK=>?_) AllReadyH.nil
  go_simp
  refine hK.out _ _ hHeld (fun hHeld=>?_)
  clear hK K
  refine wpAnyH_ready (rs:=[9]) (by kernel_rfl) (by simp) ?_
  refine AllReadyH.cons rfl (fun K hK=>?_) AllReadyH.nil
  refine step_append_lies _ (by rfl) (.tmp 45) (.tmp 49) 54 (by rfl) 0 162 ti _ 33 40 Tryz.underlying54 HTI.out HZ0.out HZ1.out HZ2.out (by rfl) (by decide) u.wv (DK.step d).ws.length (DK.writesV (DK.step d).ws) (by rfl) (HRW.out _) ⟨w3.heap.size,0,none⟩ 1 1 Y (by rfl) HYl.out HNW.out HY1.out (by decide) (by have:=HWL.out;unfold maxLen;omega) (by have:=HWL.out;omega) (Nat.zero_le _) (w3.heap.size+1) (by simp) ?_
  intro g cap w4 hown hgrow hat hlt
  obtain ⟨⟨y1,_⟩,y2⟩:=HKC.out _ _ hgrow
  refine hK.out _ _ (HKC.out _ _ hgrow).1.2 (fun hHeld=>?_)
  clear hK K
  try simp only [Act.put,List.setIfInBounds_toArray,List.set_cons_zero,List.set_cons_succ]
  refine wpAnyH_take (i:=10) (v:=.pointer (some ⟨u.g,0,none⟩)) rfl (by kernel_rfl) (by kernel_rfl) (by kernel_rfl) (fun _ _ _ h=>h) (Or.inl ⟨by rfl,fun w hw=>by go_simp⟩) (by assumption) ?_
  try simp only [Act.put,List.setIfInBounds_toArray,List.set_cons_zero,List.set_cons_succ]
  refine wpAnyH_take (i:=11) (v:=.pointer (some ⟨u.g,2,none⟩)) rfl (by kernel_rfl) (by kernel_rfl) (by kernel_rfl) (fun _ _ _ h=>h) (Or.inl ⟨by rfl,fun w hw=>by go_simp⟩) (by assumption) ?_
  try simp only [Act.put,List.setIfInBounds_toArray,List.set_cons_zero,List.set_cons_succ]
  refine wpAnyH_ready (rs:=[12]) (by kernel_rfl) (by simp) ?_
  refine AllReadyH.cons rfl (fun K hK=>?_) AllReadyH.nil
  go_simp
  refine hK.out _ _ (HKD.out _ _ hgrow _) (fun hHeld=>?_)
  clear hK K
  refine wpAnyH_done (by kernel_rfl) ?_ _
  go_wp2
  go_ret
  obtain ⟨s1,s2⟩:=HD3.out.setWs hi (DK.put_len (by rw [HM.out];exact hb)) (by rw [←HY.out];exact hown) hgrow hat
  exact wr_yes hi (by rw [HM.out];exact hb) HS.out s1 (wr_moved Q1.out HB2.out HC3.out s2 hat)
theorem DAt.setKept {w:World} {u:Dsk} {n:Nat} {d:DK.D} (h:DAt w u n d) {i:Nat} (hi:i < n) {p:DK.Pg} (hp:p.length=32):DAt (w.setCells u.gk (i * 32) (DK.pgv p)) u n { d with kept:=d.kept.set i p }:=by
 have c:Chg (fun k=>k=u.gk) w (w.setCells u.gk (i * 32) (DK.pgv p)):=chg_setCells _ _ _ (Chg.refl _ _) (fun _=>rfl)
 have hl:i < d.kept.length:=by rw [h.ok.lk];exact hi
 have hr:=own_setCells (DK.pgv p) (i * 32) w _ h.rk (by rw [DK.pgv_len hp,DK.pagesV,rowsOf_len h.ok.kl,h.ok.lk];omega)
 rw [DK.pagesV,rowsOf_set h.ok.kl hl (DK.pgv_len hp)] at hr
 refine ⟨⟨by simpa using h.ok.lk,h.ok.ln,?_,h.ok.np,h.ok.wp,h.ok.left⟩,h.pos,h.le,h.blk.chg c (fun e=>h.ggk e.symm),hr,own_chg h.rn c (by intro k hk;simp [Value.ownBlock] at hk;have:=h.n1;omega),own_chg h.rw c (by rintro k hk rfl;exact h.gwk hk),h.n1⟩
 intro q hq
 rcases DK.mem_set hq with hq | rfl
 ·exact h.ok.kp q hq
 ·exact hp
def CrRel (w:World) (u:Dsk) (n:Nat) (d:DK.D) (keep:List Int) (A:Option Addr) (k:Nat) (wr:World):Prop:=
 DK.Ok n d∧DAt wr u n { d with kept:=DK.lay keep 0 (d.ws.take k) d.kept }∧IntsAt wr A keep∧Chg (fun j=>j=u.gk) w wr
def DCrash (w:World) (u:Dsk) (n:Nat) (d:DK.D) (keep:List Int) (e:Ending) (w':World):Prop:=
 ∃ u':Dsk,e=.returned (.tuple #[])∧DAt w' u' n (DK.crash d keep)∧DMoved w u u' w'
theorem IntsAt.chg {S:Nat→Prop} {w w':World} {a:Option Addr} {xs:List Int} (h:IntsAt w a xs) (hc:Chg S w w') (hn:xs≠[]→∀ x,a=some x→¬ S x.block):IntsAt w' a xs:=by
 by_cases h0:xs=[]
 ·exact .inl h0
 rcases h with h | ⟨b,off,rfl,hb,hx⟩
 ·exact .inl h
 ·exact .inr ⟨b,off,rfl,Nat.lt_of_lt_of_le hb hc.size,fun i v hv=>(hc.cell (p:=⟨b,off+i,none⟩) hb (hn h0 ⟨b,off,none⟩ rfl)).trans (hx i v hv)⟩
theorem crash_end {w w1 w2:World} {u:Dsk} {n g c:Nat} {d:DK.D} {keep:List Int} {A:Option Addr} (hR:CrRel w u n d keep A d.ws.length w1) (hg:w1.heap.size≤g) (ho:w2.ownsRow 0 160 32 (.slice (some ⟨g,0,none⟩) n c) n (DK.pagesV (DK.lay keep 0 (d.ws.take d.ws.length) d.kept))) (hb:Below w1.heap.size w1 w2):
  DCrash w u n d keep (.returned (.tuple #[])) ((((w2.setCell ⟨u.g,1,none⟩ (.slice (some ⟨g,0,none⟩) n c)).setCell ⟨u.g,2,none⟩ (.slice none 0 0)).setCell ⟨u.g,3,none⟩ (.int .i64 (-1))).setCell ⟨u.g,4,none⟩ (.bool false)):=by
 obtain ⟨hok,h1,_,c1⟩:=hR
 have h2:=h1.ext hb
 have hug:u.g < w1.heap.size:=h1.lt (.inl rfl)
 have hgk:u.gk < w1.heap.size:=h1.lt (.inr (.inl rfl))
 rw [List.take_length] at ho h1 h2
 refine ⟨⟨u.g,u.gk,u.ck,g,c,.slice none 0 0⟩,rfl,⟨hok.crash keep,h1.pos,h1.le,by simpa [DK.crash] using (((h2.blk.set_ 1 (.slice (some ⟨g,0,none⟩) n c)).set_ 2 (.slice none 0 0)).set_ 3 (.int .i64 (-1))).set_ 4 (.bool false),?_,?_,World.ownsRow_nil _ _ _ _,?_⟩,rfl,?_,?_⟩
 ·exact own_far (own_far (own_far (own_far h2.rk (by simpa [Value.ownBlock] using h1.ggk) _) (by simpa [Value.ownBlock] using h1.ggk) _) (by simpa [Value.ownBlock] using h1.ggk) _) (by simpa [Value.ownBlock] using h1.ggk) _
 ·exact own_far (own_far (own_far (own_far ho (by simp [Value.ownBlock];omega) _) (by simp [Value.ownBlock];omega) _) (by simp [Value.ownBlock];omega) _) (by simp [Value.ownBlock];omega) _
 ·show u.gk≠g
  omega
 ·have c2:Chg u.fp w w2:=(c1.mono (fun k _ hk=>Or.inr (Or.inl hk))).trans (Chg.of_below hb) (fun i hi hS=>absurd hS (by have:=c1.size;omega))
  exact (((c2.setCell (p:=⟨u.g,1,none⟩) (fun _=>.inl rfl) _).setCell (p:=⟨u.g,2,none⟩) (fun _=>.inl rfl) _).setCell (p:=⟨u.g,3,none⟩) (fun _=>.inl rfl) _).setCell (p:=⟨u.g,4,none⟩) (fun _=>.inl rfl) _
 ·have:=c1.size
  rintro k (h | h | h | h)
  ·exact .inl (.inl h)
  ·exact .inl (.inr (.inl h))
  ·simp only at h;right;omega
  ·simp [Value.ownBlock] at h
theorem ws_form {w:World} {u:Dsk} {n:Nat} {d:DK.D} (h:DAt w u n d):∃ B c,u.wv=.slice B d.ws.length c∧d.ws.length≤maxLen∧(0 < d.ws.length→∃ g,B=some ⟨g,0,none⟩):=by
 rcases h.rw.2 with ⟨h1,h2⟩ | ⟨g,cap,cur,h1,_,_,h2,h3,_⟩
 ·rw [h2];exact ⟨none,0,h1,by unfold maxLen;omega,fun h=>by omega⟩
 ·exact ⟨some ⟨g,0,none⟩,cap,h1,Nat.le_trans h2 h3,fun _=>⟨g,rfl⟩⟩
theorem wpList_store_new {P:Program} (W:World) {ops:Array Oper} {rest:List Oper} {o:Oper} {a:Act} {Q:Exit→Act→World→Prop} (hgd:o.guard=none) (ty:TypeId) (x y:Operand) (ho:o.op=.store ty x y)
  (C:Array Value) (t:TypeId) (S:Nat) (hC:C.size=S) (X:List Value) (hX:X.length=S) (h1:∀ v∈X,v.oneCell'=true) (hi:(P.info? ty).map (·.size)=some S)
  (hx:a.eval x=.pointer (some ⟨W.heap.size,0,none⟩)) (hy:a.eval y=.agg X.toArray)
  (h:∀ w',Hid (w'.rangeAt W.heap.size 0 X)→Below W.heap.size W w'→wpList P ops Q rest (a.put o.dst undef) w'):wpList P ops Q (o::rest) a (W.alloc (.cells C t)):=by
 have hb:Blk (W.alloc (.cells C t)) W.heap.size t C:=Blk.new _ _ _
 have ht:(W.alloc (.cells C t)).there W.heap.size 0 S:=fun j hj=>⟨by rw [hb.cell,Array.getElem?_eq_getElem (by omega)];rfl,hb.frozen _⟩
 refine wpList_store_mid hgd ty x y ho W.heap.size 0 X.toArray hx hy (by simpa [hX] using ht) (by simpa [hX] using hi) (all_oneCell_toArray h1) ?_
 refine h _ (World.rangeAt_setCells_same _ _ _ _ (by simpa [hX] using ht)) ?_
 exact (chg_setCells _ _ _ (Chg.of_below ((Below.refl _ _).alloc (Nat.le_refl _) _)) (fun _=>Nat.le_refl _)).below (Nat.le_refl _) (fun _ _ h=>h)
theorem infoW:(Tryz.prog.info? 162).map (·.size)=some 33:=by kernel_rfl
theorem DAt.ws_range {w:World} {u:Dsk} {n:Nat} {d:DK.D} (h:DAt w u n d) {g L c:Nat} (hv:u.wv=.slice (some ⟨g,0,none⟩) L c) (hL:L=d.ws.length) {k:Nat} {x:Nat × DK.Pg} (hx:d.ws[k]?=some x):w.rangeAt g (k * 33) (DK.wrv x):=by
 subst hL
 have:=h.rw
 rw [hv] at this
 exact own_range this (fun _ _ h'=>rowsOf_get h.ok.wl hx h')
theorem cr_skip {w wr w3:World} {u:Dsk} {n:Nat} {d:DK.D} {keep:List Int} {A:Option Addr} {k:Nat} {x:Nat × DK.Pg} (h:CrRel w u n d keep A k wr) (hb:Below wr.heap.size wr w3) (hx:d.ws[k]?=some x) (hk:decide ((k:Int)∈keep)=false):CrRel w u n d keep A (k+1) w3:=by
 obtain ⟨h0,h1,h2,h3⟩:=h
 have hl:k≤d.ws.length:=Nat.le_of_lt (List.getElem?_eq_some_iff.1 hx).1
 refine ⟨h0,?_,h2.ext hb,⟨hb.os.trans h3.os,hb.tape.trans h3.tape,hb.output.trans h3.output,Nat.le_trans h3.size hb.size,fun i hi hn=>(hb.block i (Nat.lt_of_lt_of_le hi h3.size)).trans (h3.block i hi hn)⟩⟩
 rw [take_snoc' hx,DK.lay_snoc,if_neg (by simpa [Nat.min_eq_left hl] using hk)]
 exact h1.ext hb
theorem cr_lay {w wr w3:World} {u:Dsk} {n:Nat} {d:DK.D} {keep:List Int} {A:Option Addr} {k:Nat} {x:Nat × DK.Pg} {X:List Value} (h:CrRel w u n d keep A k wr) (hb:Below wr.heap.size wr w3) (hx:d.ws[k]?=some x) (hk:decide ((k:Int)∈keep)=true) (hX:X=DK.pgv x.2) (hA:keep≠[]→∀ y,A=some y→¬ u.fp y.block):CrRel w u n d keep A (k+1) (w3.drew.setCells u.gk (x.1 * 32) X):=by
 obtain ⟨h0,h1,h2,h3⟩:=h
 subst hX
 have hl:k≤d.ws.length:=Nat.le_of_lt (List.getElem?_eq_some_iff.1 hx).1
 have hw:=h0.wp _ (List.mem_of_getElem? hx)
 have c:Chg (fun j=>j=u.gk) w3 (w3.drew.setCells u.gk (x.1 * 32) (DK.pgv x.2)):=chg_setCells _ _ _ ((Chg.refl _ w3).drew) (fun _=>rfl)
 have c3:Chg (fun j=>j=u.gk) w w3:=⟨hb.os.trans h3.os,hb.tape.trans h3.tape,hb.output.trans h3.output,Nat.le_trans h3.size hb.size,fun i hi hn=>(hb.block i (Nat.lt_of_lt_of_le hi h3.size)).trans (h3.block i hi hn)⟩
 refine ⟨h0,?_,(h2.ext hb).chg c (fun h0 y hy e=>hA h0 y hy (.inr (.inl e))),c3.trans c (fun _ _ h=>h)⟩
 have h4:=((h1.ext hb).chg ((Chg.refl (fun _=>False) w3).drew) (fun _ _ h=>h)).setKept hw.2 hw.1
 rw [take_snoc' hx,DK.lay_snoc,if_pos (by simpa [Nat.min_eq_left hl] using hk)]
 exact h4
set_option linter.unusedSimpArgs false in
set_option maxRecDepth 100000 in
theorem dcrash_any (w:World) (u:Dsk) (n:Nat) (d:DK.D) (h:DAt w u n d) (A:Option Addr) (m c:Nat) (keep:List Int) (hk:IntsAt w A keep) (hm:keep.length=m) (hmm:m≤maxLen) (hA:keep≠[]→∀ x,A=some x→¬ u.fp x.block):
  Calls Tryz.prog 45 #[.pointer (some ⟨u.g,0,none⟩),.slice A m c] w (DCrash w u n d keep):=by
 obtain ⟨B,wc,hwv,hwl,hB⟩:=ws_form h
 obtain ⟨L,hL⟩:∃ L,L=d.ws.length:=⟨_,rfl⟩
 rw [←hL] at hwv hwl hB
 have c2:w.cell? ⟨u.g,2,none⟩=some (.slice B L wc):=by rw [←hwv];exact h.blk.cell 2
 have HH:=Lib.hid h
 have HK:=Lib.hid hk
 have HM:=Lib.hid hm
 have HA:=Lib.hid hA
 have HWV:=Lib.hid hwv
 have HB:=Lib.hid hB
 have HL:=Lib.hid hL
 have HR0:Hid (CrRel w u n d keep A 0 w):=⟨h.ok,by simpa [DK.lay] using h,hk,Chg.refl _ _⟩
 unfold maxLen at hwl hmm
 clear h hk hm hA hwv hB hL
 go_enter Tryz.func45,Tryz.ntmps45
 go_wp2
 go_loopw [11] (fun v wr=>∃ k:Nat,k≤L∧v=.int .i64 k∧Hid (CrRel w u n d keep A k wr)) (fun v _=>L - (intOf v).toNat)
 case atStart=>exact ⟨0,Nat.zero_le _,rfl,HR0⟩
 case round=>
  obtain ⟨k,hkl,rfl,HR⟩:=hrel
  by_cases hlt:k < L
  ·obtain ⟨g,rfl⟩:=HB.out (by omega)
   obtain ⟨x,hx⟩:∃ x,d.ws[k]?=some x:=⟨_,List.getElem?_eq_getElem (by rw [←HL.out];exact hlt)⟩
   obtain ⟨at_,pg⟩:=x
   have hw0:=HH.out.ok.wp _ (List.mem_of_getElem? hx)
   have HX:=Lib.hid hx
   have HP:=Lib.hid hw0
   have z0:(0:Int)≤(k:Int):=by omega
   have z1:(k:Int) < (L:Int):=by omega
   clear hx hw0
   obtain ⟨XW,hXW⟩:∃ XW,XW=DK.wrv (at_,pg):=⟨_,rfl⟩
   have HXW:=Lib.hid hXW
   have hXl:XW.length=33:=by rw [hXW];exact DK.wrv_len HP.out.1
   have hX1:∀ v∈XW,v.oneCell'=true:=by rw [hXW];intro v hv;simp [DK.wrv] at hv;rcases hv with rfl | hv;(· rfl);exact pgv_one v hv
   have HXl:=Lib.hid hXl
   have HX1:=Lib.hid hX1
   have HRG:Hid (wr.rangeAt g (k * 33) XW):=by rw [hXW];exact HR.out.2.1.ws_range HWV.out HL.out HX.out
   have HIW:Hid ((Tryz.prog.info? 162).map (·.size)=some XW.length):=by rw [hXl];exact infoW
   clear hXW hXl hX1
   go_wp2_with (first
    | (refine wpList_load_mid rfl 162 (.tmp 14) rfl g (k * 33) rfl XW _ HRG.out Tryz.underlying162 rfl HIW.out ?_)
    | (refine wpList_store_new wr rfl 162 (.tmp 5) (.tmp 15) rfl _ _ 33 rfl XW HXl.out HX1.out infoW rfl rfl ?_;intro w3 HG3 hb3))
   have HB3:=Lib.hid hb3
   have HI3:Hid (IntsAt w3 A keep):=HR.out.2.2.1.ext hb3
   have HD3:=Lib.hid (HR.out.2.1.ext hb3)
   have b0:w3.cell? ⟨u.g,0,none⟩=some (.slice (some ⟨u.gk,0,none⟩) n u.ck):=HD3.out.blk.cell 0
   obtain ⟨X,hX⟩:∃ X,X=DK.pgv pg:=⟨_,rfl⟩
   have HXX:=Lib.hid hX
   have hWX:XW=Value.int .i64 (at_:Int)::X:=by rw [HXW.out,hX];rfl
   have b1:w3.cell? ⟨wr.heap.size,0,none⟩=some (.int .i64 (at_:Int)):=by
    have:=HG3.out 0 (.int .i64 (at_:Int)) (by rw [hWX];rfl);simpa using this
   have r1:w3.rangeAt wr.heap.size 1 X:=fun j v hv=>by
    have:=HG3.out (j+1) v (by rw [hWX];simpa using hv)
    rwa [show 0+(j+1)=1+j by omega] at this
   have r2:w3.there u.gk (at_ * 32) 32:=own_there HD3.out.rk (by have:=HP.out.2;omega)
   have p0:u.g≠u.gk:=Ne.symm HD3.out.ggk
   have p1:wr.heap.size≠u.gk:=by have:u.gk < wr.heap.size:=HR.out.2.1.lt (.inr (.inl rfl));omega
   have hXl:X.length=32:=by rw [hX];exact DK.pgv_len HP.out.1
   have hX1:∀ v∈X,v.oneCell'=true:=by rw [hX];exact pgv_one
   have hu:=Tryz.underlying160
   have hinf:(Tryz.prog.info? 160).map (·.size)=some X.length:=by rw [hXl];kernel_rfl
   have y0:(0:Int)≤(at_:Int):=by omega
   have y1:(at_:Int) < (n:Int):=by have:=HP.out.2;omega
   have hle:=HD3.out.le
   clear hX hWX hb3
   refine (contains_any w3 A m c keep k HI3.out HM.out (by omega)).mono ?_
   rintro e w4 ⟨rfl,rfl⟩
   by_cases hin:decide ((k:Int)∈keep)=true
   ·have HN:=Lib.hid hin
    rw [hin]
    clear hin
    have HCL:Hid (CrRel w u n d keep A (k+1) (w3.drew.setCells u.gk (at_ * 32) X)):=cr_lay (x:=(at_,pg)) HR.out HB3.out HX.out HN.out HXX.out HA.out
    go_wp2
    go_region_held (fun w'=>w'.cell? ⟨u.g,0,none⟩=some (.slice (some ⟨u.gk,0,none⟩) n u.ck)∧w'.cell? ⟨wr.heap.size,0,none⟩=some (.int .i64 (at_:Int))∧w'.rangeAt wr.heap.size 1 X∧w'.there u.gk (at_ * 32) 32)
     ((go_split_ands;refine ⟨?_,?_,?_,?_⟩ <;> first | assumption | (exact cell_setCells_far (by assumption) p0 _ _) | (exact cell_setCells_far (by assumption) p1 _ _) | (exact World.rangeAt_setCells_apart (by assumption) _ _ _ (.inl p1)) | (exact World.there_setCells (by assumption) _ _ _))) (fail)
    go_wp2
    go_roundw
    case rel=>exact ⟨k+1,by omega,by go_num,HCL⟩
    case measure=>simp [intOf];omega
   ·have hin':decide ((k:Int)∈keep)=false:=by simpa using hin
    have HN:=Lib.hid hin'
    rw [hin']
    clear hin hin'
    have HCL:Hid (CrRel w u n d keep A (k+1) w3):=cr_skip HR.out HB3.out HX.out HN.out
    go_wp2
    go_roundw
    case rel=>exact ⟨k+1,by omega,by go_num,HCL⟩
    case measure=>simp [intOf];omega
  ·have e:k=L:=by omega
   have HE:Hid (CrRel w u n d keep A d.ws.length wr):=by rw [←HL.out,←e];exact HR
   have b0:wr.cell? ⟨u.g,0,none⟩=some (.slice (some ⟨u.gk,0,none⟩) n u.ck):=HE.out.2.1.blk.cell 0
   have hps:=HE.out.2.1.pos
   have hle:=HE.out.2.1.le
   clear e
   go_wp2_with fail
   refine (pclone_any wr u.gk n u.ck _ hps hle HE.out.2.1.rk).mono ?_
   rintro e w2 ⟨g',c',rfl,hg,ho,hb⟩
   have HG:=Lib.hid hg
   have HO:=Lib.hid ho
   have HBB:=Lib.hid hb
   have HD:=Lib.hid (HE.out.2.1.ext hb)
   have b1:w2.cell? ⟨u.g,1,none⟩=some (.slice (some ⟨u.gn,0,none⟩) n u.cn):=HD.out.blk.cell 1
   have b2:w2.cell? ⟨u.g,2,none⟩=some u.wv:=HD.out.blk.cell 2
   have b3:w2.cell? ⟨u.g,3,none⟩=some (.int .i64 d.left):=HD.out.blk.cell 3
   have b4:w2.cell? ⟨u.g,4,none⟩=some (.bool d.down):=HD.out.blk.cell 4
   have f1:=HD.out.blk.frozen 1
   have f2:=HD.out.blk.frozen 2
   have f3:=HD.out.blk.frozen 3
   have f4:=HD.out.blk.frozen 4
   clear hg ho hb
   go_wp2
   go_end0
   exact crash_end HE.out HG.out HO.out HBB.out
theorem dwrite_any (w:World) (u:Dsk) (n:Nat) (d:DK.D) (h:DAt w u n d) (i:Int) (A:Option Addr) (m c:Nat) (b:List Int) (hm:b.length=m) (hws:d.ws.length≤10000)
  (hA:BytesAt w A b) (hAb:b≠[]→∀ x,A=some x→x.block≠u.g):
  Calls Tryz.prog 60 #[.pointer (some ⟨u.g,0,none⟩),.int .i64 i,.slice A m c] w (DWrite w u n d i b):=by
 by_cases hi:i < 0∨(n:Int)≤i
 ·exact dwrite_no w u n d h i hi A m c b
 by_cases h32:32 < m
 ·exact dwrite_full w u n d h i hi A m c b hm h32
 by_cases hs:DK.stopped d=true
 ·exact dwrite_down w u n d h i hi A m c b hm (by omega) hs
 ·obtain ⟨k,rfl⟩:∃ k:Nat,i=(k:Int):=⟨i.toNat,by omega⟩
  exact dwrite_yes w u n d h k (by omega) A m c b hm (by omega) (by simpa using hs) hws hA hAb
theorem dpages_any (w:World) (u:Dsk) (n:Nat) (d:DK.D) (h:DAt w u n d):
  Calls Tryz.prog 58 #[.pointer (some ⟨u.g,0,none⟩)] w fun e w'=>e=.returned (.int .i64 n)∧w=w':=by
 have c1:w.cell? ⟨u.g,1,none⟩=some (.slice (some ⟨u.gn,0,none⟩) n u.cn):=h.blk.cell 1
 clear h
 go_enter Tryz.func58,Tryz.ntmps58
 go_wp2
 go_ret
 exact ⟨rfl,rfl⟩
end Go.Proofs.YtkoajpeabicpdaaGreatDoor
