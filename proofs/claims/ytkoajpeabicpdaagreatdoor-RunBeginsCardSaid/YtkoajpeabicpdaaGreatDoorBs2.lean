/-
Words for memory: which blocks a call may have turned ('Chg'); a block known whole ('Blk'); rows of the call's own. No conditions.
-/
import Derived.Below
import Derived.Laws.OwnMore
import Derived.Maps.AppendAt
import Derived.Deep.AppendLies
import Derived.Deep.Draws
import Derived.OwnWalk
import Derived.Test.YtkoajpeabicpdaaGreatDoorRows
import Derived.WalkKit
import Derived.LaidEql
import Derived.Stop.Asserts
import Derived.RowKitTokens
import Derived.Lib.Hide
import Derived.Outline
import Derived.ProofKit
import Derived.WalkSpells
import Derived.Deep.QuietTactic
import Derived.BigQuiet
import Derived.Deep.Slices
set_option linter.unusedVariables false
set_option maxHeartbeats 8000000
namespace Go.Proofs.YtkoajpeabicpdaaGreatDoor
open Go Go.RowKit
structure Chg (S:Nat→Prop) (w w':World):Prop where
 os:w'.os=w.os
 tape:w'.tape=w.tape
 output:w'.output=w.output
 size:w.heap.size≤w'.heap.size
 block:∀ k,k < w.heap.size→¬ S k→w'.heap[k]?=w.heap[k]?
section
variable {S S':Nat→Prop} {a b c w w':World}
theorem Chg.refl (S:Nat→Prop) (w:World):Chg S w w:=⟨rfl,rfl,rfl,Nat.le_refl _,fun _ _ _=>rfl⟩
theorem Chg.mono (h:Chg S a b) (hs:∀ k,k < a.heap.size→S k→S' k):Chg S' a b:=
 ⟨h.os,h.tape,h.output,h.size,fun k hk hn=>h.block k hk fun hS=>hn (hs k hk hS)⟩
theorem Chg.trans (h:Chg S a b) (k:Chg S' b c) (hs:∀ i,i < a.heap.size→S' i→S i):Chg S a c:=
 ⟨k.os.trans h.os,k.tape.trans h.tape,k.output.trans h.output,Nat.le_trans h.size k.size,
  fun i hi hn=>(k.block i (Nat.lt_of_lt_of_le hi h.size) fun hS=>hn (hs i hi hS)).trans (h.block i hi hn)⟩
theorem Chg.drew (h:Chg S a b):Chg S a b.drew:=⟨h.os,h.tape,h.output,h.size,h.block⟩
theorem Chg.undrew (h:Chg S a.drew b):Chg S a b:=⟨h.os,h.tape,h.output,h.size,h.block⟩
theorem Chg.alloc (h:Chg S a b) (o:Obj):Chg S a (b.alloc o):=
 ⟨h.os,h.tape,h.output,Nat.le_trans h.size (by simp),fun i hi hn=>(Below.heap_alloc b o i (Nat.lt_of_lt_of_le hi h.size)).trans (h.block i hi hn)⟩
theorem Chg.setCell (h:Chg S a b) {p:Addr} (hp:p.block < a.heap.size→S p.block) (u:Value):Chg S a (b.setCell p u):=
 ⟨h.os,h.tape,h.output,by simpa [World.setCell] using h.size,fun i hi hn=>(Below.heap_setCell b p u i (by rintro rfl;exact hn (hp hi))).trans (h.block i hi hn)⟩
theorem Chg.of_grown {row:Option Nat} (h:a.grownBy b row):Chg (fun k=>some k=row) a b:=⟨h.os,h.tape,h.output,h.size,h.block⟩
theorem Chg.of_below {B:Nat} (h:Below B a b):Chg (fun k=>B≤k) a b:=⟨h.os,h.tape,h.output,h.size,fun k _ hn=>h.block k (by omega)⟩
theorem Chg.below {B:Nat} (h:Chg S a b) (hB:B≤a.heap.size) (hs:∀ k,k < a.heap.size→S k→B≤k):Below B a b:=
 ⟨h.os,h.tape,h.output,h.size,fun k hk=>h.block k (by omega) fun hS=>by have:=hs k (by omega) hS;omega⟩
theorem Chg.new (h:Below a.heap.size a b) (S:Nat→Prop):Chg S a b:=⟨h.os,h.tape,h.output,h.size,fun k hk _=>h.block k hk⟩
theorem Chg.cell (h:Chg S a b) {p:Addr} (hp:p.block < a.heap.size) (hn:¬ S p.block):b.cell? p=a.cell? p:=World.cell?_of_block (h.block _ hp hn)
end
def Blk (w:World) (g:Nat) (t:TypeId) (cs:Array Value):Prop:=w.heap[g]?=some (.cells cs t (0,0))
section
variable {w w':World} {g:Nat} {t:TypeId} {cs:Array Value} {S:Nat→Prop}
theorem Blk.lt (h:Blk w g t cs):g < w.heap.size:=(Array.getElem?_eq_some_iff.1 h).1
theorem Blk.cell (h:Blk w g t cs) (i:Nat):w.cell? ⟨g,i,none⟩=cs[i]?:=cell_of_row w g i cs t (0,0) h
theorem Blk.frozen (h:Blk w g t cs) (i:Nat):w.frozen? ⟨g,i,none⟩=false:=by unfold Blk at h;simp [World.frozen?,h]
theorem Blk.new (w:World) (t:TypeId) (cs:Array Value):Blk (w.alloc (.cells cs t)) w.heap.size t cs:=heap_alloc_new w _
theorem Blk.drew (h:Blk w g t cs):Blk w.drew g t cs:=h
theorem Blk.drewN (h:Blk w g t cs) (n:Nat):Blk (w.drewN n) g t cs:=h
theorem Blk.alloc (h:Blk w g t cs) (o:Obj):Blk (w.alloc o) g t cs:=(Below.heap_alloc w o g h.lt).trans h
theorem Blk.set_ (h:Blk w g t cs) (i:Nat) (u:Value):Blk (w.setCell ⟨g,i,none⟩ u) g t (cs.setIfInBounds i u):=by
 unfold Blk at h ⊢
 simp [World.setCell,Array.getElem?_modify,h]
theorem Blk.far (h:Blk w g t cs) {p:Addr} (hp:g≠p.block) (u:Value):Blk (w.setCell p u) g t cs:=(Below.heap_setCell w p u g hp).trans h
theorem Blk.chg (h:Blk w g t cs) (hc:Chg S w w') (hn:¬ S g):Blk w' g t cs:=(hc.block g h.lt hn).trans h
theorem Blk.grown {row:Option Nat} (h:Blk w g t cs) (hb:w.grownBy w' row) (hg:some g≠row):Blk w' g t cs:=(hb.block g h.lt hg).trans h
theorem Blk.ne_ {g':Nat} {t':TypeId} {cs':Array Value} (h:Blk w g t cs) (h':Blk w g' t' cs') (hne:t≠t'):g≠g':=by
 rintro rfl
 unfold Blk at h h'
 rw [h] at h'
 injection h' with h'
 injection h' with _ ht
 exact hne ht
end
section
variable {w w':World} {base:Nat} {e:TypeId} {size:Nat} {v:Value} {n:Nat} {xs:List Value} {S:Nat→Prop}
theorem own_chg (h:w.ownsRow base e size v n xs) (hc:Chg S w w') (hn:∀ k,v.ownBlock=some k→¬ S k):w'.ownsRow base e size v n xs:=by
 refine ⟨h.1,?_⟩
 rcases h.2 with h0 | ⟨g,cap,cur,rfl,hb,hg,rest⟩
 ·exact .inl h0
 ·exact .inr ⟨g,cap,cur,rfl,hb,(hc.block g (Array.getElem?_eq_some_iff.1 hg).1 (hn g (by simp [Value.ownBlock]))).trans hg,rest⟩
theorem own_drew (h:w.ownsRow base e size v n xs):w.drew.ownsRow base e size v n xs:=h
theorem own_far (h:w.ownsRow base e size v n xs) {p:Addr} (hp:v.ownBlock≠some p.block) (u:Value):(w.setCell p u).ownsRow base e size v n xs:=
 own_chg (S:=fun k=>k=p.block) h ((Chg.refl (fun k=>k=p.block) w).setCell (fun _=>rfl) u) (by rintro k hk rfl;exact hp hk)
theorem own_lt (h:w.ownsRow base e size v n xs) {k:Nat} (hk:v.ownBlock=some k):k < w.heap.size:=(h.lt k hk).2
theorem own_ne (h:w.ownsRow base e size v n xs) {g:Nat} {t:TypeId} {cs:Array Value} (hg:Blk w g t cs) (hne:e≠t):v.ownBlock≠some g:=by
 rcases h.2 with ⟨rfl,_⟩ | ⟨g',cap,cur,rfl,_,hh,_⟩
 ·simp [Value.ownBlock]
 ·intro he
  have:g'=g:=by simpa [Value.ownBlock] using he
  subst this
  exact Blk.ne_ (t:=e) hh hg hne rfl
theorem own_form (h:w.ownsRow base e size v n xs) (hn:0 < n):∃ g cap,v=.slice (some ⟨g,0,none⟩) n cap∧n≤cap∧cap≤maxLen:=by
 rcases h.2 with ⟨_,h0⟩ | ⟨g,cap,cur,rfl,_,_,h1,h2,_⟩
 ·omega
 ·exact ⟨g,cap,rfl,h1,h2⟩
end
theorem below_drewN' {B:Nat} {a w:World} (h:Below B a w) (n:Nat):Below B a (w.drewN n):=⟨h.os,h.tape,h.output,h.size,h.block⟩
theorem wpList_push {P:Program} (w:World) {ops:Array Oper} {rest:List Oper} {o:Oper} {a:Act} {Q:Exit→Act→World→Prop} (hgd:o.guard=none) (s x:Operand) (t:TypeId)
  (ho:o.op=.call { callee:=.builtin .append,args:=#[s,x],argTypes:=#[t,t] })
  (e:TypeId) (z:Value) (bytes:Nat) (ht:P.underlying t=some (.slice e)) (hinfo:(P.info? e).map (fun i=>(i.zero,i.size,i.bytes))=some (some z,1,bytes)) (hzs:z.cells.size=1)
  (v:Value) (n:Nat) (xs:List Value) (hs:a.eval s=v) (hown:w.ownsRow 0 e 1 v n xs) (hsm:n≤1000000∧bytes≤1000)
  (u:Value) (B:Nat) (hx:a.eval x=.slice (some ⟨B,0,none⟩) 1 1) (hB:w.cell? ⟨B,0,none⟩=some u) (h1:u.oneCell'=true)
  (h:∀ g c w',w'.ownsRow 0 e 1 (.slice (some ⟨g,0,none⟩) (n+1) c) (n+1) (xs++[u])→Chg (fun k=>v.ownBlock=some k) w w'→(v.ownBlock=some g∨g=w.heap.size)→n+1≤c→wpList P ops Q rest (a.put o.dst (.slice (some ⟨g,0,none⟩) (n+1) c)) w'):wpList P ops Q (o::rest) a w:=by
 obtain ⟨i,hi,hz0,hz1,hz2⟩:=info_parts hinfo
 have hm:(n+1) * bytes≤140737488355328:=Nat.le_trans (Nat.mul_le_mul (show n+1≤1000001 by omega) hsm.2) (by decide)
 refine wpList_append_own_at w hgd s x t ho 0 e i z 1 bytes ht hi hz0 hz1 hz2 hzs (by omega) v n xs hs hown ⟨B,0,none⟩ 1 1 [u] hx rfl ?_ ?_ (by unfold maxLen;omega) hm (Nat.zero_le _) ?_
 ·intro j y hj
  match j,hj with
  | 0,hj=>simp at hj;subst hj;simpa [Addr.add] using hB
 ·intro y hy;simp at hy;subst hy;exact h1
 ·intro v' w' hown' hgr _ hat
  obtain ⟨g,c,hv,hc,_⟩:=own_form hown' (by omega)
  subst hv
  refine h g c w' hown' ((Chg.of_grown hgr).mono (fun k _ hk=>hk.symm)) ?_ hc
  rcases hat with hat | hat
  ·exact .inl (by rw [←hat];rfl)
  ·right;simpa [Value.ownBlock] using hat
theorem cell_new1 {w:World} {H:Nat} (hH:w.heap.size=H) (u:Value) (t:TypeId):(w.alloc (.cells #[u] t)).cell? ⟨H,0,none⟩=some u:=by subst hH;simp
theorem step_push {P:Program} (w:World) {ops:Array Oper} {o:Oper} {a:Act} {K:Act→World→Prop} {Q:Exit→Act→World→Prop} {E:Prop} (hgd:o.guard=none) (s x:Operand) (t:TypeId)
  (ho:o.op=.call { callee:=.builtin .append,args:=#[s,x],argTypes:=#[t,t] })
  (e:TypeId) (z:Value) (bytes:Nat) (ht:P.underlying t=some (.slice e)) (hinfo:(P.info? e).map (fun i=>(i.zero,i.size,i.bytes))=some (some z,1,bytes)) (hzs:z.cells.size=1)
  (v:Value) (n:Nat) (xs:List Value) (hs:a.eval s=v) (hown:w.ownsRow 0 e 1 v n xs) (hsm:n≤1000000∧bytes≤1000)
  (u:Value) (B:Nat) (hx:a.eval x=.slice (some ⟨B,0,none⟩) 1 1) (hB:w.cell? ⟨B,0,none⟩=some u) (h1:u.oneCell'=true)
  (h:∀ g c w',w'.ownsRow 0 e 1 (.slice (some ⟨g,0,none⟩) (n+1) c) (n+1) (xs++[u])→Chg (fun k=>v.ownBlock=some k) w w'→(v.ownBlock=some g∨g=w.heap.size)→K (a.put o.dst (.slice (some ⟨g,0,none⟩) (n+1) c)) w'):
  if Region.wanted o (yielded ops a.tmps)=true then Oper.wp P o a w K Q else E:=by
 obtain ⟨i,hi,hz0,hz1,hz2⟩:=info_parts hinfo
 have hm:(n+1) * bytes≤140737488355328:=Nat.le_trans (Nat.mul_le_mul (show n+1≤1000001 by omega) hsm.2) (by decide)
 refine step_append_lies w hgd s x t ho 0 e i z 1 bytes ht hi hz0 hz1 hz2 hzs (by omega) v n xs hs hown ⟨B,0,none⟩ 1 1 [u] hx rfl ?_ ?_ (by omega) (by unfold maxLen;omega) hm (Nat.zero_le _) w.heap.size rfl ?_
 ·intro j y hj
  match j,hj with
  | 0,hj=>simp at hj;subst hj;simpa [Addr.add] using hB
 ·intro y hy;simp at hy;subst hy;exact h1
 ·intro g c w' hown' hgr hat _
  exact h g c w' hown' ((Chg.of_grown hgr).mono (fun k _ hk=>hk.symm)) hat
open Go.Extern.Stop Go.Stop Go.Extern
namespace Td
theorem valueOfP (t:Addr) (w:World):(ReflectliteValue.unpack (.iface 143 (.pointer (some t)))).run Tryz.prog w
  = .ok (.agg #[.pointer (some ⟨9,143,none⟩),.pointer (some ⟨w.heap.size,0,none⟩),.int .u64 150]) (w.alloc (.cells #[.pointer (some t)] 143)):=by kernel_rfl
theorem typeP (a:Addr) (w:World):(ReflectliteValue.methodAny (ReflectliteValue.valueError "reflectlite.Value.Type" 0) (fun t _ _ _=>ReflectliteType.toType t) #[.agg #[.pointer (some ⟨9,143,none⟩),.pointer (some a),.int .u64 150]]).run Tryz.prog w
  = .ok (.iface 243 (.agg #[.pointer (some ⟨9,143,none⟩)])) w:=by kernel_rfl
theorem methodKind (n:Nat) (h:Value) (w:World):(Go.method (n+1) 243 (.agg #[h]) "Kind").run Tryz.prog w=.ok (248,h) w:=by kernel_rfl
theorem kindP (w:World):((ReflectliteType.abiMethod fun t=>(fun a:Nat=>Value.int IntKind.u8 (a:Int)) <$> Rtype.kind t) #[.pointer (some ⟨9,143,none⟩)]).run Tryz.prog w=.ok (.int .u8 22) w:=by kernel_rfl
theorem kindE (w:World):((ReflectliteType.abiMethod fun t=>(fun a:Nat=>Value.int IntKind.u8 (a:Int)) <$> Rtype.kind t) #[.pointer (some ⟨9,52,none⟩)]).run Tryz.prog w=.ok (.int .u8 2) w:=by kernel_rfl
theorem rlm (z:Sem Value) (f:TypeId→Addr→Nat→Nat→Sem Value) (v:Value):
  ReflectliteValue.method z f #[v]=(do match ←ReflectliteValue.parts v with | none=>z | some (t,a,fl)=>f t a fl (fl % 32)):=rfl
theorem partsP (a:Addr) (w:World):(ReflectliteValue.parts (.agg #[.pointer (some ⟨9,143,none⟩),.pointer (some a),.int .u64 150])).run Tryz.prog w=.ok (some (143,a,150)) w:=by kernel_rfl
theorem isNilP (a p:Addr) (W:World) (ha:W.cell? a=some (.pointer (some p))):
  (ReflectliteValue.method (ReflectliteValue.valueError "reflectlite.Value.IsNil" 0) ReflectliteValue.isNil #[.agg #[.pointer (some ⟨9,143,none⟩),.pointer (some a),.int .u64 150]]).run Tryz.prog W=.ok (.bool false) W:=by
 rw [rlm]
 simp only [Sem.run_bind,partsP,Result.andThen]
 simp [ReflectliteValue.isNil,loadVar,isAgg,underlying,Tryz.underlying143,ha,Result.andThen]
theorem methodElem (n:Nat) (h:Value) (w:World):(Go.method (n+1) 243 (.agg #[h]) "Elem").run Tryz.prog w=.ok (263,.agg #[h]) w:=by kernel_rfl
theorem methodImplements (n:Nat) (h:Value) (w:World):(Go.method (n+1) 243 (.agg #[h]) "Implements").run Tryz.prog w=.ok (264,.agg #[h]) w:=by kernel_rfl
theorem methodAssignableTo (n:Nat) (h:Value) (w:World):(Go.method (n+1) 243 (.agg #[h]) "AssignableTo").run Tryz.prog w=.ok (261,.agg #[h]) w:=by kernel_rfl
theorem elemP (w:World):(ReflectliteType.method ReflectliteType.elem #[.agg #[.pointer (some ⟨9,143,none⟩)]]).run Tryz.prog w=.ok (.iface 243 (.agg #[.pointer (some ⟨9,52,none⟩)])) w:=by kernel_rfl
theorem implementsE (w:World):(ReflectliteType.relation "Implements" ReflectliteType.implements_ #[.agg #[.pointer (some ⟨9,52,none⟩)],.iface 243 (.agg #[.pointer (some ⟨9,27,none⟩)])]).run Tryz.prog w=.ok (.bool true) w:=by kernel_rfl
theorem typeOfE (v:Value) (w:World):(ReflectliteType.typeOf #[.iface 52 v]).run Tryz.prog w=.ok (.iface 243 (.agg #[.pointer (some ⟨9,52,none⟩)])) w:=by kernel_rfl
theorem assignableE (w:World):(ReflectliteType.relation "AssignableTo" ReflectliteType.assignableTo #[.agg #[.pointer (some ⟨9,52,none⟩)],.iface 243 (.agg #[.pointer (some ⟨9,52,none⟩)])]).run Tryz.prog w=.ok (.bool true) w:=by kernel_rfl
theorem valueOfE (k:Int) (w:World):(ReflectliteValue.unpack (.iface 52 (.int .i64 k))).run Tryz.prog w
  = .ok (.agg #[.pointer (some ⟨9,52,none⟩),.pointer (some ⟨w.heap.size,0,none⟩),.int .u64 130]) (w.alloc (.cells #[.int .i64 k] 52)):=by kernel_rfl
theorem elemOfP (w:World):(Rtype.elem? 143).run Tryz.prog w=.ok (some 52) w:=by kernel_rfl
theorem mkE (p:Addr) (w:World):(ReflectliteValue.mk 52 p ReflectliteValue.flagAddr).run Tryz.prog w=.ok (.agg #[.pointer (some ⟨9,52,none⟩),.pointer (some p),.int .u64 386]) w:=by kernel_rfl
theorem elemVP (a p:Addr) (W:World) (ha:W.cell? a=some (.pointer (some p))):
  (ReflectliteValue.method (ReflectliteValue.valueError "reflectlite.Value.Elem" 0) ReflectliteValue.elem #[.agg #[.pointer (some ⟨9,143,none⟩),.pointer (some a),.int .u64 150]]).run Tryz.prog W
   = .ok (.agg #[.pointer (some ⟨9,52,none⟩),.pointer (some p),.int .u64 386]) W:=by
 rw [rlm]
 simp only [Sem.run_bind,partsP,Result.andThen]
 simp [ReflectliteValue.elem,loadVar,isAgg,underlying,Tryz.underlying143,ha,Result.andThen,elemOfP,mkE]
theorem rls (v x:Value):ReflectliteValue.set #[v,x]=(do
  let (some (dst,a,fl),some (src,b,_)):=(←ReflectliteValue.parts v,←ReflectliteValue.parts x)
   | unsupported (.noEntry "extern/(internal/reflectlite.Value).Set.zeroValue")
  if fl / ReflectliteValue.flagAddr % 2 == 0 then unsupported (.noEntry "extern/(internal/reflectlite.Value).Set.unaddressable")
  let val ←loadVar src b
  if ←Rtype.directlyAssignable dst src then storeVar dst a val
  else if ←Rtype.implements dst src then
   if (←Rtype.kind src) == 20 then
    match val with
    | .nilIface=>unsupported (.noEntry "extern/reflectlite: a nil value of one interface type handed on as a value of another")
    | _=>storeVar dst a val
   else storeVar dst a (.iface src val)
  else panicString ("reflectlite.Set: value of type " ++ (←Rtype.spelt src)++ " is not assignable to type " ++ (←Rtype.spelt dst))
  pure (.tuple #[])):=rfl
theorem partsEa (a:Addr) (w:World):(ReflectliteValue.parts (.agg #[.pointer (some ⟨9,52,none⟩),.pointer (some a),.int .u64 386])).run Tryz.prog w=.ok (some (52,a,386)) w:=by kernel_rfl
theorem partsE (a:Addr) (w:World):(ReflectliteValue.parts (.agg #[.pointer (some ⟨9,52,none⟩),.pointer (some a),.int .u64 130])).run Tryz.prog w=.ok (some (52,a,130)) w:=by kernel_rfl
theorem directE (w:World):(Rtype.directlyAssignable 52 52).run Tryz.prog w=.ok true w:=by kernel_rfl
theorem setE (ta b:Addr) (k:Int) (old:Value) (W:World) (hb:W.cell? b=some (.int .i64 k)) (ht:W.cell? ta=some old) (hf:W.frozen? ta=false):
  (ReflectliteValue.set #[.agg #[.pointer (some ⟨9,52,none⟩),.pointer (some ta),.int .u64 386],.agg #[.pointer (some ⟨9,52,none⟩),.pointer (some b),.int .u64 130]]).run Tryz.prog W
   = .ok (.tuple #[]) (W.setCell ta (.int .i64 k)):=by
 rw [rls]
 simp only [Sem.run_bind,partsEa,partsE,Result.andThen]
 simp [ReflectliteValue.flagAddr,loadVar,isAgg,underlying,Tryz.underlying52,hb,Result.andThen,directE,storeVar,Value.cells,storeCells,Addr.add]
 rw [run_store Tryz.prog W ta _ _ (by rfl)]
 simp [ht,hf]
def Door (w:World):Prop:=w.cell? ⟨1,0,none⟩=some (.iface 243 (.agg #[.pointer (some ⟨9,27,none⟩)]))
theorem as_hit (k:Int) (t:Addr) (old:Value) (w:World) (hg:Door w) (ht0:w.cell? t=some old) (hf0:w.frozen? t=false):
  Calls Tryz.prog 81 #[.iface 52 (.int .i64 k),.iface 143 (.pointer (some t))] w fun ev w'=>ev=.returned (.bool true)∧w'=((((w.alloc (.cells #[.pointer (some t)] 143)).alloc (.cells #[.pointer (some ⟨9,143,none⟩),.pointer (some ⟨w.heap.size,0,none⟩),.int .u64 150] 195)).alloc (.cells #[.pointer (some ⟨9,143,none⟩),.pointer (some ⟨w.heap.size,0,none⟩),.int .u64 150] 195)).alloc (.cells #[.int .i64 k] 52)).setCell t (.int .i64 k):=by
 unfold Door at hg
 have h6:=@run_callFunc_extern Tryz.prog 124 _ (fun args=>ReflectliteValue.unpack (args.getD 0 (.tuple #[]))) Tryz.func124 (by kernel_rfl) (by kernel_rfl) (by kernel_rfl) (by kernel_rfl)
 have h7:=@run_callFunc_extern Tryz.prog 125 _ (ReflectliteValue.methodAny (ReflectliteValue.valueError "reflectlite.Value.Type" 0) (fun t _ _ _=>ReflectliteType.toType t)) Tryz.func125 (by kernel_rfl) (by kernel_rfl) (by kernel_rfl) (by kernel_rfl)
 have h8:=@run_callFunc_extern Tryz.prog 126 _ (ReflectliteValue.method (ReflectliteValue.valueError "reflectlite.Value.IsNil" 0) ReflectliteValue.isNil) Tryz.func126 (by kernel_rfl) (by kernel_rfl) (by kernel_rfl) (by kernel_rfl)
 have h27:=@run_callFunc_extern Tryz.prog 248 _ (ReflectliteType.abiMethod fun t=>do pure (.int .u8 (←Rtype.kind t))) Tryz.func248 (by kernel_rfl) (by kernel_rfl) (by kernel_rfl) (by kernel_rfl)
 have h37:=@run_callFunc_extern Tryz.prog 263 _ (ReflectliteType.method ReflectliteType.elem) Tryz.func263 (by kernel_rfl) (by kernel_rfl) (by kernel_rfl) (by kernel_rfl)
 have h38:=@run_callFunc_extern Tryz.prog 264 _ (ReflectliteType.relation "Implements" ReflectliteType.implements_) Tryz.func264 (by kernel_rfl) (by kernel_rfl) (by kernel_rfl) (by kernel_rfl)
 have h10:=@run_callFunc_extern Tryz.prog 166 _ ReflectliteType.typeOf Tryz.func166 (by kernel_rfl) (by kernel_rfl) (by kernel_rfl) (by kernel_rfl)
 have h35:=@run_callFunc_extern Tryz.prog 261 _ (ReflectliteType.relation "AssignableTo" ReflectliteType.assignableTo) Tryz.func261 (by kernel_rfl) (by kernel_rfl) (by kernel_rfl) (by kernel_rfl)
 have h11:=@run_callFunc_extern Tryz.prog 167 _ (ReflectliteValue.method (ReflectliteValue.valueError "reflectlite.Value.Elem" 0) ReflectliteValue.elem) Tryz.func167 (by kernel_rfl) (by kernel_rfl) (by kernel_rfl) (by kernel_rfl)
 have h12:=@run_callFunc_extern Tryz.prog 168 _ ReflectliteValue.set Tryz.func168 (by kernel_rfl) (by kernel_rfl) (by kernel_rfl) (by kernel_rfl)
 have tO:=typeOfE
 have mA:=methodAssignableTo
 have a25:=assignableE
 have v25:=valueOfE
 have f6:=valueOfP
 have f7:=typeP
 have mK:=methodKind
 have mE:=methodElem
 have mI:=methodImplements
 have k27:=kindP
 have k25:=kindE
 have e27:=elemP
 have i25:=implementsE
 have n8:=isNilP ⟨w.heap.size,0,none⟩ t ((w.alloc (.cells #[.pointer (some t)] 143)).alloc (.cells #[.pointer (some ⟨9,143,none⟩),.pointer (some ⟨w.heap.size,0,none⟩),.int .u64 150] 195)) (by simp)
 have hlt:1 < w.heap.size:=World.block_lt_of_cell? w _ hg
 have hg2:((w.alloc (.cells #[.pointer (some t)] 143)).alloc (.cells #[.pointer (some ⟨9,143,none⟩),.pointer (some ⟨w.heap.size,0,none⟩),.int .u64 150] 195)).cell? ⟨1,0,none⟩=some (.iface 243 (.agg #[.pointer (some ⟨9,27,none⟩)])):=by
  rw [World.cell?_alloc_lt _ _ ⟨1,0,none⟩ (by have:=hlt;simp;omega),World.cell?_alloc_lt _ _ ⟨1,0,none⟩ hlt];exact hg
 have htl:t.block < w.heap.size:=by
  rcases Nat.lt_or_ge t.block w.heap.size with h | h
  ·exact h
  ·simp [World.cell?,Array.getElem?_eq_none h] at ht0
 have el:=elemVP ⟨w.heap.size,0,none⟩ t (((w.alloc (.cells #[.pointer (some t)] 143)).alloc (.cells #[.pointer (some ⟨9,143,none⟩),.pointer (some ⟨w.heap.size,0,none⟩),.int .u64 150] 195)).alloc (.cells #[.pointer (some ⟨9,143,none⟩),.pointer (some ⟨w.heap.size,0,none⟩),.int .u64 150] 195)) (by rw [World.cell?_alloc_lt _ _ ⟨w.heap.size,0,none⟩ (by simp;omega)];simp)
 have st:=setE t ⟨w.heap.size+1+1+1,0,none⟩ k old ((((w.alloc (.cells #[.pointer (some t)] 143)).alloc (.cells #[.pointer (some ⟨9,143,none⟩),.pointer (some ⟨w.heap.size,0,none⟩),.int .u64 150] 195)).alloc (.cells #[.pointer (some ⟨9,143,none⟩),.pointer (some ⟨w.heap.size,0,none⟩),.int .u64 150] 195)).alloc (.cells #[.int .i64 k] 52))
  (by rw [World.cell?_alloc_at _ _ _ _ (by simp)];rfl)
  (by rw [World.cell?_alloc_lt _ _ t (by simp;omega),World.cell?_alloc_lt _ _ t (by simp;omega),World.cell?_alloc_lt _ _ t (by simp;omega),World.cell?_alloc_lt _ _ t htl];exact ht0)
  (by rw [World.frozen?_alloc_old _ _ t (by simp;omega),World.frozen?_alloc_old _ _ t (by simp;omega),World.frozen?_alloc_old _ _ t (by simp;omega),World.frozen?_alloc_old _ _ t (Nat.ne_of_lt htl)];exact hf0)
 go_enter Tryz.func81,Tryz.ntmps81
 go_wp2
 refine wp_loop_rounds 1 ?_
 rw [rounds_succ]
 go_wp2
 go_ret
 exact ⟨rfl,rfl⟩
end Td
theorem Td.Door.lt {w:World} (h:Td.Door w):1 < w.heap.size:=World.block_lt_of_cell? w _ h
theorem Td.Door.chg {S:Nat→Prop} {w w':World} (h:Td.Door w) (hc:Chg S w w') (hn:¬ S 1):Td.Door w':=(hc.cell (p:=⟨1,0,none⟩) h.lt hn).trans h
theorem Td.Door.ext {B:Nat} {w w':World} (h:Td.Door w) (hb:Below B w w') (hB:1 < B):Td.Door w':=h.chg (Chg.of_below hb) (by omega)
theorem Td.Door.new {w w':World} (h:Td.Door w) (hb:Below w.heap.size w w'):Td.Door w':=h.ext hb h.lt
end Go.Proofs.YtkoajpeabicpdaaGreatDoor
namespace Go.Proofs.YtkoajpeabicpdaaGreatDoor
open Go Go.RowKit Go.ChangeShapes Go.WideShapes
def Ext (w w':World):Prop:=Below w.heap.size w w'
theorem Ext.refl (w:World):Ext w w:=Below.refl _ _
theorem Ext.trans {a b c:World} (h:Ext a b) (k:Ext b c):Ext a c:=Below.trans h (Below.mono k h.size)
theorem Ext.drew (w:World):Ext w w.drew:=(Below.refl _ _).drew
theorem Ext.drewN (w:World) (n:Nat):Ext w (w.drewN n):=below_drewN' (Below.refl _ _) n
theorem Ext.alloc (w:World) (o:Obj):Ext w (w.alloc o):=(Below.refl _ _).alloc (Nat.le_refl _) o
def IntsAt (w:World) (a:Option Addr) (xs:List Int):Prop:=xs=[]∨∃ b off,a=some ⟨b,off,none⟩∧b < w.heap.size∧∀ i v,xs[i]?=some v→w.cell? ⟨b,off+i,none⟩=some (.int .i64 v)
theorem IntsAt.ext {w w':World} {a:Option Addr} {xs:List Int} (h:IntsAt w a xs) (he:Ext w w'):IntsAt w' a xs:=by
 rcases h with h | ⟨b,off,rfl,hb,hc⟩
 ·exact .inl h
 ·exact .inr ⟨b,off,rfl,Nat.lt_of_lt_of_le hb he.size,fun i v hv=>(he.cell (p:=⟨b,_,none⟩) hb).trans (hc i v hv)⟩
theorem IntsAt.of_own {w:World} {base c n:Nat} {A:Option Addr} {e:TypeId} {xs:List Int} (h:w.ownsRow base e 1 (.slice A n c) n (xs.map (Value.int .i64))):IntsAt w A xs∧xs.length=n:=by
 have hl:xs.length=n:=by have:=h.1;simpa using this
 rcases h.2 with ⟨_,h0⟩ | ⟨g,cap,cur,hv,_,hg,_⟩
 ·exact ⟨.inl (List.eq_nil_of_length_eq_zero (by omega)),hl⟩
 ·simp only [Value.slice.injEq] at hv
  obtain ⟨rfl,_,rfl⟩:=hv
  refine ⟨.inr ⟨g,0,rfl,(Array.getElem?_eq_some_iff.1 hg).1,fun i v hv=>?_⟩,hl⟩
  have hi:i < xs.length:=(List.getElem?_eq_some_iff.1 hv).1
  rw [Nat.zero_add,h.cellAt i (by omega),List.getElem?_map,hv];rfl
theorem take_snoc' {α:Type} {xs:List α} {k:Nat} {v:α} (h:xs[k]?=some v):xs.take (k+1)=xs.take k++[v]:=by
 rw [List.take_add_one,h];rfl
end Go.Proofs.YtkoajpeabicpdaaGreatDoor
