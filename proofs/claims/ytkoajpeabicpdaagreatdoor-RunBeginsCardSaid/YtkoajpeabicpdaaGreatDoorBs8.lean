/-
append of one many-celled element as a step of a region that draws. No conditions.
-/
import Derived.Test.YtkoajpeabicpdaaGreatDoorBs4
set_option linter.unusedVariables false
namespace Go.Proofs.YtkoajpeabicpdaaGreatDoor
open Go Go.RowKit
theorem step_pushS {P:Program} (w:World) {ops:Array Oper} {o:Oper} {a:Act} {K:Act→World→Prop} {Q:Exit→Act→World→Prop} {E:Prop} (hgd:o.guard=none) (s x:Operand) (t:TypeId)
  (ho:o.op=.call { callee:=.builtin .append,args:=#[s,x],argTypes:=#[t,t] })
  (e:TypeId) (z:Value) (size bytes:Nat) (ht:P.underlying t=some (.slice e)) (hinfo:(P.info? e).map (fun i=>(i.zero,i.size,i.bytes))=some (some z,size,bytes)) (hzs:z.cells.size=size) (hsz:0 < size)
  (v:Value) (n:Nat) (xs:List Value) (hs:a.eval s=v) (hown:w.ownsRow 0 e size v n xs) (hsm:n≤1000000∧bytes≤1000)
  (news:List Value) (B:Nat) (hx:a.eval x=.slice (some ⟨B,0,none⟩) 1 1) (hl:news.length=size) (hB:∀ j u,news[j]?=some u→w.cell? ((⟨B,0,none⟩:Addr).add j)=some u) (h1:∀ u∈news,u.oneCell'=true)
  (h:∀ g c w',w'.ownsRow 0 e size (.slice (some ⟨g,0,none⟩) (n+1) c) (n+1) (xs++news)→Chg (fun k=>v.ownBlock=some k) w w'→(v.ownBlock=some g∨g=w.heap.size)→K (a.put o.dst (.slice (some ⟨g,0,none⟩) (n+1) c)) w'):
  if Region.wanted o (yielded ops a.tmps)=true then Oper.wp P o a w K Q else E:=by
 obtain ⟨i,hi,hz0,hz1,hz2⟩:=info_parts hinfo
 have hm:(n+1) * bytes≤140737488355328:=Nat.le_trans (Nat.mul_le_mul (show n+1≤1000001 by omega) hsm.2) (by decide)
 refine step_append_lies w hgd s x t ho 0 e i z size bytes ht hi hz0 hz1 hz2 hzs hsz v n xs hs hown ⟨B,0,none⟩ 1 1 news hx (by omega) hB h1 (by omega) (by unfold maxLen;omega) hm (Nat.zero_le _) w.heap.size rfl ?_
 intro g c w' hown' hgr hat _
 exact h g c w' hown' ((Chg.of_grown hgr).mono (fun k _ hk=>hk.symm)) hat
def BytesAt (w:World) (a:Option Addr) (xs:List Int):Prop:=xs=[]∨∃ b off,a=some ⟨b,off,none⟩∧b < w.heap.size∧∀ i v,xs[i]?=some v→w.cell? ⟨b,off+i,none⟩=some (.int .u8 v)
theorem BytesAt.chg {S:Nat→Prop} {w w':World} {a:Option Addr} {xs:List Int} (h:BytesAt w a xs) (hc:Chg S w w') (hn:xs≠[]→∀ x,a=some x→¬ S x.block):BytesAt w' a xs:=by
 by_cases h0:xs=[]
 ·exact .inl h0
 rcases h with h | ⟨b,off,rfl,hb,hx⟩
 ·exact .inl h
 ·exact .inr ⟨b,off,rfl,Nat.lt_of_lt_of_le hb hc.size,fun i v hv=>(hc.cell (p:=⟨b,off+i,none⟩) hb (hn h0 ⟨b,off,none⟩ rfl)).trans (hx i v hv)⟩
theorem BytesAt.ext {w w':World} {a:Option Addr} {xs:List Int} (h:BytesAt w a xs) (hb:Below w.heap.size w w'):BytesAt w' a xs:=by
 rcases h with h | ⟨b,off,rfl,hlt,hx⟩
 ·exact .inl h
 ·exact .inr ⟨b,off,rfl,Nat.lt_of_lt_of_le hlt hb.size,fun i v hv=>(hb.cell (p:=⟨b,_,none⟩) hlt).trans (hx i v hv)⟩
theorem BytesAt.lt_ {w:World} {a:Option Addr} {xs:List Int} (h:BytesAt w a xs) (hn:xs≠[]) {x:Addr} (hx:a=some x):x.block < w.heap.size:=by
 rcases h with h | ⟨b,off,h,hl,_⟩
 ·exact absurd h hn
 ·rw [hx] at h;injection h with h;subst h;exact hl
theorem BytesAt.take {w:World} {A:Option Addr} {b:List Int} (h:BytesAt w A b) (k:Nat):BytesAt w A (b.take k):=by
 rcases h with rfl | ⟨g,o,rfl,hl,hx⟩
 ·left;simp
 ·exact .inr ⟨g,o,rfl,hl,fun i v hv=>hx i v (by
   rw [List.getElem?_take] at hv
   split at hv
   ·exact hv
   ·simp at hv)⟩
theorem BytesAt.drop {w:World} {g o:Nat} {b:List Int} (h:BytesAt w (some ⟨g,o,none⟩) b) (k:Nat):BytesAt w (some ⟨g,o+k,none⟩) (b.drop k):=by
 rcases h with rfl | ⟨g',o',he,hl,hx⟩
 ·left;simp
 ·injection he with he;injection he with h1 h2;subst h1;subst h2
  exact .inr ⟨g,o+k,rfl,hl,fun i v hv=>by
   rw [Nat.add_assoc]
   exact hx (k+i) v (by rwa [List.getElem?_drop] at hv)⟩
theorem bytes_form {w:World} {A:Option Addr} {b:List Int} (h:BytesAt w A b) (hb:¬ b.length=0):∃ g o,A=some ⟨g,o,none⟩:=by
 rcases h with rfl | ⟨g,o,rfl,_⟩
 ·simp at hb
 ·exact ⟨g,o,rfl⟩
theorem own_fresh {w:World} {H:Nat} (hH:w.heap.size=H) (e:TypeId) (xs:List Value) (hx:xs.length≤maxLen):(w.alloc (.cells xs.toArray e)).ownsRow 0 e 1 (.slice (some ⟨H,0,none⟩) xs.length xs.length) xs.length xs:=by
 subst hH
 refine ⟨by simp,.inr ⟨w.heap.size,xs.length,xs.toArray,rfl,Nat.zero_le _,Blk.new w e xs.toArray,Nat.le_refl _,hx,by simp,?_⟩⟩
 rw [Nat.mul_one]
 exact List.take_of_length_le (by simp)
theorem bytes_of_own {w:World} {e:TypeId} {A:Option Addr} {n c:Nat} {xs:List Int} (h:w.ownsRow 0 e 1 (.slice A n c) n (xs.map (Value.int .u8))):BytesAt w A xs:=by
 obtain ⟨h1,h2⟩:=h
 rcases h2 with ⟨_,h0⟩ | ⟨g,cap,cur,hv,_,hg,_,_,_,ht⟩
 ·subst h0;left;simpa using h1
 ·injection hv with hA _ _
  refine .inr ⟨g,0,hA,(Array.getElem?_eq_some_iff.1 hg).1,fun i v hv=>?_⟩
  have hb:Blk w g e cur:=hg
  rw [hb.cell]
  have hi:(xs.map (Value.int .u8))[i]?=some (.int .u8 v):=by rw [List.getElem?_map,hv];rfl
  rw [←ht,List.getElem?_take] at hi
  split at hi
  ·rw [Nat.zero_add,←Array.getElem?_toList];exact hi
  ·simp at hi
theorem BytesAt.at_ {w:World} {A:Option Addr} {xs:List Int} {i:Nat} {v:Int} (h:BytesAt w A xs) (hv:xs[i]?=some v):∃ b off,A=some ⟨b,off,none⟩∧b < w.heap.size∧w.cell? ⟨b,off+i,none⟩=some (.int .u8 v):=by
 rcases h with rfl | ⟨b,off,rfl,hl,hx⟩
 ·simp at hv
 ·exact ⟨b,off,rfl,hl,hx i v hv⟩
end Go.Proofs.YtkoajpeabicpdaaGreatDoor
