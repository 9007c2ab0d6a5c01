/-
A disk of pages, in plain Lean: what is kept, what is read, what was written since; rows of many-celled elements as flat lists. No program in sight.
-/
import Derived.Test.YtkoajpeabicpdaaGreatDoorBs2
import Derived.Deep.MidRow
import Derived.Laws.CopyOwn
import Derived.Laws.OwnMore
import Derived.Laws.AppendOwnNone
set_option linter.unusedVariables false
namespace Go.Proofs.YtkoajpeabicpdaaGreatDoor
open Go Go.RowKit
section
variable {α:Type} {f:α→List Value} {S:Nat}
def rowsOf (f:α→List Value) (l:List α):List Value:=l.flatMap f
theorem rowsOf_cons (a:α) (l:List α):rowsOf f (a::l)=f a++rowsOf f l:=by simp [rowsOf]
theorem rowsOf_app (l m:List α):rowsOf f (l++m)=rowsOf f l++rowsOf f m:=by simp [rowsOf]
theorem rowsOf_one (a:α):rowsOf f [a]=f a:=by simp [rowsOf]
theorem rowsOf_len {l:List α} (hS:∀ a,a∈l→(f a).length=S):(rowsOf f l).length=l.length * S:=by
 induction l with
 | nil=>simp [rowsOf]
 | cons a l ih=>
  rw [rowsOf_cons,List.length_append,hS a (by simp),ih (fun b hb=>hS b (by simp [hb]))]
  simp [Nat.succ_mul];omega
theorem rowsOf_get:∀ {l:List α} (_:∀ a,a∈l→(f a).length=S) {i:Nat} {a:α},l[i]?=some a→∀ {j:Nat} {v:Value},(f a)[j]?=some v→(rowsOf f l)[i * S+j]?=some v
 | [],_,i,a,h,_,_,_=>by simp at h
 | b::l,hS,0,a,h,j,v,hv=>by
  simp at h;subst h
  have:j < (f b).length:=(List.getElem?_eq_some_iff.1 hv).1
  rw [rowsOf_cons,Nat.zero_mul,Nat.zero_add,List.getElem?_append_left this,hv]
 | b::l,hS,i+1,a,h,j,v,hv=>by
  simp at h
  have h0:=hS b (by simp)
  rw [rowsOf_cons,List.getElem?_append_right (by rw [h0,Nat.succ_mul];omega),h0,show (i+1) * S+j - S=i * S+j by rw [Nat.succ_mul];omega]
  exact rowsOf_get (fun c hc=>hS c (by simp [hc])) h hv
theorem rowsOf_set:∀ {l:List α} (_:∀ a,a∈l→(f a).length=S) {i:Nat} (_:i < l.length) {x:α} (_:(f x).length=S),splice (rowsOf f l) (i * S) (f x)=rowsOf f (l.set i x)
 | [],_,i,h,_,_=>by simp at h
 | b::l,hS,0,_,x,hx=>by
  have h0:=hS b (by simp)
  simp [splice,rowsOf_cons,h0,hx]
 | b::l,hS,i+1,h,x,hx=>by
  have h0:=hS b (by simp)
  have ih:=rowsOf_set (fun c hc=>hS c (by simp [hc])) (i:=i) (by simpa using h) hx (l:=l)
  rw [List.set_cons_succ,rowsOf_cons,rowsOf_cons,←ih]
  unfold splice
  have e:(i+1) * S=S+i * S:=by rw [Nat.succ_mul];omega
  rw [hx] at *
  rw [List.take_append,List.drop_append,h0,e,List.take_of_length_le (by omega),List.drop_eq_nil_of_le (by omega),
   show S+i * S - S=i * S by omega,show S+i * S+S - S=i * S+S by omega]
  simp
end
theorem splice_get {α:Type} {L cs:List α} {o j:Nat} (h:o+cs.length≤L.length):(splice L o cs)[j]?=if o≤j∧j < o+cs.length then cs[j - o]? else L[j]?:=by
 unfold splice
 by_cases h1:j < o
 ·rw [List.getElem?_append_left (by simp;omega),List.getElem?_take,if_pos h1,if_neg (by omega)]
 ·rw [List.getElem?_append_right (by simp;omega)]
  simp only [List.length_take]
  rw [show min o L.length=o by omega]
  by_cases h2:j < o+cs.length
  ·rw [List.getElem?_append_left (by omega),if_pos ⟨by omega,h2⟩]
  ·rw [List.getElem?_append_right (by omega),List.getElem?_drop,if_neg (by omega)]
   congr 1;omega
section
variable {w:World} {base:Nat} {e:TypeId} {size g n cap:Nat} {xs:List Value}
theorem own_setCells:∀ (vs:List Value) (o:Nat) (w:World) (xs:List Value),w.ownsRow base e size (.slice (some ⟨g,0,none⟩) n cap) n xs→o+vs.length≤xs.length→
  (w.setCells g o vs).ownsRow base e size (.slice (some ⟨g,0,none⟩) n cap) n (splice xs o vs)
 | [],o,w,xs,h,_=>by simpa [World.setCells,splice] using h
 | v::r,o,w,xs,h,hf=>by
  have h1:=(h.stored o v).1
  have:=own_setCells r (o+1) _ _ h1 (by simp at hf ⊢;omega)
  rw [World.setCells]
  simp at hf
  have e:splice (xs.set o v) (o+1) r=splice xs o (v::r):=by
   apply List.ext_getElem?
   intro j
   rw [splice_get (by simp;omega),splice_get (by simp;omega)]
   simp only [List.length_cons]
   by_cases a1:j=o
   ·subst a1;rw [if_neg (by omega),if_pos (by omega)];simp [show j < xs.length by omega]
   ·by_cases a2:o+1≤j∧j < o+1+r.length
    ·rw [if_pos a2,if_pos (by omega),show j - o=(j - (o+1))+1 by omega];simp
    ·rw [if_neg a2,if_neg (by omega),List.getElem?_set_ne (by omega)]
  rwa [e] at this
theorem chg_setCells {S:Nat→Prop} {a:World}:∀ (vs:List Value) (o:Nat) (w:World),Chg S a w→(g < a.heap.size→S g)→Chg S a (w.setCells g o vs)
 | [],_,_,h,_=>h
 | v::r,o,_,h,hg=>chg_setCells r (o+1) _ (h.setCell (p:=⟨g,o,none⟩) hg v) hg
theorem own_range (h:w.ownsRow base e size (.slice (some ⟨g,0,none⟩) n cap) n xs) {o:Nat} {cs:List Value} (hc:∀ j v,cs[j]?=some v→xs[o+j]?=some v):w.rangeAt g o cs:=by
 intro j v hv
 have h1:=hc j v hv
 have h2:=(List.getElem?_eq_some_iff.1 h1).1
 rw [h.1] at h2
 rw [h.cellAt _ h2,h1]
theorem own_there (h:w.ownsRow base e size (.slice (some ⟨g,0,none⟩) n cap) n xs) {o k:Nat} (hk:o+k≤n * size):w.there g o k:=by
 intro j hj
 refine ⟨?_,h.frozenAt _⟩
 rw [h.cellAt _ (by omega),List.getElem?_eq_getElem (by rw [h.1];omega)];rfl
end
namespace DK
abbrev Pg:=List Int
structure D where
 kept:List Pg
 now:List Pg
 ws:List (Nat × Pg)
 left:Int
 down:Bool
def pgv (p:Pg):List Value:=p.map (Value.int .u8)
def wrv (x:Nat × Pg):List Value:=.int .i64 (x.1:Nat)::pgv x.2
def pagesV (ps:List Pg):List Value:=rowsOf pgv ps
def writesV (ws:List (Nat × Pg)):List Value:=rowsOf wrv ws
def zero:Pg:=List.replicate 32 0
def put (b:List Int):Pg:=splice zero 0 b
def new (n:Nat):D:=⟨List.replicate n zero,List.replicate n zero,[],-1,false⟩
def stopped (d:D):Bool:=d.down || decide (d.left=0)
def step (d:D):D:=if stopped d then { d with down:=true } else { d with left:=max (d.left - 1) (-1) }
def write (d:D) (i:Nat) (b:List Int):D:={ d with now:=d.now.set i (put b),ws:=d.ws++[(i,put b)] }
def sync (d:D):D:={ d with kept:=d.now,ws:=[] }
def lay (keep:List Int):Nat→List (Nat × Pg)→List Pg→List Pg
 | _,[],ps=>ps
 | i,x::ws,ps=>lay keep (i+1) ws (if decide ((i:Int)∈keep)=true then ps.set x.1 x.2 else ps)
def crash (d:D) (keep:List Int):D:=⟨lay keep 0 d.ws d.kept,lay keep 0 d.ws d.kept,[],-1,false⟩
structure Ok (n:Nat) (d:D):Prop where
 lk:d.kept.length=n
 ln:d.now.length=n
 kp:∀ p∈d.kept,p.length=32
 np:∀ p∈d.now,p.length=32
 wp:∀ x∈d.ws,x.2.length=32∧x.1 < n
 left:-1≤d.left∧d.left≤9223372036854775807
theorem pgv_len {p:Pg} (h:p.length=32):(pgv p).length=32:=by simp [pgv,h]
theorem wrv_len {x:Nat × Pg} (h:x.2.length=32):(wrv x).length=33:=by simp [wrv,pgv_len h]
theorem put_len {b:List Int} (h:b.length≤32):(put b).length=32:=by
 unfold put;rw [length_splice _ _ _ (by simpa [zero] using h)];simp [zero]
theorem Ok.pl {n:Nat} {d:D} (h:Ok n d):∀ p∈d.now,(pgv p).length=32:=fun p hp=>pgv_len (h.np p hp)
theorem Ok.kl {n:Nat} {d:D} (h:Ok n d):∀ p∈d.kept,(pgv p).length=32:=fun p hp=>pgv_len (h.kp p hp)
theorem Ok.wl {n:Nat} {d:D} (h:Ok n d):∀ x∈d.ws,(wrv x).length=33:=fun x hx=>wrv_len (h.wp x hx).1
theorem Ok.new (n:Nat):Ok n (new n):=⟨by simp [DK.new],by simp [DK.new],by simp [DK.new];intros;subst_vars;simp [zero],by simp [DK.new];intros;subst_vars;simp [zero],by simp [DK.new],by simp [DK.new]⟩
theorem mem_set {α:Type} {l:List α} {i:Nat} {x y:α} (h:y∈l.set i x):y∈l∨y=x:=by
 rcases List.mem_or_eq_of_mem_set h with h | h
 ·exact .inl h
 ·exact .inr h
theorem Ok.sync {n:Nat} {d:D} (h:Ok n d):Ok n (sync d):=⟨h.ln,h.ln,h.np,h.np,by simp [DK.sync],h.left⟩
theorem lay_ok (keep:List Int) {n:Nat}:∀ (ws:List (Nat × Pg)) (i:Nat) (ps:List Pg),(∀ x∈ws,x.2.length=32∧x.1 < n)→ps.length=n→(∀ p∈ps,p.length=32)→(lay keep i ws ps).length=n∧∀ p∈lay keep i ws ps,p.length=32
 | [],_,ps,_,h1,h2=>⟨h1,h2⟩
 | x::ws,i,ps,h,h1,h2=>by
  rw [lay]
  refine lay_ok keep ws (i+1) _ (fun y hy=>h y (by simp [hy])) ?_ ?_
  ·split <;> simp [h1]
  ·intro p hp
   split at hp
   ·rcases mem_set hp with hp | rfl
    ·exact h2 p hp
    ·exact (h x (by simp)).1
   ·exact h2 p hp
theorem Ok.crash {n:Nat} {d:D} (h:Ok n d) (keep:List Int):Ok n (crash d keep):=by
 have:=lay_ok keep d.ws 0 d.kept h.wp h.lk h.kp
 exact ⟨this.1,this.1,this.2,this.2,by simp [DK.crash],by simp [DK.crash]⟩
theorem lay_snoc (keep:List Int):∀ (ws:List (Nat × Pg)) (i:Nat) (ps:List Pg) (x:Nat × Pg),lay keep i (ws++[x]) ps=if decide (((i+ws.length:Nat):Int)∈keep)=true then (lay keep i ws ps).set x.1 x.2 else lay keep i ws ps
 | [],i,ps,x=>by simp [lay]
 | y::ws,i,ps,x=>by
  rw [List.cons_append,lay,lay_snoc keep ws (i+1)]
  rw [show i+1+ws.length=i+(y::ws).length by simp;omega]
  rw [lay]
end DK
theorem news_cells {w:World} {H:Nat} (hH:w.heap.size=H) (Y:List Value) (t:TypeId):∀ j u,Y[j]?=some u→(w.alloc (.cells Y.toArray t)).cell? ((⟨H,0,none⟩:Addr).add j)=some u:=by
 subst hH
 intro j u hj
 have:=(Blk.new w t Y.toArray).cell j
 rw [Addr.add_mid,Nat.zero_add,this];simpa using hj
theorem wpList_pushS {P:Program} (w:World) {ops:Array Oper} {rest:List Oper} {o:Oper} {a:Act} {Q:Exit→Act→World→Prop} (hgd:o.guard=none) (s x:Operand) (t:TypeId)
  (ho:o.op=.call { callee:=.builtin .append,args:=#[s,x],argTypes:=#[t,t] })
  (e:TypeId) (z:Value) (size bytes:Nat) (ht:P.underlying t=some (.slice e)) (hinfo:(P.info? e).map (fun i=>(i.zero,i.size,i.bytes))=some (some z,size,bytes)) (hzs:z.cells.size=size) (hsz:0 < size)
  (v:Value) (n:Nat) (xs:List Value) (hs:a.eval s=v) (hown:w.ownsRow 0 e size v n xs) (hsm:n≤1000000∧bytes≤1000)
  (news:List Value) (B:Nat) (hx:a.eval x=.slice (some ⟨B,0,none⟩) 1 1) (hl:news.length=size) (hB:∀ j u,news[j]?=some u→w.cell? ((⟨B,0,none⟩:Addr).add j)=some u) (h1:∀ u∈news,u.oneCell'=true)
  (h:∀ g c w',w'.ownsRow 0 e size (.slice (some ⟨g,0,none⟩) (n+1) c) (n+1) (xs++news)→Chg (fun k=>v.ownBlock=some k) w w'→(v.ownBlock=some g∨g=w.heap.size)→n+1≤c→wpList P ops Q rest (a.put o.dst (.slice (some ⟨g,0,none⟩) (n+1) c)) w'):wpList P ops Q (o::rest) a w:=by
 obtain ⟨i,hi,hz0,hz1,hz2⟩:=info_parts hinfo
 have hm:(n+1) * bytes≤140737488355328:=Nat.le_trans (Nat.mul_le_mul (show n+1≤1000001 by omega) hsm.2) (by decide)
 refine wpList_append_own_at w hgd s x t ho 0 e i z size bytes ht hi hz0 hz1 hz2 hzs hsz v n xs hs hown ⟨B,0,none⟩ 1 1 news hx (by omega) hB h1 (by unfold maxLen;omega) hm (Nat.zero_le _) ?_
 intro v' w' hown' hgr _ hat
 obtain ⟨g,c,hv,hc,_⟩:=own_form hown' (by omega)
 subst hv
 refine h g c w' hown' ((Chg.of_grown hgr).mono (fun k _ hk=>hk.symm)) ?_ hc
 rcases hat with hat | hat
 ·exact .inl (by rw [←hat];rfl)
 ·right;simpa [Value.ownBlock] using hat
theorem chg_at (w:World) (g i:Nat) (v:Value):Chg (fun k=>k=g) w (w.setCell ⟨g,i,none⟩ v):=(Chg.refl (fun k=>k=g) w).setCell (p:=⟨g,i,none⟩) (fun _=>rfl) v
theorem own_slice3 {w:World} {base:Nat} {e:TypeId} {size:Nat} {v:Value} {n:Nat} {xs:List Value} (h:w.ownsRow base e size v n xs):∃ A c,v=.slice A n c∧n≤c:=by
 rcases h.2 with ⟨rfl,rfl⟩ | ⟨g,cap,cur,rfl,_,_,h1,_⟩
 ·exact ⟨none,0,rfl,Nat.le_refl _⟩
 ·exact ⟨_,cap,rfl,h1⟩
theorem own_neq {w:World} {base base':Nat} {e e':TypeId} {size size':Nat} {v v':Value} {n n':Nat} {xs xs':List Value} (h:w.ownsRow base e size v n xs) (h':w.ownsRow base' e' size' v' n' xs') (hne:e≠e') {k:Nat} (hk:v.ownBlock=some k):v'.ownBlock≠some k:=by
 rcases h.2 with ⟨rfl,_⟩ | ⟨g,cap,cur,rfl,_,hg,_⟩
 ·simp [Value.ownBlock] at hk
 ·simp [Value.ownBlock] at hk;subst hk
  rcases h'.2 with ⟨rfl,_⟩ | ⟨g',cap',cur',rfl,_,hg',_⟩
  ·simp [Value.ownBlock]
  ·intro hk;simp [Value.ownBlock] at hk;subst hk
   rw [hg] at hg'
   injection hg' with h1
   injection h1 with _ h2
   exact hne h2
theorem wpList_append_rows {P:Program} (w:World) {ops:Array Oper} {rest:List Oper} {o:Oper} {a:Act} {Q:Exit→Act→World→Prop} (hgd:o.guard=none) (s x:Operand) (t:TypeId)
  (ho:o.op=.call { callee:=.builtin .append,args:=#[s,x],argTypes:=#[t,t] })
  (e:TypeId) (z:Value) (size bytes:Nat) (ht:P.underlying t=some (.slice e)) (hinfo:(P.info? e).map (fun i=>(i.zero,i.size,i.bytes))=some (some z,size,bytes)) (hzs:z.cells.size=size) (hsz:0 < size)
  (v:Value) (n:Nat) (xs:List Value) (hs:a.eval s=v) (hown:w.ownsRow 0 e size v n xs)
  (ao:Option Addr) (m c:Nat) (news:List Value) (hx:a.eval x=.slice ao m c) (hl:news.length=m * size) (hno:ao=none→m=0∧c=0) (hB:∀ ad,ao=some ad→∀ j u,news[j]?=some u→w.cell? (ad.add j)=some u) (h1:∀ u∈news,u.oneCell'=true) (hsm:n+m≤1000000∧bytes≤1000)
  (h:∀ A' c' w',w'.ownsRow 0 e size (.slice A' (n+m) c') (n+m) (xs++news)→Chg (fun k=>v.ownBlock=some k) w w'→(∀ g,(Value.slice A' (n+m) c').ownBlock=some g→v.ownBlock=some g∨g=w.heap.size)→wpList P ops Q rest (a.put o.dst (.slice A' (n+m) c')) w'):wpList P ops Q (o::rest) a w:=by
 obtain ⟨i,hi,hz0,hz1,hz2⟩:=info_parts hinfo
 cases ao with
 | none=>
  obtain ⟨rfl,rfl⟩:=hno rfl
  obtain rfl:news=[]:=List.eq_nil_of_length_eq_zero (by simpa using hl)
  refine wpList_append_own_none hgd s x t ho 0 e i size ht hi v n xs hs hown hx ?_
  obtain ⟨A',c',rfl,_⟩:=own_slice3 hown
  have:=h A' c' w (by simpa using hown) (Chg.refl _ _) (fun g hg=>.inl hg)
  simpa using this
 | some ad=>
  have hm:(n+m) * bytes≤140737488355328:=Nat.le_trans (Nat.mul_le_mul hsm.1 hsm.2) (by decide)
  refine wpList_append_own_at w hgd s x t ho 0 e i z size bytes ht hi hz0 hz1 hz2 hzs hsz v n xs hs hown ad m c news hx hl (hB ad rfl) h1 (by unfold maxLen;omega) hm (Nat.zero_le _) ?_
  intro v' w' hown' hgr _ hat
  obtain ⟨A',c',rfl,_⟩:=own_slice3 hown'
  refine h A' c' w' hown' ((Chg.of_grown hgr).mono (fun k _ hk=>hk.symm)) fun g hg=>?_
  rcases hat with hat | hat
  ·exact .inl (by rw [←hat];exact hg)
  ·right;rw [hat] at hg;exact (Option.some.inj hg).symm
theorem own_capmax {w:World} {base:Nat} {e:TypeId} {size n c m:Nat} {A:Option Addr} {xs:List Value} (h:w.ownsRow base e size (.slice A n c) m xs):c≤maxLen:=by
 rcases h.2 with ⟨h0,_⟩ | ⟨g,cap,cur,h0,_,_,_,h1,_⟩
 ·simp at h0;rw [h0.2.2];exact Nat.zero_le _
 ·simp at h0;rw [h0.2.2];exact h1
end Go.Proofs.YtkoajpeabicpdaaGreatDoor
