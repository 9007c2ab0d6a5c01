/-
Plain mathematics of rows that are trees, balanced by weight. No program in sight. No conditions.
-/
set_option linter.unusedVariables false
namespace SQ
inductive T where
 | nil
 | node (l:T) (x:Int) (r:T)
def T.size:T→Nat
 | nil=>0
 | node l _ r=>l.size+1+r.size
def T.list:T→List Int
 | nil=>[]
 | node l x r=>l.list++x::r.list
theorem T.len:∀ t:T,t.list.length=t.size
 | nil=>rfl
 | node l x r=>by simp [list,size,len l,len r];omega
def hv (a b:T):Bool:=decide (3 * (b.size+1) < a.size+1)
def sg (a b:T):Bool:=decide (a.size+1 < 2 * (b.size+1))
def Bal:T→Prop
 | .nil=>True
 | .node l _ r=>Bal l∧Bal r∧l.size+1≤3 * (r.size+1)∧r.size+1≤3 * (l.size+1)
inductive BalR:T→Int→T→T→Prop
 | sr {l x rl rx rr} (h:hv (.node rl rx rr) l=true) (s:sg rl rr=true):BalR l x (.node rl rx rr) (.node (.node l x rl) rx rr)
 | dr {l x a y b rx rr} (h:hv (.node (.node a y b) rx rr) l=true) (s:sg (.node a y b) rr=false):BalR l x (.node (.node a y b) rx rr) (.node (.node l x a) y (.node b rx rr))
 | sl {ll lx lr x r} (g:hv r (.node ll lx lr)=false) (h:hv (.node ll lx lr) r=true) (s:sg lr ll=true):BalR (.node ll lx lr) x r (.node ll lx (.node lr x r))
 | dl {ll lx a y b x r} (g:hv r (.node ll lx (.node a y b))=false) (h:hv (.node ll lx (.node a y b)) r=true) (s:sg (.node a y b) ll=false):BalR (.node ll lx (.node a y b)) x r (.node (.node ll lx a) y (.node b x r))
 | no {l x r} (g:hv r l=false) (h:hv l r=false):BalR l x r (.node l x r)
theorem BalR.list {l r t:T} {x:Int} (h:BalR l x r t):t.list=l.list++x::r.list:=by
 cases h <;> simp [T.list]
theorem BalR.size {l r t:T} {x:Int} (h:BalR l x r t):t.size=l.size+1+r.size:=by
 have:=h.list;have e:=congrArg List.length this;simp [T.len] at e;omega
theorem BalR.bal {l r t:T} {x:Int} (h:BalR l x r t) (hl:Bal l) (hr:Bal r) (h1:3 * (l.size+1)≤13 * (r.size+1)) (h2:3 * (r.size+1)≤13 * (l.size+1)∨r.size+1≤3 * (l.size+2)):Bal t:=by
 cases h with
 | sr h s=>
  obtain ⟨b1,b2,b3,b4⟩:=hr
  simp only [hv,sg,decide_eq_true_eq] at h s
  simp only [T.size] at h h1 h2
  exact ⟨⟨hl,b1,by omega,by omega⟩,b2,by simp only [T.size];omega,by simp only [T.size];omega⟩
 | dr h s=>
  obtain ⟨⟨c1,c2,c3,c4⟩,b2,b3,b4⟩:=hr
  simp only [hv,sg,decide_eq_true_eq,decide_eq_false_iff_not] at h s
  simp only [T.size] at h s h1 h2 b3 b4
  exact ⟨⟨hl,c1,by omega,by omega⟩,⟨c2,b2,by omega,by omega⟩,by simp only [T.size];omega,by simp only [T.size];omega⟩
 | sl g h s=>
  obtain ⟨b1,b2,b3,b4⟩:=hl
  simp only [hv,sg,decide_eq_true_eq] at h s
  simp only [T.size] at h h1 h2
  exact ⟨b1,⟨b2,hr,by omega,by omega⟩,by simp only [T.size];omega,by simp only [T.size];omega⟩
 | dl g h s=>
  obtain ⟨b1,⟨c1,c2,c3,c4⟩,b3,b4⟩:=hl
  simp only [hv,sg,decide_eq_true_eq,decide_eq_false_iff_not] at h s
  simp only [T.size] at h s h1 h2 b3 b4
  exact ⟨⟨b1,c1,by omega,by omega⟩,⟨c2,hr,by omega,by omega⟩,by simp only [T.size];omega,by simp only [T.size];omega⟩
 | no g h=>
  simp only [hv,decide_eq_false_iff_not] at g h
  exact ⟨hl,hr,by omega,by omega⟩
theorem hv_node {a b:T} (h:hv a b=true):∃ l x r,a=.node l x r:=by
 cases a with
 | nil=>simp [hv,T.size] at h
 | node l x r=>exact ⟨l,x,r,rfl⟩
theorem sg_node {a b:T} (h:sg a b=false):∃ l x r,a=.node l x r:=by
 cases a with
 | nil=>simp [sg,T.size] at h;omega
 | node l x r=>exact ⟨l,x,r,rfl⟩
inductive LinkR:T→Int→T→T→Prop
 | r {l x rl rx rr t u} (h:hv (.node rl rx rr) l=true) (k:LinkR l x rl t) (b:BalR t rx rr u):LinkR l x (.node rl rx rr) u
 | l {ll lx lr x r t u} (g:hv r (.node ll lx lr)=false) (h:hv (.node ll lx lr) r=true) (k:LinkR lr x r t) (b:BalR ll lx t u):LinkR (.node ll lx lr) x r u
 | no {l x r} (g:hv r l=false) (h:hv l r=false):LinkR l x r (.node l x r)
theorem LinkR.list {l r t:T} {x:Int} (h:LinkR l x r t):t.list=l.list++x::r.list:=by
 induction h with
 | r h k b ih=>rw [b.list,ih];simp [T.list]
 | l g h k b ih=>rw [b.list,ih];simp [T.list]
 | no g h=>simp [T.list]
theorem LinkR.size {l r t:T} {x:Int} (h:LinkR l x r t):t.size=l.size+1+r.size:=by
 have e:=congrArg List.length h.list;simp [T.len] at e;omega
theorem LinkR.bal {l r t:T} {x:Int} (h:LinkR l x r t) (hl:Bal l) (hr:Bal r):Bal t:=by
 induction h with
 | r h k b ih=>
  obtain ⟨b1,b2,b3,b4⟩:=hr
  have hs:=k.size
  simp only [hv,decide_eq_true_eq] at h
  simp only [T.size] at h
  exact b.bal (ih hl b1) b2 (by omega) (.inl (by omega))
 | l g h k b ih=>
  obtain ⟨b1,b2,b3,b4⟩:=hl
  have hs:=k.size
  simp only [hv,decide_eq_true_eq] at h
  simp only [T.size] at h
  exact b.bal b1 (ih b2 hr) (by omega) (.inl (by omega))
 | no g h=>
  simp only [hv,decide_eq_false_iff_not] at g h
  exact ⟨hl,hr,by omega,by omega⟩
inductive FirstR:T→Int→T→Prop
 | no {x r}:FirstR (.node .nil x r) x r
 | go {ll lx lr x r y t u} (k:FirstR (.node ll lx lr) y t) (b:BalR t x r u):FirstR (.node (.node ll lx lr) x r) y u
theorem FirstR.list {s t:T} {x:Int} (h:FirstR s x t):s.list=x::t.list:=by
 induction h with
 | no=>simp [T.list]
 | go k b ih=>rw [b.list];simp only [T.list] at ih ⊢;rw [ih];simp
theorem FirstR.size {s t:T} {x:Int} (h:FirstR s x t):s.size=t.size+1:=by
 have e:=congrArg List.length h.list;simpa [T.len] using e
theorem FirstR.bal {s t:T} {x:Int} (h:FirstR s x t) (hs:Bal s):Bal t:=by
 induction h with
 | no=>exact hs.2.1
 | go k b ih=>
  obtain ⟨b1,b2,b3,b4⟩:=hs
  have e:=k.size
  exact b.bal (ih b1) b2 (by omega) (.inr (by omega))
end SQ
