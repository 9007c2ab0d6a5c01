/-
Towards TourPlays: the forest beside the reference's list; the reference's Node; parts and trees. Conditions: as each says.
-/
import Derived.Test.YtkoajpeabicpdaaGreatDoorBs17
import Derived.Test.YtkoajpeabicpdaaGreatDoorBs21
import Derived.Test.YtkoajpeabicpdaaGreatDoorBs30
import Derived.Test.YtkoajpeabicpdaaGreatDoorBs22
set_option linter.unusedVariables false
namespace Go.Proofs.YtkoajpeabicpdaaGreatDoor
open Go Go.RowKit SQ TR DF PD PT
theorem rnodeT_any (w:World) (n:Nat) (a:Int) (r:Bool) (hr:r=decide (0≤a∧a < n)):Calls Tryz.prog 136 #[.int .i64 n,.int .i64 a] w fun e w'=>e=.returned (.bool r)∧w=w':=by
 subst hr
 by_cases h1:0≤a
 ·by_cases h2:a < n
  ·have q:decide (0≤a∧a < (n:Int))=true:=by simp;omega
   rw [q]
   go_enter Tryz.func136,Tryz.ntmps136
   go_wp2
   go_ret
   exact ⟨rfl,rfl⟩
  ·have q:decide (0≤a∧a < (n:Int))=false:=by simp;omega
   rw [q]
   go_enter Tryz.func136,Tryz.ntmps136
   go_wp2
   go_ret
   exact ⟨rfl,rfl⟩
 ·have q:decide (0≤a∧a < (n:Int))=false:=by simp;omega
  rw [q]
  go_enter Tryz.func136,Tryz.ntmps136
  go_wp2
  go_ret
  exact ⟨rfl,rfl⟩
theorem parts_len {n:Nat} {es:List (Nat × Nat)} {p:List Nat} (h:IsParts n es p):∀ x,x < n→∃ v,p[x]?=some v:=fun x hx=>by obtain ⟨v,hv,_⟩:=h.get hx;exact ⟨v,hv⟩
theorem nrow_cell {w:World} {g c n x v:Nat} {p:List Nat} (h:NRow w (.slice (some ⟨g,0,none⟩) n c) n p) (hx:p[x]?=some v) (hn:x < n):w.cell? ⟨g,x,none⟩=some (.int .i64 (v:Nat)):=by
 unfold NRow at h
 rw [h.cellAt x (by omega)]
 exact natv_get hx
theorem out_cut {E:List AK.Ed} {x:AK.Ed} {k:Nat} (hup:E.Pairwise ltE) (hk:E[k]?=some x):E.eraseIdx k=cutE x E:=by
 have nd:=rises_nodup hup
 refine rises_ext (List.Pairwise.sublist (List.eraseIdx_sublist ..) hup) (hup.filter _) fun y=>?_
 rw [cutE_mem]
 have hkl:=(List.getElem?_eq_some_iff.1 hk).1
 have hkx:=(List.getElem?_eq_some_iff.1 hk).2
 constructor
 ·intro hy
  refine ⟨List.mem_of_mem_eraseIdx hy,fun e=>?_⟩
  subst e
  rw [List.mem_eraseIdx_iff_getElem?] at hy
  obtain ⟨i,hne,hi⟩:=hy
  have hil:=(List.getElem?_eq_some_iff.1 hi).1
  have:E[i]=E[k]:=by rw [hkx];exact (List.getElem?_eq_some_iff.1 hi).2
  exact hne ((List.getElem_inj nd).1 this)
 ·rintro ⟨hy,hne⟩
  rw [List.mem_eraseIdx_iff_getElem?]
  obtain ⟨i,hi⟩:=List.getElem?_of_mem hy
  exact ⟨i,fun e=>hne (by subst e;rw [hi] at hk;exact Option.some.inj hk),hi⟩
section
variable {w wr w' w4:World} {F:FoP} {n N N':Nat} {E E' L:List AK.Ed} {A A4:Option Addr} {c c4:Nat}
end
end Go.Proofs.YtkoajpeabicpdaaGreatDoor
