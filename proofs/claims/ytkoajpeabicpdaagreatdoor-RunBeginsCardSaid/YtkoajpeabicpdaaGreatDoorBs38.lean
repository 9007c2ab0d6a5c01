/-
Plain and small: a closed fact of a desk; one event alone; a row of edges that Edges has made. Conditions: as each says.
-/
import Derived.Test.YtkoajpeabicpdaaGreatDoorBs35
import Derived.Deep.RegionHeld3
set_option linter.unusedVariables false
namespace Go.Proofs.YtkoajpeabicpdaaGreatDoor
open Go Go.RowKit SQ TR DF PD PT
section
variable {n k:Nat} {e:AK.Ev} {B B':List AK.Ed} {xs:List Bool}
end
section
variable {w wr w':World} {g0 n i:Nat}
end
section
variable {w w' wr:World} {G:GrP} {n N:Nat} {A B:List AK.Ed} {f:AK.Ed→GM.St}
theorem gp_any (h:GrI w G n N A f) (hl:A.length≤200):Calls Tryz.prog 32 #[.pointer (some ⟨G.gb,0,none⟩)] w fun e w'=>e=.returned (.int .i64 (PD.cnt (ldr A) n:Nat))∧Ext w w':=by
 have q:=gparts_any h.m h.k.ok h.k.up hl
 have hL:=tree_len h
 rwa [show ((n:Int) - (GM.lvl f A 0).length)=((PD.cnt (ldr A) n:Nat):Int) by omega] at q
theorem ge_any (h:GrI w G n N A f) (hl:A.length≤200):Calls Tryz.prog 37 #[.pointer (some ⟨G.gb,0,none⟩)] w fun e w'=>∃ A5 c5,e=.returned (.slice A5 A.length c5)∧EdsAt w' A5 A∧(A.length≤c5∧c5≤maxLen)∧Ext w w':=by
 refine (gedges_any h.m h.k.ok h.k.up hl).mono ?_
 rintro e w5 ⟨A5,c5,rfl,hd5,hx5,_⟩
 have hed:=DRow.eds hd5 rfl
 exact ⟨A5,c5,rfl,hed.1,⟨hed.2,own_capmax (show w5.ownsRow 0 93 2 (.slice A5 A.length c5) A.length (rowsOf edC A) from hd5)⟩,hx5⟩
end
end Go.Proofs.YtkoajpeabicpdaaGreatDoor
