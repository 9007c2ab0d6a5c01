/-
What the tied cards' condition of RunAnswers and RunBegins gives: the library's variables as laid; and a world that meets the condition. No conditions.
-/
import Derived.Test.YtkoajpeabicpdaaGreatDoorBs52
import Derived.Test.YtkoajpeabicpdaaGreatDoorBs43
import Derived.Stop.LaidErr
set_option linter.unusedVariables false
namespace Go.Proofs.YtkoajpeabicpdaaGreatDoor
open Go.ChangeShapes Go.WideShapes Go.RowKit
namespace Hd3
def laid:List (String × DataW Unit):=[("math/bits.deBruijn32tab",Rows.laid_math_bits_deBruijn32tab),("math/bits.deBruijn64tab",Rows.laid_math_bits_deBruijn64tab),("internal/strconv.uint64pow10",Rows.laid_internal_strconv_uint64pow10),("unicode/utf8.acceptRanges",Rows.laid_unicode_utf8_acceptRanges),("errors.errorType",Rows.laid_errors_errorType),("strconv.ErrRange",Rows.laid_strconv_ErrRange),("strconv.ErrSyntax",Rows.laid_strconv_ErrSyntax),("unicode/utf8.first",Rows.laid_unicode_utf8_first)]
def rest0:List (String × DataW Unit):=[("math/bits.deBruijn32tab",Rows.laid_math_bits_deBruijn32tab),("math/bits.deBruijn64tab",Rows.laid_math_bits_deBruijn64tab),("internal/strconv.uint64pow10",Rows.laid_internal_strconv_uint64pow10),("unicode/utf8.acceptRanges",Rows.laid_unicode_utf8_acceptRanges),("strconv.ErrRange",Rows.laid_strconv_ErrRange),("strconv.ErrSyntax",Rows.laid_strconv_ErrSyntax),("unicode/utf8.first",Rows.laid_unicode_utf8_first)]
theorem gE:Tryz.prog.globalNamed "strconv.ErrSyntax" = some 2:=by kernel_rfl
theorem gR:Tryz.prog.globalNamed "strconv.ErrRange" = some 3:=by kernel_rfl
theorem gET:(Tryz.prog.globals[2]?).map (·.type)=some 27:=by kernel_rfl
theorem gRT:(Tryz.prog.globals[3]?).map (·.type)=some 27:=by kernel_rfl
theorem gPT:(Tryz.prog.globals[4]?).map (·.type)=some 282:=by kernel_rfl
theorem starES: "*" ++ "errors.errorString" = "*errors.errorString" := by decide
theorem rowES (u:TypeId) (h:Tryz.prog.typeName? 3 u=some "*errors.errorString"):u=306:=
 typeName_ptr_named (nm:= "errors.errorString") (by rw [starES];kernel_rfl) (by kernel_rfl) (by decide) u (by rw [starES];exact h)
theorem env_of_laid {W:World} (h:laidMetH Tryz.prog laid W):RunEnv W:=by
 have h':laidMet Tryz.prog rest0 W∧handlesMet Tryz.prog Hd.laid W:=h
 refine ⟨?_,Hd.door_of_laid (show laidMetH Tryz.prog Hd.laid W from ?_),?_⟩
 ·have hR:=h'.1.tail.tail.tail.tail
  obtain ⟨a0,s0,hv0,-,-,-⟩:=laid_sentinel hR gR gRT Tryz.underlying27 rowES Tryz.underlying306 Tryz.underlying308 rfl rfl Tryz.underlying9 (by kernel_rfl) (by kernel_rfl)
  obtain ⟨a1,s1,hv1,-,-,-⟩:=laid_sentinel hR.tail gE gET Tryz.underlying27 rowES Tryz.underlying306 Tryz.underlying308 rfl rfl Tryz.underlying9 (by kernel_rfl) (by kernel_rfl)
  exact ⟨⟨_,_,by have h0:=World.var?_cell gE hv1 0;simpa using h0⟩,⟨_,_,by have h0:=World.var?_cell gR hv0 0;simpa using h0⟩⟩
 ·exact (show laidMet Tryz.prog [] W∧handlesMet Tryz.prog Hd.laid W from ⟨h'.1.tail.tail.tail.tail.tail.tail.tail,h'.2⟩)
 ·exact Lib.tabIs_of_head gPow gPT Tryz.underlying282 Tryz.underlying236 (by kernel_rfl) (by kernel_rfl) (show laidMet Tryz.prog (("internal/strconv.uint64pow10",Lib.tabData .u64 Lib.pow10Tab)::_) W from h'.1.tail.tail)
abbrev synS:ByteArray:={ data:=#[105,110,118,97,108,105,100,32,115,121,110,116,97,120] }
abbrev rngS:ByteArray:={ data:=#[118,97,108,117,101,32,111,117,116,32,111,102,32,114,97,110,103,101] }
noncomputable def low:Nat:=(World.holding Tryz.prog default ⟨#[],#[],[]⟩).heap.size
def litOf:DataW Unit→Value
 | .lit (.int k v)=>.int k v
 | _=>undef
def litsIn:DataW Unit→List Value
 | .agg ds=>ds.map litOf
 | d=>[litOf d]
def litsOf:DataW Unit→Array Value
 | .agg ds=>(ds.flatMap litsIn).toArray
 | _=>#[]
def setTo (cs:Array Value):Obj→Obj
 | .cells _ t frozen=>.cells cs t frozen
 | o=>o
noncomputable def laidWorld (os:Os):World:=
 let w0:=World.holding Tryz.prog os ⟨#[.cells #[.string synS] 308,.cells #[.string rngS] 308],#[],[]⟩
 let h1:=w0.heap.modify 7 (setTo (litsOf Rows.laid_math_bits_deBruijn32tab))
 let h2:=h1.modify 8 (setTo (litsOf Rows.laid_math_bits_deBruijn64tab))
 let h3:=h2.modify 4 (setTo (litsOf Rows.laid_internal_strconv_uint64pow10))
 let h4:=h3.modify 1 (setTo #[.iface 243 (.agg #[.pointer (some ⟨9,27,none⟩)])])
 let h5:=h4.modify 2 (setTo #[.iface 306 (.pointer (some ⟨low,0,none⟩))])
 let h6:=h5.modify 6 (setTo (litsOf Rows.laid_unicode_utf8_acceptRanges))
 let h7:=h6.modify 5 (setTo (litsOf Rows.laid_unicode_utf8_first))
 { w0 with heap:=h7.modify 3 (setTo #[.iface 306 (.pointer (some ⟨low+1,0,none⟩))]) }
set_option maxRecDepth 100000 in
theorem laidWorld_data (os:Os) (args:Array Value):laidMet Tryz.prog rest0 ((laidWorld os).forCall (fun _ _=>0) ⟨#[],args,[]⟩).memory:=
 laidMet_of_run' 8 (by kernel_rfl) (by kernel_rfl)
set_option maxRecDepth 100000 in
theorem laidWorld_met (os:Os) (args:Array Value):laidMetH Tryz.prog laid ((laidWorld os).forCall (fun _ _=>0) ⟨#[],args,[]⟩).memory:=
 laidMetH_of_parts (laidWorld_data os args) (by kernel_rfl)
end Hd3
end Go.Proofs.YtkoajpeabicpdaaGreatDoor
