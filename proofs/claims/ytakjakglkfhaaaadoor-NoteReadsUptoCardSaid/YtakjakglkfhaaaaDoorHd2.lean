/-
  What NoteBack's tied card's condition gives: the cell of errors.errorType, the library's two errors; and a world that meets the condition. No conditions.
-/
import Derived.Test.YtakjakglkfhaaaaDoorHd
import Derived.Test.YtakjakglkfhaaaaDoorShl
import Derived.Stop.LaidErr
import Derived.Lib.SmallJoins
namespace Go.Proofs.YtakjakglkfhaaaaDoor
open Go.ChangeShapes Go.WideShapes Go.RowKit
set_option linter.unusedVariables false
set_option maxRecDepth 100000 in
/-- An event by value, opened. -/
theorem open_event {H : Type} {enc : TypeId × Value → H} {w : World} {base b0 : Nat} {spare : Nat → Bool} {held : Bool} {r : Reach} {v : Value} {d : DataW H} {p : List MemPlace} (hv : Value.okWide Tryd.prog w r b0 25 v) (h : DataW.Trod enc Tryd.prog w base spare held 25 v d p) :
    ∃ a b c : Int, v = .agg #[.int .i64 a, .int .i64 b, .int .i64 c] := by
  obtain ⟨v0, v1, v2, y0, y1, y2, n, rfl, _, _, h0, h1, h2⟩ := Go.Joins.open_agg3 Tryd.underlying25 (by kernel_rfl) (by kernel_rfl) hv h
  obtain ⟨a, e0, _, _⟩ := DataW.trod_int Tryd.underlying3 h0
  obtain ⟨b, e1, _, _⟩ := DataW.trod_int Tryd.underlying3 h1
  obtain ⟨c, e2, _, _⟩ := DataW.trod_int Tryd.underlying3 h2
  simp only [List.cons.injEq, and_true] at e0 e1 e2
  subst e0; subst e1; subst e2
  exact ⟨a, b, c, rfl⟩
namespace Hd2
def tabs : List (String × DataW Unit) := [("math/bits.deBruijn32tab", Rows.laid_math_bits_deBruijn32tab), ("math/bits.deBruijn64tab", Rows.laid_math_bits_deBruijn64tab), ("internal/strconv.uint64pow10", Rows.laid_internal_strconv_uint64pow10)]
def errs : List (String × DataW Unit) := [("strconv.ErrRange", Rows.laid_strconv_ErrRange), ("strconv.ErrSyntax", Rows.laid_strconv_ErrSyntax)]
def laid : List (String × DataW Unit) := [("math/bits.deBruijn32tab", Rows.laid_math_bits_deBruijn32tab), ("math/bits.deBruijn64tab", Rows.laid_math_bits_deBruijn64tab), ("internal/strconv.uint64pow10", Rows.laid_internal_strconv_uint64pow10), ("errors.errorType", Rows.laid_errors_errorType), ("strconv.ErrRange", Rows.laid_strconv_ErrRange), ("strconv.ErrSyntax", Rows.laid_strconv_ErrSyntax)]
theorem gE : Tryd.prog.globalNamed "strconv.ErrSyntax" = some 2 := by kernel_rfl
theorem gR : Tryd.prog.globalNamed "strconv.ErrRange" = some 3 := by kernel_rfl
theorem gET : (Tryd.prog.globals[2]?).map (·.type) = some 31 := by kernel_rfl
theorem gRT : (Tryd.prog.globals[3]?).map (·.type) = some 31 := by kernel_rfl
theorem starES : "*" ++ "errors.errorString" = "*errors.errorString" := by decide
theorem rowES (u : TypeId) (h : Tryd.prog.typeName? 3 u = some "*errors.errorString") : u = 180 :=
  typeName_ptr_named (nm := "errors.errorString") (by rw [starES]; kernel_rfl) (by kernel_rfl) (by decide) u (by rw [starES]; exact h)
/-- What the condition gives a walk. -/
theorem door_of_laid {W : World} (h : laidMetH Tryd.prog laid W) : Td.Door W ∧ Errs W := by
  have h' : laidMet Tryd.prog (tabs ++ errs) W ∧ handlesMet Tryd.prog Hd.laid W := h
  refine ⟨Hd.door_of_laid (show laidMetH Tryd.prog Hd.laid W from ?_), ?_⟩
  · exact (show laidMet Tryd.prog [] W ∧ handlesMet Tryd.prog Hd.laid W from ⟨h'.1.tail.tail.tail.tail.tail, h'.2⟩)
  · have hR := h'.1.tail.tail.tail
    obtain ⟨a0, s0, hv0, -, -, -⟩ := laid_sentinel hR gR gRT Tryd.underlying31 rowES Tryd.underlying180 Tryd.underlying182 rfl rfl Tryd.underlying9 (by kernel_rfl) (by kernel_rfl)
    obtain ⟨a1, s1, hv1, -, -, -⟩ := laid_sentinel hR.tail gE gET Tryd.underlying31 rowES Tryd.underlying180 Tryd.underlying182 rfl rfl Tryd.underlying9 (by kernel_rfl) (by kernel_rfl)
    exact ⟨⟨_, _, by have h0 := World.var?_cell gE hv1 0; simpa using h0⟩, ⟨_, _, by have h0 := World.var?_cell gR hv0 0; simpa using h0⟩⟩
abbrev synS : ByteArray := { data := #[105, 110, 118, 97, 108, 105, 100, 32, 115, 121, 110, 116, 97, 120] }
abbrev rngS : ByteArray := { data := #[118, 97, 108, 117, 101, 32, 111, 117, 116, 32, 111, 102, 32, 114, 97, 110, 103, 101] }
noncomputable def low : Nat := (World.holding Tryd.prog default ⟨#[], #[], []⟩).heap.size
def litOf : DataW Unit → Value
  | .lit (.int k v) => .int k v
  | _ => undef
def litsOf : DataW Unit → Array Value
  | .agg ds => (ds.map litOf).toArray
  | _ => #[]
def setTo (cs : Array Value) : Obj → Obj
  | .cells _ t frozen => .cells cs t frozen
  | o => o
/-- A world that meets the condition: the settled one, the six variables' cells laid. -/
noncomputable def laidWorld (os : Os) : World :=
  let w0 := World.holding Tryd.prog os ⟨#[.cells #[.string synS] 182, .cells #[.string rngS] 182], #[], []⟩
  let h1 := w0.heap.modify 5 (setTo (litsOf Rows.laid_math_bits_deBruijn32tab))
  let h2 := h1.modify 6 (setTo (litsOf Rows.laid_math_bits_deBruijn64tab))
  let h3 := h2.modify 4 (setTo (litsOf Rows.laid_internal_strconv_uint64pow10))
  let h4 := h3.modify 0 (setTo #[.iface 139 (.agg #[.pointer (some ⟨7, 31, none⟩)])])
  let h5 := h4.modify 2 (setTo #[.iface 180 (.pointer (some ⟨low, 0, none⟩))])
  { w0 with heap := h5.modify 3 (setTo #[.iface 180 (.pointer (some ⟨low + 1, 0, none⟩))]) }
set_option maxRecDepth 100000 in
theorem laidWorld_data (os : Os) (args : Array Value) : laidMet Tryd.prog (tabs ++ errs) ((laidWorld os).forCall (fun _ _ => 0) ⟨#[], args, []⟩).memory :=
  laidMet_of_run' 8 (by kernel_rfl) (by kernel_rfl)
set_option maxRecDepth 100000 in
theorem laidWorld_met (os : Os) (args : Array Value) : laidMetH Tryd.prog laid ((laidWorld os).forCall (fun _ _ => 0) ⟨#[], args, []⟩).memory :=
  laidMetH_of_parts (laidWorld_data os args) (by kernel_rfl)
end Hd2
end Go.Proofs.YtakjakglkfhaaaaDoor
