/-
  Walks of package seq: Len, heavy, single, node, balance. Condition: the rows lie in memory as 'SeqAt' says (a tree of nodes that nobody writes to), and have at most 1000 items.
-/
import Derived.Test.YtckcbfnffmohgaaRows
import Derived.Test.YtckcbfnffmohgaaSpanLeastPk30
import Derived.Test.YtckcbfnffmohgaaMem
import Derived.Test.YtckcbfnffmohgaaInts
import Derived.WalkKit
import Derived.WalkSpells
import Derived.Lib.Hide
import Derived.Outline
import Derived.Deep.QuietTactic
import Derived.BigQuiet
import Derived.Deep.RegionHeld3
import Derived.Deep.DrawnRows
namespace Go.Proofs.Ytckcbfnffmohgaa
open Go Go.RowKit SQ

/-- A row lies in memory: a tree of nodes. -/
def SeqAt (w : World) : Option Addr → T → Prop
  | p, .nil => p = none
  | p, .node l x r => ∃ (b : Nat) (lp rp : Option Addr), p = some ⟨b, 0, none⟩ ∧ Blk w b 97 #[.pointer lp, .pointer rp, .int .i64 x, .int .i64 ((l.size + 1 + r.size : Nat) : Int)] ∧ SeqAt w lp l ∧ SeqAt w rp r
theorem SeqAt.ext {w w' : World} (he : Ext w w') : ∀ {t : T} {p : Option Addr}, SeqAt w p t → SeqAt w' p t
  | .nil, _, h => h
  | .node _ _ _, _, ⟨b, lp, rp, h1, h2, h3, h4⟩ => ⟨b, lp, rp, h1, h2.chg (Chg.new he (fun _ => False)) (fun h => h), h3.ext he, h4.ext he⟩
theorem SeqAt.nil (w : World) : SeqAt w none .nil := rfl

theorem seqCells (w : World) {p : Option Addr} {l r : T} {x : Int} (h : SeqAt w p (.node l x r)) : ∃ (b : Nat) (lp rp : Option Addr), p = some ⟨b, 0, none⟩ ∧ b < w.heap.size ∧ w.cell? ⟨b, 0, none⟩ = some (.pointer lp) ∧ w.cell? ⟨b, 1, none⟩ = some (.pointer rp) ∧
    w.cell? ⟨b, 2, none⟩ = some (.int .i64 x) ∧ w.cell? ⟨b, 3, none⟩ = some (.int .i64 ((l.size + 1 + r.size : Nat) : Int)) ∧ SeqAt w lp l ∧ SeqAt w rp r := by
  obtain ⟨b, lp, rp, h1, h2, h3, h4⟩ := h
  exact ⟨b, lp, rp, h1, h2.lt, h2.cell 0, h2.cell 1, h2.cell 2, h2.cell 3, h3, h4⟩

set_option maxHeartbeats 400000 in
theorem len_any (w : World) (p : Option Addr) (t : T) (h : SeqAt w p t) :
    Calls Try.prog 54 #[.pointer p] w fun e w' => e = .returned (.int .i64 (t.size : Nat)) ∧ w = w' := by
  cases t with
  | nil =>
    obtain rfl : p = none := h
    go_enter Try.func54, Try.ntmps54
    go_wp2
    go_ret
    exact ⟨rfl, rfl⟩
  | node l x r =>
    obtain ⟨b, lp, rp, rfl, _, _, _, _, h3, _, _⟩ := seqCells w h
    clear h
    go_enter Try.func54, Try.ntmps54
    go_wp2
    go_ret
    exact ⟨rfl, rfl⟩
theorem ret_b {a b : Bool} (h : a = b) : Ending.returned (.bool a) = .returned (.bool b) := by rw [h]
set_option maxHeartbeats 400000 in
theorem heavy_any (w : World) (p q : Option Addr) (a b : T) (ha : SeqAt w p a) (hb : SeqAt w q b) (h1 : a.size ≤ 1000) (h2 : b.size ≤ 1000) (r : Bool) (hr : hv a b = r) :
    Calls Try.prog 51 #[.pointer p, .pointer q] w fun e w' => e = .returned (.bool r) ∧ w = w' := by
  have HR := Lib.hid hr
  clear hr
  go_enter Try.func51, Try.ntmps51
  go_wp2_with fail
  refine (len_any w p a ha).mono ?_
  rintro e w' ⟨rfl, rfl⟩
  go_wp2_with fail
  refine (len_any w q b hb).mono ?_
  rintro e w' ⟨rfl, rfl⟩
  go_wp2
  go_ret
  refine ⟨ret_b ?_, rfl⟩
  rw [← HR.out]; unfold hv; rw [Bool.eq_iff_iff]; simp only [decide_eq_true_eq]; omega
set_option maxHeartbeats 400000 in
theorem single_any (w : World) (p q : Option Addr) (a b : T) (ha : SeqAt w p a) (hb : SeqAt w q b) (h1 : a.size ≤ 1000) (h2 : b.size ≤ 1000) (r : Bool) (hr : sg a b = r) :
    Calls Try.prog 67 #[.pointer p, .pointer q] w fun e w' => e = .returned (.bool r) ∧ w' = w := by
  have HR := Lib.hid hr
  clear hr
  go_enter Try.func67, Try.ntmps67
  go_wp2_with fail
  refine (len_any w p a ha).mono ?_
  rintro e w' ⟨rfl, rfl⟩
  go_wp2_with fail
  refine (len_any w q b hb).mono ?_
  rintro e w' ⟨rfl, rfl⟩
  go_wp2
  go_ret
  refine ⟨ret_b ?_, rfl⟩
  rw [← HR.out]; unfold sg; rw [Bool.eq_iff_iff]; simp only [decide_eq_true_eq]; omega

/-- A row is made: it lies in memory, and nothing that was there has turned. -/
def Made (w : World) (t : T) (e : Ending) (w' : World) : Prop := ∃ p : Option Addr, e = .returned (.pointer p) ∧ SeqAt w' p t ∧ Ext w w'
set_option maxHeartbeats 400000 in
theorem mk_any (w : World) (p q : Option Addr) (a b : T) (x : Int) (ha : SeqAt w p a) (hb : SeqAt w q b) (h1 : a.size ≤ 1000) (h2 : b.size ≤ 1000) :
    Calls Try.prog 53 #[.pointer p, .int .i64 x, .pointer q] w (Made w (.node a x b)) := by
  have HA := Lib.hid ha
  have HB := Lib.hid hb
  go_enter Try.func53, Try.ntmps53
  go_wp2_with fail
  refine (len_any w p a ha).mono ?_
  rintro e w' ⟨rfl, rfl⟩
  go_wp2_with fail
  refine (len_any w q b hb).mono ?_
  rintro e w' ⟨rfl, rfl⟩
  clear ha hb
  go_wp2
  go_ret
  refine ⟨some ⟨w.heap.size, 0, none⟩, rfl, ⟨w.heap.size, p, q, rfl, ?_, HA.out.ext (Ext.alloc _ _), HB.out.ext (Ext.alloc _ _)⟩, Ext.alloc _ _⟩
  have := Blk.new w 97 #[.pointer p, .pointer q, .int .i64 x, .int .i64 ((a.size : Int) + 1 + (b.size : Int))]
  rw [show ((a.size + 1 + b.size : Nat) : Int) = (a.size : Int) + 1 + (b.size : Int) by omega]
  exact this
end Go.Proofs.Ytckcbfnffmohgaa
