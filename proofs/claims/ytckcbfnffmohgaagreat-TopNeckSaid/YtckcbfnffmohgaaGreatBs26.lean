/-
  How steps of the second law's scripts that came in are read: a number and a row of bytes. No conditions.
  How steps of the first law's scripts that came in are read whole: three numbers and a row of numbers. No conditions.
  Steps of the first law's scripts, as Qst reads them. No conditions.
  How steps of the second law's scripts that came in are read whole: two numbers, a row of bytes, a row of numbers. No conditions.
-/
import Derived.Test.YtckcbfnffmohgaaGreatBs25
import Derived.Test.YtckcbfnffmohgaaGreatBs23
import Derived.Test.YtckcbfnffmohgaaGreatBs5
import Derived.Test.YtckcbfnffmohgaaGreatBs2
namespace Go.Proofs.YtckcbfnffmohgaaGreat
open Go Go.RowKit Go.ChangeShapes Go.WideShapes

theorem list5 {α : Type} {l : List α} (h : l.length = 5) : ∃ a b c d e, l = [a, b, c, d, e] := by
  match l, h with
  | [a, b, c, d, e], _ => exact ⟨a, b, c, d, e, rfl⟩
theorem open_bytes1 {H : Type} {enc : TypeId × Value → H} {w : World} {spare : Nat → Bool} {held : Bool} {fuel : Nat} {v : Value} {x : DataW H × List MemPlace} (h : DataW.trod enc Tryz.prog w 0 spare held fuel 95 [v] = some x) :
    ∃ (A : Option Addr) (len cap : Nat) (xs : List Int), v = .slice A len cap ∧ BytesAt w A xs ∧ xs.length = len ∧ len ≤ maxLen := by
  rcases open_ints Tryz.underlying95 Tryz.underlying5 (by kernel_rfl) h with ⟨hcs, _⟩ | ⟨x, len, cap, zs, hcs, _, hl, hm, hz, _, hcell, _⟩
  · simp at hcs
    exact ⟨none, 0, 0, [], hcs, .inl rfl, rfl, by unfold maxLen; omega⟩
  · simp at hcs
    rcases Nat.eq_zero_or_pos len with h0 | h0
    · subst h0; exact ⟨some x, 0, cap, [], hcs, .inl rfl, rfl, by unfold maxLen; omega⟩
    have hlz : len ≤ zs.length := by rw [hz]; split <;> omega
    have hs := World.cell?_spot (hcell 0 (by omega))
    have hs' : x.spot = none := by simpa [Addr.add] using hs
    obtain ⟨b, off, sp⟩ := x
    simp only at hs'
    subst hs'
    have hc0 := hcell 0 (by omega)
    refine ⟨_, len, cap, zs.take len, hcs, .inr ⟨b, off, rfl, World.block_lt_of_cell? w ⟨b, off, none⟩ (by simpa [Addr.add] using hc0), fun i v hv => ?_⟩, by simp; omega, by omega⟩
    have hi : i < len := by have := (List.getElem?_eq_some_iff.1 hv).1; simp at this; omega
    have := hcell i (by omega)
    rw [List.getElem?_take, if_pos hi] at hv
    rw [List.getD_eq_getElem?_getD, hv, Option.getD_some, Addr.add_mid] at this
    exact this
/-- A step: its number, its bytes, where they lie. -/
structure DSt where
  n : Int
  A : Option Addr
  m : Nat
  c : Nat
  b : List Int
instance : Inhabited DSt := ⟨⟨0, none, 0, 0, []⟩⟩
def DStAt (w : World) (g o : Nat) (s : DSt) : Prop := w.cell? ⟨g, o + 1, none⟩ = some (.int .i64 s.n) ∧ w.cell? ⟨g, o + 2, none⟩ = some (.slice s.A s.m s.c) ∧ BytesAt w s.A s.b ∧ s.b.length = s.m ∧ s.m ≤ maxLen
def DStepsAt (w : World) (a : Option Addr) (len : Nat) (s : Nat → DSt) : Prop := len = 0 ∨ ∃ b off, a = some ⟨b, off, none⟩ ∧ b < w.heap.size ∧ ∀ i, i < len → DStAt w b (off + i * 5) (s i)
theorem DStAt.ext {w w' : World} {g o : Nat} {s : DSt} (h : DStAt w g o s) (hg : g < w.heap.size) (hb : Below w.heap.size w w') : DStAt w' g o s :=
  ⟨(hb.cell (p := ⟨g, o + 1, none⟩) hg).trans h.1, (hb.cell (p := ⟨g, o + 2, none⟩) hg).trans h.2.1, h.2.2.1.ext hb, h.2.2.2⟩
theorem DStepsAt.ext {w w' : World} {a : Option Addr} {len : Nat} {s : Nat → DSt} (h : DStepsAt w a len s) (hb : Below w.heap.size w w') : DStepsAt w' a len s := by
  rcases h with h | ⟨b, off, rfl, hlt, hc⟩
  · exact .inl h
  · exact .inr ⟨b, off, rfl, Nat.lt_of_lt_of_le hlt hb.size, fun i hi => (hc i hi).ext hlt hb⟩
end Go.Proofs.YtckcbfnffmohgaaGreat
namespace Go.Proofs.YtckcbfnffmohgaaGreat
open Go Go.RowKit Go.ChangeShapes Go.WideShapes

theorem open_ints1 {H : Type} {enc : TypeId × Value → H} {w : World} {spare : Nat → Bool} {held : Bool} {fuel : Nat} {v : Value} {x : DataW H × List MemPlace} (h : DataW.trod enc Tryz.prog w 0 spare held fuel 39 [v] = some x) :
    ∃ (A : Option Addr) (len cap : Nat) (xs : List Int), v = .slice A len cap ∧ IntsAt w A xs ∧ xs.length = len ∧ len ≤ cap ∧ cap ≤ maxLen ∧ (A = none → len = 0 ∧ cap = 0) := by
  rcases open_ints Tryz.underlying39 Tryz.underlying3 (by kernel_rfl) h with ⟨hcs, _⟩ | ⟨x, len, cap, zs, hcs, _, hl, hm, hz, _, hcell, _⟩
  · simp at hcs
    exact ⟨none, 0, 0, [], hcs, .inl rfl, rfl, by omega, by unfold maxLen; omega, fun _ => ⟨rfl, rfl⟩⟩
  · simp at hcs
    rcases Nat.eq_zero_or_pos len with h0 | h0
    · subst h0; exact ⟨some x, 0, cap, [], hcs, .inl rfl, rfl, by omega, by omega, fun h => by cases h⟩
    have hlz : len ≤ zs.length := by rw [hz]; split <;> omega
    have hs := World.cell?_spot (hcell 0 (by omega))
    have hs' : x.spot = none := by simpa [Addr.add] using hs
    obtain ⟨b, off, sp⟩ := x
    simp only at hs'
    subst hs'
    have hc0 := hcell 0 (by omega)
    refine ⟨_, len, cap, zs.take len, hcs, .inr ⟨b, off, rfl, World.block_lt_of_cell? w ⟨b, off, none⟩ (by simpa [Addr.add] using hc0), fun i v hv => ?_⟩, by simp; omega, by omega, by omega, fun h => by cases h⟩
    have hi : i < len := by have := (List.getElem?_eq_some_iff.1 hv).1; simp at this; omega
    have := hcell i (by omega)
    rw [List.getElem?_take, if_pos hi] at hv
    rw [List.getD_eq_getElem?_getD, hv, Option.getD_some, Addr.add_mid] at this
    exact this
/-- A step: its numbers, its row. -/
structure QSt where
  t : Int
  a : Int
  b : Int
  A : Option Addr
  m : Nat
  c : Nat
  l : List Int
instance : Inhabited QSt := ⟨⟨0, 0, 0, none, 0, 0, []⟩⟩
def in64 (x : Int) : Prop := -9223372036854775808 ≤ x ∧ x ≤ 9223372036854775807
theorem in64_of {n : Int} (h : (Lit.int .i64 n).wf = true) : in64 n := by
  unfold in64
  simpa [Lit.wf, IntKind.min, IntKind.max, IntKind.signed, IntKind.bits] using h
def QStAt (w : World) (g o : Nat) (s : QSt) : Prop := w.cell? ⟨g, o, none⟩ = some (.int .i64 s.t) ∧ w.cell? ⟨g, o + 1, none⟩ = some (.int .i64 s.a) ∧ w.cell? ⟨g, o + 2, none⟩ = some (.int .i64 s.b) ∧ w.cell? ⟨g, o + 3, none⟩ = some (.slice s.A s.m s.c) ∧ IntsAt w s.A s.l ∧ s.l.length = s.m ∧ s.m ≤ s.c ∧ s.c ≤ maxLen ∧ (s.A = none → s.m = 0 ∧ s.c = 0) ∧ in64 s.a ∧ in64 s.b
theorem QStAt.cells {w : World} {g o : Nat} {s : QSt} (h : QStAt w g o s) : ∃ (t x y : Int) (A : Option Addr) (m c : Nat), w.cell? ⟨g, o, none⟩ = some (.int .i64 t) ∧ w.cell? ⟨g, o + 1, none⟩ = some (.int .i64 x) ∧ w.cell? ⟨g, o + 2, none⟩ = some (.int .i64 y) ∧ w.cell? ⟨g, o + 3, none⟩ = some (.slice A m c) ∧ in64 x ∧ in64 y :=
  ⟨_, _, _, _, _, _, h.1, h.2.1, h.2.2.1, h.2.2.2.1, h.2.2.2.2.2.2.2.2.2.1, h.2.2.2.2.2.2.2.2.2.2⟩
def QStepsAt (w : World) (a : Option Addr) (len : Nat) (s : Nat → QSt) : Prop := len = 0 ∨ ∃ b off, a = some ⟨b, off, none⟩ ∧ b < w.heap.size ∧ ∀ i, i < len → QStAt w b (off + i * 4) (s i)
theorem QStAt.ext {w w' : World} {g o : Nat} {s : QSt} (h : QStAt w g o s) (hg : g < w.heap.size) (hb : Below w.heap.size w w') : QStAt w' g o s :=
  ⟨(hb.cell (p := ⟨g, o, none⟩) hg).trans h.1, (hb.cell (p := ⟨g, o + 1, none⟩) hg).trans h.2.1, (hb.cell (p := ⟨g, o + 2, none⟩) hg).trans h.2.2.1, (hb.cell (p := ⟨g, o + 3, none⟩) hg).trans h.2.2.2.1, h.2.2.2.2.1.ext hb, h.2.2.2.2.2⟩
theorem QStepsAt.ext {w w' : World} {a : Option Addr} {len : Nat} {s : Nat → QSt} (h : QStepsAt w a len s) (hb : Below w.heap.size w w') : QStepsAt w' a len s := by
  rcases h with h | ⟨b, off, rfl, hlt, hc⟩
  · exact .inl h
  · exact .inr ⟨b, off, rfl, Nat.lt_of_lt_of_le hlt hb.size, fun i hi => (hc i hi).ext hlt hb⟩
end Go.Proofs.YtckcbfnffmohgaaGreat
namespace Go.Proofs.YtckcbfnffmohgaaGreat
end Go.Proofs.YtckcbfnffmohgaaGreat
namespace Go.Proofs.YtckcbfnffmohgaaGreat
open Go Go.RowKit Go.ChangeShapes Go.WideShapes

structure ESt where
  t : Int
  n : Int
  A : Option Addr
  m : Nat
  c : Nat
  b : List Int
  KA : Option Addr
  km : Nat
  kc : Nat
  kl : List Int
instance : Inhabited ESt := ⟨⟨0, 0, none, 0, 0, [], none, 0, 0, []⟩⟩
structure EStAt (w : World) (g o : Nat) (s : ESt) : Prop where
  c0 : w.cell? ⟨g, o, none⟩ = some (.int .i64 s.t)
  c1 : w.cell? ⟨g, o + 1, none⟩ = some (.int .i64 s.n)
  c2 : w.cell? ⟨g, o + 2, none⟩ = some (.slice s.A s.m s.c)
  c3 : w.cell? ⟨g, o + 3, none⟩ = some (.slice s.KA s.km s.kc)
  c4 : ∃ EA el ec, w.cell? ⟨g, o + 4, none⟩ = some (.slice EA el ec)
  b : BytesAt w s.A s.b
  bl : s.b.length = s.m
  bm : s.m ≤ maxLen
  k : IntsAt w s.KA s.kl
  kl : s.kl.length = s.km
  km : s.km ≤ maxLen
  n64 : in64 s.n
def EStepsAt (w : World) (a : Option Addr) (len : Nat) (s : Nat → ESt) : Prop := len = 0 ∨ ∃ b off, a = some ⟨b, off, none⟩ ∧ b < w.heap.size ∧ ∀ i, i < len → EStAt w b (off + i * 5) (s i)
end Go.Proofs.YtckcbfnffmohgaaGreat
