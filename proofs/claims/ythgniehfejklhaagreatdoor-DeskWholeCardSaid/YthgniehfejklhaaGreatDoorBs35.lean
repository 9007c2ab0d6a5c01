/-
  Steps of the first law's scripts, as Qst reads them. No conditions.
  How steps of the second law's scripts that came in are read whole: two numbers, a row of bytes, a row of numbers. No conditions.
-/
import Derived.Test.YthgniehfejklhaaGreatDoorBs33
import Derived.Test.YthgniehfejklhaaGreatDoorBs34
namespace Go.Proofs.YthgniehfejklhaaGreatDoor
end Go.Proofs.YthgniehfejklhaaGreatDoor
namespace Go.Proofs.YthgniehfejklhaaGreatDoor
open Go Go.RowKit Go.ChangeShapes Go.WideShapes

structure ESt where
  t : Int
  n : Int
  A : Option Addr
  m : Nat
  c : Nat
  b : List Int
  KA : Option Addr
  km : Nat
  kc : Nat
  kl : List Int
instance : Inhabited ESt := ⟨⟨0, 0, none, 0, 0, [], none, 0, 0, []⟩⟩
structure EStAt (w : World) (g o : Nat) (s : ESt) : Prop where
  c0 : w.cell? ⟨g, o, none⟩ = some (.int .i64 s.t)
  c1 : w.cell? ⟨g, o + 1, none⟩ = some (.int .i64 s.n)
  c2 : w.cell? ⟨g, o + 2, none⟩ = some (.slice s.A s.m s.c)
  c3 : w.cell? ⟨g, o + 3, none⟩ = some (.slice s.KA s.km s.kc)
  c4 : ∃ EA el ec, w.cell? ⟨g, o + 4, none⟩ = some (.slice EA el ec)
  b : BytesAt w s.A s.b
  bl : s.b.length = s.m
  bm : s.m ≤ maxLen
  k : IntsAt w s.KA s.kl
  kl : s.kl.length = s.km
  km : s.km ≤ maxLen
  n64 : in64 s.n
def EStepsAt (w : World) (a : Option Addr) (len : Nat) (s : Nat → ESt) : Prop := len = 0 ∨ ∃ b off, a = some ⟨b, off, none⟩ ∧ b < w.heap.size ∧ ∀ i, i < len → EStAt w b (off + i * 5) (s i)
theorem open_esteps {H : Type} {enc : TypeId × Value → H} {w : World} {spare : Nat → Bool} {held : Bool} {a : Option Addr} {len cap : Nat} {d : DataW H} {p : List MemPlace} (h : DataW.Trod enc Tryz.prog w 0 spare held 66 (.slice a len cap) d p) : ∃ s, EStepsAt w a len s ∧ len ≤ cap ∧ cap ≤ maxLen := by
  obtain ⟨fuel, hf⟩ := h
  obtain ⟨hl, hm, h0 | ⟨b, off, rfl, hlt, n, hx⟩⟩ := open_structs Tryz.underlying66 Tryz.underlying72 (show Tryz.prog.cellsOf 72 = 5 by kernel_rfl) (by decide) (show DataW.trod enc Tryz.prog w 0 spare held fuel 66 [.slice a len cap] = _ from hf)
  · exact ⟨fun _ => default, .inl h0, hl, hm⟩
  · have each : ∀ i, i < len → ∃ q : ESt, EStAt w b (off + i * 5) q := by
      intro i hi
      obtain ⟨cs, h1, h2, h3⟩ := hx i hi
      obtain ⟨c0, c1, c2, c3, c4, rfl⟩ := list5 h1
      obtain ⟨y0, g0⟩ := h3 0 _ rfl
      obtain ⟨y1, g1⟩ := h3 1 _ rfl
      obtain ⟨y2, g2⟩ := h3 2 _ rfl
      obtain ⟨y3, g3⟩ := h3 3 _ rfl
      obtain ⟨y4, g4⟩ := h3 4 _ rfl
      have cb : Tryz.prog.cellsOf 70 = 1 := by kernel_rfl
      have ci : Tryz.prog.cellsOf 32 = 1 := by kernel_rfl
      have ce : Tryz.prog.cellsOf 52 = 1 := by kernel_rfl
      simp [cellsInt, cb, ci, ce] at g0 g1 g2 g3 g4
      obtain ⟨x0, e0, _⟩ := DataW.trod_int Tryz.underlying3 g0
      obtain ⟨x1, e1, _, k1⟩ := DataW.trod_int Tryz.underlying3 g1
      obtain ⟨A, m, c, xs, e2, hB, hxl, hml⟩ := open_bytes1 g2
      obtain ⟨KA, km, kc, kl, e3, hK, hkl, hkc, hkm, _⟩ := open_ints1 g3
      simp at e0 e1
      subst e0; subst e1; subst e2; subst e3
      refine ⟨⟨x0, x1, A, m, c, xs, KA, km, kc, kl⟩, by simpa using h2 0 _ rfl, h2 1 _ rfl, h2 2 _ rfl, h2 3 _ rfl, ?_, hB, hxl, hml, hK, hkl, Nat.le_trans hkc hkm, in64_of k1⟩
      rcases Deep.open_slice Tryz.underlying52 g4 with ⟨hc, _⟩ | ⟨ad, len', cap', m', n', D, Pl, hc, _⟩
      · simp at hc; subst hc; exact ⟨_, _, _, h2 4 _ rfl⟩
      · simp at hc; subst hc; exact ⟨_, _, _, h2 4 _ rfl⟩
    obtain ⟨s, hs⟩ := Deep.choose_lt each
    exact ⟨s, .inr ⟨b, off, rfl, hlt, hs⟩, hl, hm⟩
end Go.Proofs.YthgniehfejklhaaGreatDoor
