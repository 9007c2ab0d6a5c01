/-
  Steps of the first law's scripts, as Qst reads them. No conditions.
  How steps of the second law's scripts that came in are read whole: two numbers, a row of bytes, a row of numbers. No conditions.
-/
import Derived.Test.YthgniehfejklhaaGreatBs32
import Derived.Test.YthgniehfejklhaaGreatBs33
namespace Go.Proofs.YthgniehfejklhaaGreat
end Go.Proofs.YthgniehfejklhaaGreat
namespace Go.Proofs.YthgniehfejklhaaGreat
open Go Go.RowKit Go.ChangeShapes Go.WideShapes

structure ESt where
  t : Int
  n : Int
  A : Option Addr
  m : Nat
  c : Nat
  b : List Int
  KA : Option Addr
  km : Nat
  kc : Nat
  kl : List Int
instance : Inhabited ESt := ⟨⟨0, 0, none, 0, 0, [], none, 0, 0, []⟩⟩
structure EStAt (w : World) (g o : Nat) (s : ESt) : Prop where
  c0 : w.cell? ⟨g, o, none⟩ = some (.int .i64 s.t)
  c1 : w.cell? ⟨g, o + 1, none⟩ = some (.int .i64 s.n)
  c2 : w.cell? ⟨g, o + 2, none⟩ = some (.slice s.A s.m s.c)
  c3 : w.cell? ⟨g, o + 3, none⟩ = some (.slice s.KA s.km s.kc)
  c4 : ∃ EA el ec, w.cell? ⟨g, o + 4, none⟩ = some (.slice EA el ec)
  b : BytesAt w s.A s.b
  bl : s.b.length = s.m
  bm : s.m ≤ maxLen
  k : IntsAt w s.KA s.kl
  kl : s.kl.length = s.km
  km : s.km ≤ maxLen
  n64 : in64 s.n
def EStepsAt (w : World) (a : Option Addr) (len : Nat) (s : Nat → ESt) : Prop := len = 0 ∨ ∃ b off, a = some ⟨b, off, none⟩ ∧ b < w.heap.size ∧ ∀ i, i < len → EStAt w b (off + i * 5) (s i)
end Go.Proofs.YthgniehfejklhaaGreat
