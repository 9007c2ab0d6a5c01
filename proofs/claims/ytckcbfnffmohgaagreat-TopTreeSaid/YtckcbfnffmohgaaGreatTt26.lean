/-
  How steps of the second law's scripts that came in are read: a number and a row of bytes. No conditions.
  How steps of the first law's scripts that came in are read whole: three numbers and a row of numbers. No conditions.
  Steps of the first law's scripts, as Qst reads them. No conditions.
  How steps of the second law's scripts that came in are read whole: two numbers, a row of bytes, a row of numbers. No conditions.
-/
import Derived.Test.YtckcbfnffmohgaaGreatTt25
import Derived.Test.YtckcbfnffmohgaaGreatTt23
import Derived.Test.YtckcbfnffmohgaaGreatTt5
import Derived.Test.YtckcbfnffmohgaaGreatTt2
namespace Go.Proofs.YtckcbfnffmohgaaGreat
open Go Go.RowKit Go.ChangeShapes Go.WideShapes

/-- A step: its number, its bytes, where they lie. -/
structure DSt where
  n : Int
  A : Option Addr
  m : Nat
  c : Nat
  b : List Int
instance : Inhabited DSt := ⟨⟨0, none, 0, 0, []⟩⟩
end Go.Proofs.YtckcbfnffmohgaaGreat
namespace Go.Proofs.YtckcbfnffmohgaaGreat
open Go Go.RowKit Go.ChangeShapes Go.WideShapes

/-- A step: its numbers, its row. -/
structure QSt where
  t : Int
  a : Int
  b : Int
  A : Option Addr
  m : Nat
  c : Nat
  l : List Int
instance : Inhabited QSt := ⟨⟨0, 0, 0, none, 0, 0, []⟩⟩
def in64 (x : Int) : Prop := -9223372036854775808 ≤ x ∧ x ≤ 9223372036854775807
end Go.Proofs.YtckcbfnffmohgaaGreat
namespace Go.Proofs.YtckcbfnffmohgaaGreat
end Go.Proofs.YtckcbfnffmohgaaGreat
namespace Go.Proofs.YtckcbfnffmohgaaGreat
open Go Go.RowKit Go.ChangeShapes Go.WideShapes

structure ESt where
  t : Int
  n : Int
  A : Option Addr
  m : Nat
  c : Nat
  b : List Int
  KA : Option Addr
  km : Nat
  kc : Nat
  kl : List Int
instance : Inhabited ESt := ⟨⟨0, 0, none, 0, 0, [], none, 0, 0, []⟩⟩
end Go.Proofs.YtckcbfnffmohgaaGreat
