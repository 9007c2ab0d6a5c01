/-
  slices.symMergeCmpFunc at rows of ints, by span.light's closure: all of it, by induction on the stretch. Conditions: as in Ss4.
-/
import Derived.Test.YtckcbfnffmohgaaDoorSs5
namespace Go.Proofs.YtckcbfnffmohgaaDoor
open Go Go.Shelf Go.RowKit Go.Lib Go.Sort SS
set_option linter.unusedVariables false
variable {nn : Nat}

theorem sym_all (wt : Int → Int) (w0 : World) (d0 : Array Int) (blk off : Nat) (cb : Array Value) (hC : CmpLays1 Tryd.prog 35 cb (eN nn) (cfW wt) blk off d0.size w0) (R : Row1 (eN nn) w0 blk off d0) (hsz : d0.size < 100000) : ∀ t, SymC nn wt w0 d0 blk off cb t
  | 0 => fun cap a m b d w h1 h2 h3 _ _ _ _ _ _ => by omega
  | t + 1 => fun cap a m b d w h1 h2 h3 h4 h5 S hx hy hc => by
    by_cases c1 : a + 1 = m
    · subst c1
      exact sym_one wt w0 d0 blk off cap a b d w cb hC R h5 S h3 h4 (by omega) hy hc
    · by_cases c2 : m + 1 = b
      · subst c2
        exact sym_last wt w0 d0 blk off cap a m d w cb hC R h5 S (by omega) h4 (by omega) hx hc
      · exact sym_great wt w0 d0 blk off cap a m b t d w cb (sym_all wt w0 d0 blk off cb hC R hsz t) h1 hC R h5 S (by omega) (by omega) h4 (by omega) hx hy hc
end Go.Proofs.YtckcbfnffmohgaaDoor
