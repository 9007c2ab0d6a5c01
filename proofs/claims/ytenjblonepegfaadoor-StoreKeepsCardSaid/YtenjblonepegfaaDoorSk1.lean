/-
  StoreKeeps' code in pieces. No conditions.
-/
import Derived.Test.YtenjblonepegfaaDoorSt16
namespace Go.Proofs.YtenjblonepegfaaDoor
open Go Go.RowKit

noncomputable def skRound : Code := cArm (cFst (cSnd (cArm (cArm (cSnd (cFst (cSnd (cSnd (cSnd (cSnd (cSnd (cSnd (cSnd (cSnd (cSnd (cSnd (cSnd (cSnd (cSnd (cSnd (cSnd (cSnd (cSnd (cSnd (cSnd (cSnd (cSnd (cBody Tryd.f6))))))))))))))))))))))))))))
noncomputable def skSw : Code := cSnd (cSnd skRound)
end Go.Proofs.YtenjblonepegfaaDoor
