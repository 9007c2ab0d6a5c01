/-
  BridgeHolds' walk beside the opening of its arguments. No conditions.
-/
import Derived.Test.YtakjakglkfhaaaaDoorBh
import Derived.Test.YtakjakglkfhaaaaDoorPi1
