/-
  BridgeIs' walk beside the opening of its arguments. No conditions.
-/
import Derived.Test.YtakjakglkfhaaaaDoorBi
import Derived.Test.YtakjakglkfhaaaaDoorPi1
