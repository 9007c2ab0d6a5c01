/-
  PathRings' walk beside the opening of its arguments. No conditions.
-/
import Derived.Test.YtakjakglkfhaaaaDoorRg3
import Derived.Test.YtakjakglkfhaaaaDoorPi1
