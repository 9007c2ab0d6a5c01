/-
  BridgeMore's walk beside the opening of its arguments. No conditions.
-/
import Derived.Test.YtakjakglkfhaaaaBm3
import Derived.Test.YtakjakglkfhaaaaPi1
