/-
  What the Stem laws' rows take.
-/
import Derived.Test.YtinmpjhmbciapaaDoorSmTab
import Derived.Test.YtinmpjhmbciapaaDoorShut
namespace Go.Proofs.YtinmpjhmbciapaaDoor
end Go.Proofs.YtinmpjhmbciapaaDoor
