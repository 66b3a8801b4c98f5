/-
  Every letter's lower form is a letter and its own lower form: the rows of the case table, one after another.
-/
import Derived.Test.YtinmpjhmbciapaaDoorSmXa
namespace Go.Proofs.YtinmpjhmbciapaaDoor
namespace Sm
open Go.Lib
set_option maxRecDepth 1000000
theorem ok0 : ((caseT.drop 0).take 23).all okRow = true := by decide +kernel
theorem ok1 : ((caseT.drop 23).take 107).all okRow = true := by decide +kernel
theorem ok2 : ((caseT.drop 130).take 31).all okRow = true := by decide +kernel
theorem ok3 : ((caseT.drop 161).take 10).all okRow = true := by decide +kernel
theorem ok4 : ((caseT.drop 171).take 19).all okRow = true := by decide +kernel
end Sm
end Go.Proofs.YtinmpjhmbciapaaDoor
