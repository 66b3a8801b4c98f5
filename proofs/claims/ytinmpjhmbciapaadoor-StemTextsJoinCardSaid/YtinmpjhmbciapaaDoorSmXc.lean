/-
  Every letter's lower form is a letter and its own lower form: the rows of the case table, one after another.
-/
import Derived.Test.YtinmpjhmbciapaaDoorSmXa
namespace Go.Proofs.YtinmpjhmbciapaaDoor
namespace Sm
open Go.Lib
set_option maxRecDepth 1000000
theorem ok5 : ((caseT.drop 190).take 35).all okRow = true := by decide +kernel
theorem ok6 : ((caseT.drop 225).take 48).all okRow = true := by decide +kernel
theorem ok7 : ((caseT.drop 273).take 27).all okRow = true := by decide +kernel
theorem ok8 : ((caseT.drop 300).take 15).all okRow = true := by decide +kernel
theorem ok9 : ((caseT.drop 315).take 13).all okRow = true := by decide +kernel
theorem ok10 : ((caseT.drop 328).take 8).all okRow = true := by decide +kernel
end Sm
end Go.Proofs.YtinmpjhmbciapaaDoor
