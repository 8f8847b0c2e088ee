/-
  The contracts of TextOk, the reference's and the program's: each answers okT. Conditions: as in the text on Runes.
-/
import Derived.Test.YtpolpihgclemnaaDoorRunes
namespace Go.Proofs.YtpolpihgclemnaaDoor
open Go.RowKit
open Go.Lib hiding intOf
set_option linter.unusedVariables false
set_option linter.unusedSimpArgs false

end Go.Proofs.YtpolpihgclemnaaDoor
