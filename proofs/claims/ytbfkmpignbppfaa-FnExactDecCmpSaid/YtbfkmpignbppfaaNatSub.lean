/-
  The contract of taking away, the program's: the row of the difference. Conditions: rows of digits, no longer than 2 to the 39; the second number is not greater.
-/
import Derived.Test.YtbfkmpignbppfaaNatAdd
namespace Go.Proofs.Ytbfkmpignbppfaa
open Go.RowKit
set_option linter.unusedVariables false
set_option linter.unusedSimpArgs false

end Go.Proofs.Ytbfkmpignbppfaa
