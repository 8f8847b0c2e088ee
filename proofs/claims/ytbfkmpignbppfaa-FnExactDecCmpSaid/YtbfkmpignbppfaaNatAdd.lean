/-
  The contracts of adding naturals, the program's: the row of the sum. Conditions: rows of digits, no longer than 2 to the 39.
-/
import Derived.Test.YtbfkmpignbppfaaSums
import Derived.Test.YtbfkmpignbppfaaFill
import Derived.Test.YtbfkmpignbppfaaNat1
namespace Go.Proofs.Ytbfkmpignbppfaa
open Go.RowKit
set_option linter.unusedVariables false
set_option linter.unusedSimpArgs false

theorem ret_str {s t : ByteArray} (h : s = t) : Ending.returned (.string s) = .returned (.string t) := by rw [h]

end Go.Proofs.Ytbfkmpignbppfaa
