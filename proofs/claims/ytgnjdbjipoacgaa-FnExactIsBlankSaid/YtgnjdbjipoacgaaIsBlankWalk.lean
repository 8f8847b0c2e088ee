/-
  The walk of FnExactIsBlank: it returns true, for every integer. No condition.
-/
import Derived.Test.YtgnjdbjipoacgaaRows
import Derived.WalkKit
import Derived.BigQuiet
namespace Go.Proofs.Ytgnjdbjipoacgaa
open Go.RowKit
set_option linter.unusedVariables false
set_option linter.unusedSimpArgs false

theorem fnExactIsBlank_walk (a0 : Int) (w0 : (Lit.int .i64 a0).wf = true) (w : World) :
    Calls Try.prog 4 #[.int .i64 a0] w fun e w' => e = .returned (.bool true) ∧ Below w.heap.size w w' := by
  clear w0
  go_enter Try.func4, Try.ntmps4
  go_wp2
  all_goals go_ret
  all_goals exact ⟨rfl, Below.refl _ _⟩
end Go.Proofs.Ytgnjdbjipoacgaa
