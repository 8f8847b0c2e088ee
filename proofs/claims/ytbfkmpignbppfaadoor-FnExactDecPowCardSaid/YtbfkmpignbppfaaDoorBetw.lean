/-
  The contracts of the smallest helpers: within and l01Between, isPoint and l01Point. No condition.
-/
import Derived.Test.YtbfkmpignbppfaaDoorText
import Derived.WalkKit
import Derived.WalkLawsBesides
import Derived.BigQuiet
import Derived.Deep.Light
namespace Go.Proofs.YtbfkmpignbppfaaDoor
open Go.RowKit
set_option linter.unusedVariables false
set_option linter.unusedSimpArgs false

/-- lo ≤ n ≤ hi, as the walks meet it -/
def betw (n lo hi : Int) : Bool := decide (lo ≤ n) && decide (n ≤ hi)
theorem betw_nat {x : Int} (h : betw x 0 600 = true) : ∃ n : Nat, x = (n : Int) ∧ n ≤ 600 := by
  simp [betw] at h
  exact ⟨x.toNat, by omega, by omega⟩
theorem within_any (n lo hi : Int) (w : World) :
    Calls Tryd.prog 68 #[.int .i64 n, .int .i64 lo, .int .i64 hi] w fun e w' => e = .returned (.bool (betw n lo hi)) ∧ w' = w := by
  go_enter Tryd.func68, Tryd.ntmps68
  go_wp2
  all_goals go_ret
  all_goals refine ⟨ret_bool ?_, rfl⟩
  all_goals (simp [betw, *] <;> omega)

theorem l01Between_any (n lo hi : Int) (w : World) :
    Calls Tryd.prog 40 #[.int .i64 n, .int .i64 lo, .int .i64 hi] w fun e w' => e = .returned (.bool (betw n lo hi)) ∧ w' = w := by
  go_enter Tryd.func40, Tryd.ntmps40
  go_wp2
  all_goals go_ret
  all_goals refine ⟨ret_bool ?_, rfl⟩
  all_goals (simp [betw, *] <;> omega)


end Go.Proofs.YtbfkmpignbppfaaDoor
