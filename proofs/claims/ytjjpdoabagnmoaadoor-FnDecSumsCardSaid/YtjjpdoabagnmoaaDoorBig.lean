/-
  The contract of the laws' own bound on a code. Condition: a row no longer than memory holds.
-/
import Derived.Test.YtjjpdoabagnmoaaDoorInts
import Derived.WalkKit
import Derived.WalkLawsBesides
import Derived.WalkSpells
import Derived.BigQuiet
import Derived.Deep.Light
namespace Go.Proofs.YtjjpdoabagnmoaaDoor
open Go.RowKit
set_option linter.unusedVariables false
set_option linter.unusedSimpArgs false

theorem big_any (a : Option Addr) (len cap : Nat) (w : World) (hlen : len ≤ maxLen) :
    Calls Tryd.prog 12 #[.slice a len cap] w fun e w' => e = .returned (.bool (decide (1048576 < len))) ∧ w' = w := by
  unfold maxLen at hlen
  by_cases h : 1048576 < len
  · have h' : (1048576 : Int) < (len : Int) := by omega
    rw [decide_eq_true h]
    go_enter Tryd.func12, Tryd.ntmps12
    go_wp2
    go_ret
    exact ⟨rfl, rfl⟩
  · have h' : decide ((1048576 : Int) < (len : Int)) = false := decide_eq_false (by omega)
    rw [decide_eq_false h]
    go_enter Tryd.func12, Tryd.ntmps12
    go_wp2
    go_ret
    exact ⟨rfl, rfl⟩
end Go.Proofs.YtjjpdoabagnmoaaDoor
