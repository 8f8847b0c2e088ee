/-
  The contracts of the smallest helpers: within and l01Between, isPoint and l01Point. No condition.
-/
import Derived.Test.YtpolpihgclemnaaDoorText
import Derived.WalkKit
import Derived.WalkLawsBesides
import Derived.BigQuiet
import Derived.Deep.Light
namespace Go.Proofs.YtpolpihgclemnaaDoor
open Go.RowKit
set_option linter.unusedVariables false
set_option linter.unusedSimpArgs false

/-- lo ≤ n ≤ hi, as the walks meet it -/
def betw (n lo hi : Int) : Bool := decide (lo ≤ n) && decide (n ≤ hi)
theorem betw_nat {x : Int} (h : betw x 0 600 = true) : ∃ n : Nat, x = (n : Int) ∧ n ≤ 600 := by
  simp [betw] at h
  exact ⟨x.toNat, by omega, by omega⟩
theorem within_any (n lo hi : Int) (w : World) :
    Calls Tryd.prog 36 #[.int .i64 n, .int .i64 lo, .int .i64 hi] w fun e w' => e = .returned (.bool (betw n lo hi)) ∧ w' = w := by
  go_enter Tryd.func36, Tryd.ntmps36
  go_wp2
  all_goals go_ret
  all_goals refine ⟨ret_bool ?_, rfl⟩
  all_goals (simp [betw, *] <;> omega)

theorem l01Between_any (n lo hi : Int) (w : World) :
    Calls Tryd.prog 18 #[.int .i64 n, .int .i64 lo, .int .i64 hi] w fun e w' => e = .returned (.bool (betw n lo hi)) ∧ w' = w := by
  go_enter Tryd.func18, Tryd.ntmps18
  go_wp2
  all_goals go_ret
  all_goals refine ⟨ret_bool ?_, rfl⟩
  all_goals (simp [betw, *] <;> omega)

theorem l01Point_any (c : Int) (w : World) :
    Calls Tryd.prog 11 #[.int .i64 c] w fun e w' => e = .returned (.bool (isPt c)) ∧ w' = w := by
  go_enter Tryd.func11, Tryd.ntmps11
  go_wp2_with (go_at_call 18; refine (l01Between_any _ _ _ _).mono ?_; rintro e w1 ⟨rfl, rfl⟩)
  all_goals go_ret
  all_goals refine ⟨ret_bool ?_, rfl⟩
  all_goals go_light
  all_goals (simp only [betw] at *; simp [isPt, *])

theorem isPoint_any (c : Int) (w : World) :
    Calls Tryd.prog 30 #[.int .i64 c] w fun e w' => e = .returned (.bool (isPt c)) ∧ w' = w := by
  go_enter Tryd.func30, Tryd.ntmps30
  go_wp2_with (go_at_call 36; refine (within_any _ _ _ _).mono ?_; rintro e w1 ⟨rfl, rfl⟩)
  all_goals go_ret
  all_goals refine ⟨ret_bool ?_, rfl⟩
  all_goals go_light
  all_goals (simp only [betw] at *; simp [isPt, *])
end Go.Proofs.YtpolpihgclemnaaDoor
