/-
  The contracts of the laws' own helpers on numbers (toDec, szDec, eqDec). No condition.
-/
import Derived.Test.YtjjpdoabagnmoaaDoorDecOk
import Derived.WalkSmall
namespace Go.Proofs.YtjjpdoabagnmoaaDoor
open Go.RowKit
set_option linter.unusedVariables false
set_option linter.unusedSimpArgs false


/-- two numbers are the same -/
def decSame (n : Bool) (l : List UInt8) (x : Int) (n' : Bool) (l' : List UInt8) (x' : Int) : Bool := (n == n') && (l == l') && decide (x = x')

theorem eqDec_same (n : Bool) (s : ByteArray) (x : Int) (w : World) :
    Calls Tryd.prog 9 #[.agg #[.bool n, .string s, .int .i64 x], .agg #[.bool n, .string s, .int .i64 x]] w fun e w' => e = .returned (.bool true) ∧ Below w.heap.size w w' := by
  have h1 : (n != n) = false := by simp
  have h2 : (s.toList != s.toList) = false := by simp
  have h3 : (x != x) = false := by simp
  go_enter Tryd.func9, Tryd.ntmps9
  go_wp2
  go_ret
  go_light
  refine ⟨rfl, ?_⟩
  (repeat (first | exact Below.refl _ _ | assumption | refine Below.drew ?_ | refine below_drewN ?_ _ | (refine Below.alloc ?_ (by first | exact Nat.le_refl _ | (simp; done) | (simp; omega) | (simp at *; omega)) _) | (refine Below.setCell ?_ (by first | exact Nat.le_refl _ | (simp; done) | (simp; omega)) _) | (refine Below.trans ?_ (Below.mono (by assumption) (by first | exact Nat.le_refl _ | (simp; done) | (simp; omega) | (simp at *; omega))))))
end Go.Proofs.YtjjpdoabagnmoaaDoor
