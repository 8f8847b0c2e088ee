/-
  The contracts of the laws' own helpers on numbers (toDec, szDec, eqDec). No condition.
-/
import Derived.Test.YtbfkmpignbppfaaDecOk
import Derived.WalkSmall
namespace Go.Proofs.Ytbfkmpignbppfaa
open Go.RowKit
set_option linter.unusedVariables false
set_option linter.unusedSimpArgs false

theorem toDec_any (n : Bool) (s : ByteArray) (x : Int) (w : World) :
    Calls Try.prog 6 #[.agg #[.bool n, .string s, .int .i64 x]] w fun e w' => e = .returned (.agg #[.bool n, .string s, .int .i64 x]) ∧ Below w.heap.size w w' := by
  go_enter Try.func6, Try.ntmps6
  go_wp2
  refine bodyPost_ret (v := .agg #[.bool n, .string s, .int .i64 x]) (by simp [results, Try.results6, go_sem]) rfl ⟨rfl, ?_⟩
  go_light
  (repeat (first | exact Below.refl _ _ | assumption | refine Below.drew ?_ | refine below_drewN ?_ _ | (refine Below.alloc ?_ (by first | exact Nat.le_refl _ | (simp; done) | (simp; omega) | (simp at *; omega)) _) | (refine Below.setCell ?_ (by first | exact Nat.le_refl _ | (simp; done) | (simp; omega)) _) | (refine Below.trans ?_ (Below.mono (by assumption) (by first | exact Nat.le_refl _ | (simp; done) | (simp; omega) | (simp at *; omega))))))

/-- two numbers are the same -/
def decSame (n : Bool) (l : List UInt8) (x : Int) (n' : Bool) (l' : List UInt8) (x' : Int) : Bool := (n == n') && (l == l') && decide (x = x')

end Go.Proofs.Ytbfkmpignbppfaa
