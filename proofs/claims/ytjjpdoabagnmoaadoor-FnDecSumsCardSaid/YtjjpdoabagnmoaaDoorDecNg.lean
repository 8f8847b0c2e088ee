/-
  Negated numbers, once for both signs. Condition: numbers in form.
-/
import Derived.Test.YtjjpdoabagnmoaaDoorThree

namespace Go.Proofs.YtjjpdoabagnmoaaDoor
open Go.RowKit
set_option linter.unusedVariables false
set_option linter.unusedSimpArgs false

/-- the sign of a negated number -/
def ng (m : Bool) (t : ByteArray) : Bool := if t.size = 0 then m else !m
theorem ng_ok {m : Bool} {t : ByteArray} {y : Int} (h : decOk m (bs t) y = true) : decOk (ng m t) (bs t) y = true := by
  by_cases h0 : t.size = 0
  · unfold ng; rw [if_pos h0]; exact h
  · unfold ng; rw [if_neg h0]
    have hn : bs t ≠ [] := ne_nil (by omega)
    unfold decOk at h ⊢
    rw [if_neg hn] at h ⊢
    exact h
theorem decNeg_ng (m : Bool) (t : ByteArray) (y : Int) (w : World) :
    Calls Tryd.prog 44 #[.agg #[.bool m, .string t, .int .i64 y]] w fun e w' => e = .returned (.agg #[.bool (ng m t), .string t, .int .i64 y]) ∧ Below w.heap.size w w' := by
  by_cases h0 : t.size = 0
  · unfold ng; rw [if_pos h0]; exact decNeg_zero y m t w h0
  · unfold ng; rw [if_neg h0]; exact decNeg_yes y m t w (by omega)
theorem specDecNeg_ng (m : Bool) (t : ByteArray) (y : Int) (w : World) (ht : t.size ≤ maxLen) (hy : (Lit.int .i64 y).wf = true) (h : decOk m (bs t) y = true) :
    Calls Tryd.prog 45 #[.agg #[.bool m, .string t, .int .i64 y]] w fun e w' => e = .returned (.agg #[.bool (ng m t), .string t, .int .i64 y]) ∧ Below w.heap.size w w' := by
  by_cases h0 : t.size = 0
  · obtain ⟨rfl, rfl, rfl⟩ := decOk_zero h h0
    exact specDecNeg_no false ⟨#[]⟩ 0 w ht hy (.inr h0)
  · unfold ng; rw [if_neg h0]; exact specDecNeg_yes m t y w ht hy h (by omega)
end Go.Proofs.YtjjpdoabagnmoaaDoor
