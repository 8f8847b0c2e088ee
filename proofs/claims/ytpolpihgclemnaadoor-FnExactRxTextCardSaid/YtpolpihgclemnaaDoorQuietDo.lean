/-
  One step of a quiet walk by hand: an operation whose guard is false is passed over, one whose guard is true is done. Conditions: none beyond the guard's.
-/
import Derived.Lib.QuietBelow
import Derived.Deep.CutBlock
namespace Go.Proofs.YtpolpihgclemnaaDoor
open Go.RowKit
set_option linter.unusedVariables false
set_option linter.unusedSimpArgs false

theorem wpQuiet_skip {P : Program} {ops : Array Oper} {C : World → Prop} {Q : Act → Prop} {a : Act} {o : Oper} {rest : List Oper} (h : Region.wanted o (yielded ops a.tmps) = false) (k : wpQuiet P ops C Q rest (a.put o.dst undef)) : wpQuiet P ops C Q (o :: rest) a := by
  refine wpQuiet_step (fun K hK => ?_)
  rw [if_neg (by rw [h]; simp)]
  exact hK _ k
theorem wpQuiet_do {P : Program} {ops : Array Oper} {C : World → Prop} {Q : Act → Prop} {a : Act} {o : Oper} {rest : List Oper} (h : Region.wanted o (yielded ops a.tmps) = true) (k : ∀ K : Act → Prop, (∀ a, wpQuiet P ops C Q rest a → K a) → o.quiet P a C K) : wpQuiet P ops C Q (o :: rest) a := by
  refine wpQuiet_step (fun K hK => ?_)
  rw [if_pos h]
  exact k K hK
end Go.Proofs.YtpolpihgclemnaaDoor
