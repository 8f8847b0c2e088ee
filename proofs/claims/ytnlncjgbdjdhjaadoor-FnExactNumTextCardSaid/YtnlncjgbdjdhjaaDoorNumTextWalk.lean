/-
  The walk of FnExactNumText: both sides return the numeral. Condition: the table of strconv stands in memory.
-/
import Derived.Test.YtnlncjgbdjdhjaaDoorPowTab
namespace Go.Proofs.YtnlncjgbdjdhjaaDoor
open Go.RowKit
set_option linter.unusedVariables false
set_option linter.unusedSimpArgs false

theorem fnExactNumText_walk (w : World) (hT : PowTab w) (x : Int) (hx : (Lit.int .i64 x).wf = true) :
    Calls Tryd.prog 9 #[.int .i64 x] w fun e w' => e = .returned (.bool true) ∧ Below w.heap.size w w' := by
  have hb : -9223372036854775808 ≤ x ∧ x ≤ 9223372036854775807 := by
    simpa [Lit.wf, IntKind.min, IntKind.max, IntKind.signed, IntKind.bits] using hx
  have HA := Lib.hid (fun w => specNumText_any x w hb.1 hb.2)
  have HB := Lib.hid (fun (w : World) (hT : PowTab w) => (by
    have hI := Lib.hid (itoa_any x w hb.1 hb.2 hT)
    go_enter Tryd.func29, Tryd.ntmps29
    go_wp2_with fail
    refine hI.out.mono ?_
    rintro e w1 ⟨rfl, hb1⟩
    go_wp2
    go_ret
    exact ⟨rfl, hb1⟩ : Calls Tryd.prog 29 #[.int .i64 x] w fun e w' => e = .returned (.string (ofL (numL x))) ∧ Below w.heap.size w w'))
  go_enter Tryd.func9, Tryd.ntmps9
  go_wp2_with fail
  refine (HA.out _).mono ?_
  rintro e w1 ⟨rfl, hb1⟩
  have hT1 := hT.below hb1
  go_wp2_with fail
  refine (HB.out _ hT1).mono ?_
  rintro e w2 ⟨rfl, hb2⟩
  go_wp2
  go_ret
  exact ⟨rfl, hb1.trans (hb2.mono hb1.size)⟩
end Go.Proofs.YtnlncjgbdjdhjaaDoor
