/-
  The walk of FnExactDecOf, out of the contracts. Conditions: an int; for the program's the table of strconv stands in memory.
-/
import Derived.Test.YtbfkmpignbppfaaDoorPowTab
import Derived.Test.YtbfkmpignbppfaaDoorPair
import Derived.Test.YtbfkmpignbppfaaDoorDecLaw
import Derived.Test.YtbfkmpignbppfaaDoorDecOf
namespace Go.Proofs.YtbfkmpignbppfaaDoor
open Go.RowKit
set_option linter.unusedVariables false
set_option linter.unusedSimpArgs false

theorem decOf_law (x y : Int) (m : Bool) (t : ByteArray) (w : World) (hT : PowTab w)
    (hA : ∀ w, Calls Tryd.prog 21 #[.int .i64 x] w fun e w' => e = .returned (.agg #[.bool m, .string t, .int .i64 y]) ∧ Below w.heap.size w w')
    (hB : ∀ w, PowTab w → Calls Tryd.prog 22 #[.int .i64 x] w fun e w' => e = .returned (.agg #[.bool m, .string t, .int .i64 y]) ∧ Below w.heap.size w w') :
    Calls Tryd.prog 5 #[.int .i64 x] w fun e w' => e = .returned (.bool true) ∧ Below w.heap.size w w' := by
  have HA := Lib.hid hA
  have HB := Lib.hid hB
  clear hA hB
  go_enter Tryd.func5, Tryd.ntmps5
  go_wp2_with fail
  refine (HA.out _).mono ?_
  rintro e w1 ⟨rfl, hb1⟩
  have hT1 := hT.below hb1
  go_wp2_with fail
  obtain ⟨v1, hv1, hz, hb, hc, hf⟩ := one_laid w1 m t y
  rw [hv1]
  refine (HB.out _ (hT1.below hb)).mono ?_
  rintro e w2 ⟨rfl, hb2⟩
  obtain ⟨hz2, hc2, hf2⟩ := one_kept hb2 hz hc hf
  have hB1 := hb1.trans (hb.mono hb1.size)
  have hB2 := hB1.trans (hb2.mono hB1.size)
  have hne : ¬ (w1.heap.size = w2.heap.size) := Nat.ne_of_lt hz2
  have hne' : ¬ (w2.heap.size = w1.heap.size) := Nat.ne_of_gt hz2
  clear hv1 hz hb hc hf hb1 hb2 hB1 hT1
  go_wp2_with fail
  refine (eqDec_same m t y _).mono ?_
  rintro e w3 ⟨rfl, hb3⟩
  go_wp2
  go_ret
  exact ⟨rfl, (hB2.alloc hB2.size _).trans (hb3.mono (hB2.alloc hB2.size _).size)⟩

theorem fnExactDecOf_walk (w : World) (hT : PowTab w) (x : Int) (hx : (Lit.int .i64 x).wf = true) :
    Calls Tryd.prog 5 #[.int .i64 x] w fun e w' => e = .returned (.bool true) ∧ Below w.heap.size w w' := by
  obtain ⟨h0, h1⟩ := wf_i64 hx
  obtain ⟨n', u, y', c, hV, -⟩ := formV_lit (decide (x < 0)) x.natAbs 0
  exact decOf_law x y' n' u w hT (fun w => specDecOf_any x w h0 h1 n' u y' c hV) (fun w hT => implDecOf_any x w h0 h1 hT n' u y' c hV)
end Go.Proofs.YtbfkmpignbppfaaDoor
