/-
  The walk of FnExactPart, out of the contracts. Condition: the tables of unicode utf8 stand in memory, as the card ties them.
-/
import Derived.Test.YtbdamjhgggnihaaDoorPart
namespace Go.Proofs.YtbdamjhgggnihaaDoor
open Go.RowKit
set_option linter.unusedVariables false
set_option linter.unusedSimpArgs false

theorem fnExactPart_walk (w : World) (hT : Tabs w) (s : ByteArray) (hs : s.size ≤ maxLen) (fr : Int) (hfw : (Lit.int .i64 fr).wf = true) (ct : Int) (hcw : (Lit.int .i64 ct).wf = true) :
    Calls Tryd.prog 8 #[.string s, .int .i64 fr, .int .i64 ct] w fun e w' => e = .returned (.bool true) ∧ Below w.heap.size w w' := by
  have hs' := hs
  unfold maxLen at hs'
  have hf : -9223372036854775808 ≤ fr ∧ fr ≤ 9223372036854775807 := by
    simpa [Lit.wf, IntKind.min, IntKind.max, IntKind.signed, IntKind.bits] using hfw
  have hc : -9223372036854775808 ≤ ct ∧ ct ≤ 9223372036854775807 := by
    simpa [Lit.wf, IntKind.min, IntKind.max, IntKind.signed, IntKind.bits] using hcw
  clear hfw hcw
  have HT := Lib.hid hT
  clear hT
  by_cases hb : 1048576 < s.size
  · go_enter Tryd.func8, Tryd.ntmps8
    go_wp2
    go_ret
    exact ⟨rfl, Below.refl _ _⟩
  · have hs2 : s.size ≤ 1099511627776 := by omega
    go_enter Tryd.func8, Tryd.ntmps8
    go_wp2_with fail
    refine (specPart_any s fr ct hf hc _ hs2).mono ?_
    rintro e w1 ⟨rfl, hb1⟩
    have HB1 := Lib.hid hb1
    clear hb1
    go_wp2_with fail
    refine (implPart_any s fr ct hf hc _ hs2 (HT.out.below HB1.out)).mono ?_
    rintro e w2 ⟨rfl, hb2⟩
    have HB2 := Lib.hid (HB1.out.trans (hb2.mono HB1.out.size))
    clear hb2
    go_wp2
    go_ret
    exact ⟨rfl, HB2.out⟩
end Go.Proofs.YtbdamjhgggnihaaDoor
