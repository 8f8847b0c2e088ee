/-
  The walk of FnExactPrefixEnd, out of the contracts. Condition: the tables of unicode utf8 stand in memory, as the card ties them.
-/
import Derived.Test.YtjjpdoabagnmoaaDoorPrefixEnd
namespace Go.Proofs.YtjjpdoabagnmoaaDoor
open Go.RowKit
set_option linter.unusedVariables false
set_option linter.unusedSimpArgs false

theorem fnExactPrefixEnd_walk (w : World) (hT : Tabs w) (s : ByteArray) (hs : s.size ≤ maxLen) :
    Calls Tryd.prog 4 #[.string s] w fun e w' => e = .returned (.bool true) ∧ Below w.heap.size w w' := by
  have hs' := hs
  unfold maxLen at hs'
  have HT := Lib.hid hT
  clear hT
  by_cases hb : 1048576 < s.size
  · go_enter Tryd.func4, Tryd.ntmps4
    go_wp2
    go_ret
    exact ⟨rfl, Below.refl _ _⟩
  · have hs2 : s.size ≤ 1099511627776 := by omega
    obtain ⟨p, hp⟩ : ∃ p, preE (bs s) = p := ⟨_, rfl⟩
    have hpp : (p != p) = false := by simp
    go_enter Tryd.func4, Tryd.ntmps4
    go_wp2_with fail
    refine (specPrefixEnd_any s _ hs2).mono ?_
    rintro e w1 ⟨rfl, hb1⟩
    rw [hp]
    have HB1 := Lib.hid hb1
    clear hb1
    go_wp2_with fail
    refine (implPrefixEnd_any s _ hs2 (HT.out.below HB1.out)).mono ?_
    rintro e w2 ⟨rfl, hb2⟩
    rw [hp]
    have HB2 := Lib.hid (HB1.out.trans (hb2.mono HB1.out.size))
    clear hb2
    go_wp2
    go_ret
    exact ⟨rfl, HB2.out⟩
end Go.Proofs.YtjjpdoabagnmoaaDoor
