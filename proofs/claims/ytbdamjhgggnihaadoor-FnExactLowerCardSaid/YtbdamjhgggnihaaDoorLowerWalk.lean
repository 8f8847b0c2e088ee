/-
  The walk of FnExactLower, out of the contracts. Condition: the tables of unicode utf8 stand in memory, as the card ties them.
-/
import Derived.Test.YtbdamjhgggnihaaDoorCased
namespace Go.Proofs.YtbdamjhgggnihaaDoor
open Go.RowKit
set_option linter.unusedVariables false
set_option linter.unusedSimpArgs false

theorem specLower_any (s : ByteArray) (w : World) (hs : s.size ≤ 1099511627776) :
    Calls Tryd.prog 17 #[.string s] w fun e w' => e = .returned (.string (ofL (casedL 65 (32) (bs s)))) ∧ Below w.heap.size w w' := by
  go_enter Tryd.func17, Tryd.ntmps17
  go_wp2_with fail
  refine (l01Cased_any 65 (32) (by omega) (by omega) (by omega) (by omega) s _ hs).mono ?_
  rintro e w1 ⟨rfl, hb1⟩
  go_wp2
  go_ret
  exact ⟨rfl, hb1⟩
theorem implLower_any (s : ByteArray) (w : World) (hs : s.size ≤ 1099511627776) (hT : Tabs w) :
    Calls Tryd.prog 18 #[.string s] w fun e w' => e = .returned (.string (ofL (casedL 65 (32) (bs s)))) ∧ Below w.heap.size w w' := by
  have HT := Lib.hid hT
  clear hT
  go_enter Tryd.func18, Tryd.ntmps18
  go_wp2_with fail
  refine (implTextOk_any s _ hs HT.out).mono ?_
  rintro e w1 ⟨rfl, hb1⟩
  have HB1 := Lib.hid hb1
  clear hb1
  cases hk : okT (bs s)
  · have HE := Lib.hid (show casedL 65 (32) (bs s) = [] by unfold casedL; rw [hk]; rfl)
    go_wp2
    go_ret
    rw [HE.out]
    exact ⟨rfl, HB1.out⟩
  · have HE := Lib.hid (show casedL 65 (32) (bs s) = (bs s).map (shB 65 (32)) by unfold casedL; rw [hk]; rfl)
    go_wp2_with fail
    refine (shifted_any 65 90 (32) (by omega) (by omega) (by omega) (by omega) (by omega) s _ hs).mono ?_
    rintro e w2 ⟨rfl, hb2⟩
    go_wp2
    go_ret
    rw [HE.out]
    exact ⟨rfl, HB1.out.trans (hb2.mono HB1.out.size)⟩

theorem fnExactLower_walk (w : World) (hT : Tabs w) (s : ByteArray) (hs : s.size ≤ maxLen) :
    Calls Tryd.prog 4 #[.string s] w fun e w' => e = .returned (.bool true) ∧ Below w.heap.size w w' := by
  have hs' := hs
  unfold maxLen at hs'
  have HT := Lib.hid hT
  clear hT
  by_cases hb : 1048576 < s.size
  · go_enter Tryd.func4, Tryd.ntmps4
    go_wp2
    go_ret
    exact ⟨rfl, Below.refl _ _⟩
  · have hs2 : s.size ≤ 1099511627776 := by omega
    go_enter Tryd.func4, Tryd.ntmps4
    go_wp2_with fail
    refine (specLower_any s _ hs2).mono ?_
    rintro e w1 ⟨rfl, hb1⟩
    have HB1 := Lib.hid hb1
    clear hb1
    go_wp2_with fail
    refine (implLower_any s _ hs2 (HT.out.below HB1.out)).mono ?_
    rintro e w2 ⟨rfl, hb2⟩
    have HB2 := Lib.hid (HB1.out.trans (hb2.mono HB1.out.size))
    clear hb2
    go_wp2
    go_ret
    exact ⟨rfl, HB2.out⟩
end Go.Proofs.YtbdamjhgggnihaaDoor
