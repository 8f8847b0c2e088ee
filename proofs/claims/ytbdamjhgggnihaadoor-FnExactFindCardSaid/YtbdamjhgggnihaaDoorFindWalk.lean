/-
  The walk of FnExactFind, out of the contracts. Conditions: the tables of unicode utf8 stand in memory, as the card ties them; the library's MaxLen holds an int.
-/
import Derived.Test.YtbdamjhgggnihaaDoorFind
namespace Go.Proofs.YtbdamjhgggnihaaDoor
open Go.RowKit
set_option linter.unusedVariables false
set_option linter.unusedSimpArgs false

theorem fnExactFind_walk (w : World) (hT : Tabs w) (hM : MaxCell w) (s : ByteArray) (hs : s.size ≤ maxLen) (t : ByteArray) (ht : t.size ≤ maxLen) :
    Calls Tryd.prog 9 #[.string s, .string t] w fun e w' => e = .returned (.bool true) ∧ Below w.heap.size w w' := by
  have hs' := hs
  have ht' := ht
  unfold maxLen at hs' ht'
  have HT := Lib.hid hT
  have HMX := Lib.hid hM
  clear hT hM
  by_cases hb : 1048576 < s.size
  · go_enter Tryd.func9, Tryd.ntmps9
    go_wp2
    go_ret
    exact ⟨rfl, Below.refl _ _⟩
  by_cases hb' : 1048576 < t.size
  · go_enter Tryd.func9, Tryd.ntmps9
    go_wp2
    go_ret
    exact ⟨rfl, Below.refl _ _⟩
  · have hs2 : s.size ≤ 1099511627776 := by omega
    have ht2 : t.size ≤ 1099511627776 := by omega
    go_enter Tryd.func9, Tryd.ntmps9
    go_wp2_with fail
    refine (specFind_any s t _ hs2 ht2).mono ?_
    rintro e w1 ⟨v, rfl, hv, hb1⟩
    have HB1 := Lib.hid hb1
    clear hb1
    go_wp2_with fail
    refine (implFind_any s t _ hs2 ht2 (HT.out.below HB1.out) (HMX.out.below HB1.out)).mono ?_
    rintro e w2 ⟨v', rfl, hv', hb2⟩
    obtain rfl := hv.same hv'
    have HB2 := Lib.hid (HB1.out.trans (hb2.mono HB1.out.size))
    clear hb2 hv hv'
    have hne : (v != v) = false := by simp
    go_wp2
    go_ret
    exact ⟨rfl, HB2.out⟩
end Go.Proofs.YtbdamjhgggnihaaDoor
