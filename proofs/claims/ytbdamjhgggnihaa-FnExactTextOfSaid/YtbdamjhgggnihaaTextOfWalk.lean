/-
  The walk of FnExactTextOf, out of the contracts. No condition.
-/
import Derived.Test.YtbdamjhgggnihaaTextOf
namespace Go.Proofs.Ytbdamjhgggnihaa
open Go.RowKit
set_option linter.unusedVariables false
set_option linter.unusedSimpArgs false

theorem fnExactTextOf_any (a : Option Addr) (cap : Nat) (l : List Int) (w : World) (h : RowI .i64 w a l) (hm : l.length ≤ maxLen) :
    Calls Try.prog 3 #[.slice a l.length cap] w fun e w' => e = .returned (.bool true) ∧ Below w.heap.size w w' := by
  unfold maxLen at hm
  by_cases hb : 1048576 < l.length
  · have hb' : (1048576 : Int) < l.length := by omega
    go_enter Try.func3, Try.ntmps3
    go_wp2
    go_ret
    exact ⟨rfl, Below.refl _ _⟩
  · have hb' : (l.length : Int) ≤ 1048576 := by omega
    have hl1 : l.length ≤ 1048576 := by omega
    have hl : l.length ≤ 1099511627776 := by omega
    clear hb
    have HR := Lib.hid h
    clear h
    go_enter Try.func3, Try.ntmps3
    go_wp2_with fail
    refine (toIntS_any _ _ _ _ HR.out hl).mono ?_
    rintro e w1 ⟨g1, rfl, hg1, hr1, hb1⟩
    have HR1 := Lib.hid hr1
    have HB1 := Lib.hid hb1
    clear hr1 hb1
    go_wp2_with fail
    refine (specTextOf_any _ _ l.length l _ HR1.out rfl hl1).mono ?_
    rintro e w2 ⟨rfl, hb2⟩
    have HB2 := Lib.hid (HB1.out.trans (hb2.mono HB1.out.size))
    clear hb2
    go_wp2_with fail
    refine (toIntS_any _ _ _ _ (HR.out.below HB2.out) hl).mono ?_
    rintro e w3 ⟨g3, rfl, hg3, hr3, hb3⟩
    have HR3 := Lib.hid hr3
    have HB3 := Lib.hid (HB2.out.trans (hb3.mono HB2.out.size))
    clear hr3 hb3
    go_wp2_with fail
    refine (implTextOf_any _ _ l.length l _ HR3.out rfl hl1).mono ?_
    rintro e w4 ⟨rfl, hb4⟩
    have HB4 := Lib.hid (HB3.out.trans (hb4.mono HB3.out.size))
    have HR4 := Lib.hid (HR3.out.below hb4)
    clear hb4
    have hnb : (tofOk l != tofOk l) = false := by simp
    go_wp2_with fail
    refine (toIntS_any _ _ _ _ (HR.out.below HB4.out) hl).mono ?_
    rintro e w5 ⟨g5, rfl, hg5, hr5, hb5⟩
    have HR5 := Lib.hid hr5
    have HB5 := Lib.hid (HB4.out.trans (hb5.mono HB4.out.size))
    have HR4' := Lib.hid (HR4.out.below hb5)
    clear hr5 hb5
    go_wp2_with fail
    refine (eqIntS_same _ _ _ _ _ _ HR4'.out HR5.out hl).mono ?_
    rintro e w6 ⟨rfl, hb6⟩
    have HB6 := Lib.hid (HB5.out.trans (hb6.mono HB5.out.size))
    clear hb6
    go_wp2_with fail
    go_ret
    exact ⟨rfl, HB6.out⟩

theorem fnExactTextOf_walk (a : Option Addr) (len cap : Nat) (z : List Int) (w : World) (hr : IsRow .i64 w a len cap z) :
    Calls Try.prog 3 #[.slice a len cap] w fun e w' => e = .returned (.bool true) ∧ Below w.heap.size w w' := by
  obtain ⟨h1, h2, h3, _⟩ := isRow_row hr
  have := fnExactTextOf_any a cap (z.take len) w h1 (by rw [h2]; exact h3)
  rwa [h2] at this
end Go.Proofs.Ytbdamjhgggnihaa
