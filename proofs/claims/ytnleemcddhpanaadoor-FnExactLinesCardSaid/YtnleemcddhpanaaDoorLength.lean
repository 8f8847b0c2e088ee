/-
  The contracts of Length, the reference's and the program's. Conditions: as in the text on Runes.
-/
import Derived.Test.YtnleemcddhpanaaDoorRunes
namespace Go.Proofs.YtnleemcddhpanaaDoor
open Go.RowKit
open Go.Lib hiding intOf
set_option linter.unusedVariables false
set_option linter.unusedSimpArgs false

/-- how many code points; -1 of what is no text -/
def lenT (l : List UInt8) : Int := if okT l = true then ((rl l).length : Int) else -1

theorem specLength_any (s : ByteArray) (w : World) (hs : s.size ≤ 1099511627776) :
    Calls Tryd.prog 54 #[.string s] w fun e w' => e = .returned (.int .i64 (lenT (bs s))) ∧ Below w.heap.size w w' := by
  go_enter Tryd.func54, Tryd.ntmps54
  go_wp2_with fail
  refine (specRunes_any s _ hs).mono ?_
  rintro e w1 ⟨v, rfl, hown, hb⟩
  obtain ⟨a, cap, rfl⟩ := ownsRow_slice hown
  clear hown
  have HB := Lib.hid hb
  clear hb
  cases hk : okT (bs s)
  · have HF := Lib.hid (show lenT (bs s) = -1 by unfold lenT; rw [hk]; rfl)
    go_wp2
    go_ret
    exact ⟨ret_int HF.out.symm, HB.out⟩
  · have HF := Lib.hid (show lenT (bs s) = ((rl (bs s)).length : Int) by unfold lenT; rw [hk]; rfl)
    go_wp2
    go_ret
    exact ⟨ret_int HF.out.symm, HB.out⟩
theorem implLength_any (s : ByteArray) (w : World) (hs : s.size ≤ 1099511627776) (hT : Tabs w) :
    Calls Tryd.prog 55 #[.string s] w fun e w' => e = .returned (.int .i64 (lenT (bs s))) ∧ Below w.heap.size w w' := by
  have HT := Lib.hid hT
  clear hT
  go_enter Tryd.func55, Tryd.ntmps55
  go_wp2_with fail
  refine (runesOf_any s _ hs HT.out).mono ?_
  rintro e w1 ⟨v, rfl, hown, hb⟩
  obtain ⟨a, cap, rfl⟩ := ownsRow_slice hown
  clear hown
  have HB := Lib.hid hb
  clear hb
  cases hk : okT (bs s)
  · have HF := Lib.hid (show lenT (bs s) = -1 by unfold lenT; rw [hk]; rfl)
    go_wp2
    go_ret
    exact ⟨ret_int HF.out.symm, HB.out⟩
  · have HF := Lib.hid (show lenT (bs s) = ((rl (bs s)).length : Int) by unfold lenT; rw [hk]; rfl)
    go_wp2
    go_ret
    exact ⟨ret_int HF.out.symm, HB.out⟩
end Go.Proofs.YtnleemcddhpanaaDoor
