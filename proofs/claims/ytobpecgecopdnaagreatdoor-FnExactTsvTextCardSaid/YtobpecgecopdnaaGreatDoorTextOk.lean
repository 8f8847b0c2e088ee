/-
  The contracts of TextOk, the reference's and the program's: each answers okT. Conditions: as in the text on Runes.
-/
import Derived.Test.YtobpecgecopdnaaGreatDoorRunes
namespace Go.Proofs.YtobpecgecopdnaaGreatDoor
open Go.RowKit
open Go.Lib hiding intOf
set_option linter.unusedVariables false
set_option linter.unusedSimpArgs false

theorem specTextOk_any (s : ByteArray) (w : World) (hs : s.size ≤ 1099511627776) :
    Calls Tryz.prog 18 #[.string s] w fun e w' => e = .returned (.bool (okT (bs s))) ∧ Below w.heap.size w w' := by
  go_enter Tryz.func18, Tryz.ntmps18
  go_wp2_with fail
  refine (specRunes_any s _ hs).mono ?_
  rintro e w1 ⟨v, rfl, hown, hb⟩
  clear hown
  have HB := Lib.hid hb
  clear hb
  go_wp2
  go_ret
  exact ⟨rfl, HB.out⟩
theorem implTextOk_any (s : ByteArray) (w : World) (hs : s.size ≤ 1099511627776) (hT : Tabs w) :
    Calls Tryz.prog 34 #[.string s] w fun e w' => e = .returned (.bool (okT (bs s))) ∧ Below w.heap.size w w' := by
  have HT := Lib.hid hT
  clear hT
  go_enter Tryz.func34, Tryz.ntmps34
  go_wp2_with fail
  refine (runesOf_any s _ hs HT.out).mono ?_
  rintro e w1 ⟨v, rfl, hown, hb⟩
  clear hown
  have HB := Lib.hid hb
  clear hb
  go_wp2
  go_ret
  exact ⟨rfl, HB.out⟩
end Go.Proofs.YtobpecgecopdnaaGreatDoor
