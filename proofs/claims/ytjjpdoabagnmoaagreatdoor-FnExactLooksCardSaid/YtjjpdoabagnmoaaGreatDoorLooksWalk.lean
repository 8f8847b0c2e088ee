/-
  The walk of FnExactLooks, out of the contracts. Conditions: as in the text on Prefix.
-/
import Derived.Test.YtjjpdoabagnmoaaGreatDoorLooks
namespace Go.Proofs.YtjjpdoabagnmoaaGreatDoor
open Go.RowKit
set_option linter.unusedVariables false
set_option linter.unusedSimpArgs false

theorem fnExactLooks_walk (w : World) (hT : Tabs w) (hM : MaxCell w) (s : ByteArray) (hs : s.size ≤ maxLen) :
    Calls Tryz.prog 4 #[.string s] w fun e w' => e = .returned (.bool true) ∧ Below w.heap.size w w' := by
  have hs' := hs
  unfold maxLen at hs'
  by_cases hb : 1048576 < s.size
  · go_enter Tryz.func4, Tryz.ntmps4
    go_wp2
    go_ret
    exact ⟨rfl, Below.refl _ _⟩
  · have hs2 : s.size ≤ 1099511627776 := by omega
    obtain ⟨n', u, y', c, hP⟩ := preRes_ex (bs s)
    have HA := Lib.hid (fun w => specLooks_to s n' u y' c w hs2 hP)
    have HB := Lib.hid (fun w hT hM => implLooks_to s n' u y' c w hs2 hT hM hP)
    obtain ⟨q, hq⟩ : ∃ q, lookB (bs s) c = q := ⟨_, rfl⟩
    rw [hq] at HA HB
    have hqq : (q != q) = false := by cases q <;> rfl
    clear hP hq
    go_enter Tryz.func4, Tryz.ntmps4
    go_wp2_with fail
    refine (HA.out _).mono ?_
    rintro e w1 ⟨rfl, hb1⟩
    go_wp2_with fail
    refine (HB.out _ (hT.below hb1) (hM.below hb1)).mono ?_
    rintro e w2 ⟨rfl, hb2⟩
    have hB := hb1.trans (hb2.mono hb1.size)
    clear hb1 hb2
    go_wp2
    go_ret
    exact ⟨rfl, hB⟩
end Go.Proofs.YtjjpdoabagnmoaaGreatDoor
