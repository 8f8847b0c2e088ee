/-
  The walk of FnExactPrefix, out of the contracts. Conditions: the tables of unicode utf8 stand in memory; the library's variable MaxLen holds an int.
-/
import Derived.Test.YtjjpdoabagnmoaaGreatDoorPrefix
import Derived.Test.YtjjpdoabagnmoaaGreatDoorDecLaw
namespace Go.Proofs.YtjjpdoabagnmoaaGreatDoor
open Go.RowKit
set_option linter.unusedVariables false
set_option linter.unusedSimpArgs false

set_option maxHeartbeats 2000000 in
theorem fnExactPrefix_walk (w : World) (hT : Tabs w) (hM : MaxCell w) (s : ByteArray) (hs : s.size ≤ maxLen) :
    Calls Tryz.prog 3 #[.string s] w fun e w' => e = .returned (.bool true) ∧ Below w.heap.size w w' := by
  have hs' := hs
  unfold maxLen at hs'
  by_cases hb : 1048576 < s.size
  · go_enter Tryz.func3, Tryz.ntmps3
    go_wp2
    go_ret
    exact ⟨rfl, by go_light; (repeat (first | exact Below.refl _ _ | assumption | refine Below.drew ?_ | refine below_drewN ?_ _ | (refine Below.alloc ?_ (by first | exact Nat.le_refl _ | (simp; done) | (simp; omega) | (simp at *; omega)) _) | (refine Below.setCell ?_ (by first | exact Nat.le_refl _ | (simp; done) | (simp; omega)) _) | (refine Below.trans ?_ (Below.mono (by assumption) (by first | exact Nat.le_refl _ | (simp; done) | (simp; omega) | (simp at *; omega))))))⟩
  · have hs2 : s.size ≤ 1099511627776 := by omega
    obtain ⟨n', u, y', c, hP⟩ := preRes_ex (bs s)
    have HA := Lib.hid (fun w => specPrefix_to s n' u y' c w hs2 hP)
    have HB := Lib.hid (fun w hT hM => implPrefix_to s n' u y' c w hs2 hT hM hP)
    have hcc : (c != c) = false := by simp
    clear hP
    go_enter Tryz.func3, Tryz.ntmps3
    go_wp2_with fail
    refine (HA.out _).mono ?_
    rintro e w1 ⟨rfl, hb1⟩
    have hM1 := hM.below hb1
    have hT1 := hT.below hb1
    go_wp2_with fail
    obtain ⟨v1, hv1, hz, hb, hc, hf⟩ := one_laid w1 n' u y'
    rw [hv1]
    refine (HB.out _ (hT1.below hb) (hM1.below hb)).mono ?_
    rintro e w2 ⟨rfl, hb2⟩
    obtain ⟨hz2, hc2, hf2⟩ := one_kept hb2 hz hc hf
    have hB1 := hb1.trans (hb.mono hb1.size)
    have hB2 := hB1.trans (hb2.mono hB1.size)
    have hne : ¬ (w1.heap.size = w2.heap.size) := Nat.ne_of_lt hz2
    have hne' : ¬ (w2.heap.size = w1.heap.size) := Nat.ne_of_gt hz2
    clear hv1 hz hb hc hf hb1 hb2 hB1 hM1 hT1
    go_wp2_with fail
    refine (eqDec_same n' u y' _).mono ?_
    rintro e w3 ⟨rfl, hb3⟩
    go_wp2
    go_ret
    exact ⟨rfl, (hB2.alloc hB2.size _).trans (hb3.mono (hB2.alloc hB2.size _).size)⟩
end Go.Proofs.YtjjpdoabagnmoaaGreatDoor
