/-
  The walk of FnExactNatCmp, out of the contracts. No condition.
-/
import Derived.Test.YtbaldkpkloohkaaDoorNat1
import Derived.Test.YtbaldkpkloohkaaDoorNatOk
namespace Go.Proofs.YtbaldkpkloohkaaDoor
open Go.RowKit
set_option linter.unusedVariables false
set_option linter.unusedSimpArgs false
theorem specNatCmp_no (s t : ByteArray) (w : World) (hs : s.size ≤ maxLen) (ht : t.size ≤ maxLen) (h : natOk (bs s) = false ∨ natOk (bs t) = false) :
    Calls Tryd.prog 27 #[.string s, .string t] w fun e w' => e = .returned (.int .i64 2) ∧ Below w.heap.size w w' := by
  cases ha : natOk (bs s)
  · go_enter Tryd.func27, Tryd.ntmps27
    go_wp2_with fail
    refine (specNatOk_any _ _ hs).mono ?_
    rintro e w1 ⟨rfl, rfl⟩
    go_wp2
    go_ret
    exact ⟨rfl, Below.refl _ _⟩
  · have hb : natOk (bs t) = false := by simpa [ha] using h
    go_enter Tryd.func27, Tryd.ntmps27
    go_wp2_with fail
    refine (specNatOk_any _ _ hs).mono ?_
    rintro e w1 ⟨rfl, hw1⟩
    obtain rfl : w = w1 := hw1
    go_wp2_with fail
    refine (specNatOk_any _ _ ht).mono ?_
    rintro e w1 ⟨rfl, rfl⟩
    go_wp2
    go_ret
    exact ⟨rfl, Below.refl _ _⟩

theorem specNatCmp_yes (s t : ByteArray) (w : World) (hs : s.size ≤ maxLen) (ht : t.size ≤ maxLen) (ha : natOk (bs s) = true) (hb : natOk (bs t) = true) :
    Calls Tryd.prog 27 #[.string s, .string t] w fun e w' => e = .returned (.int .i64 (cmpN (val (bs s)) (val (bs t)))) ∧ Below w.heap.size w w' := by
  obtain ⟨c1, l1⟩ := natOk_canon ha
  obtain ⟨c2, l2⟩ := natOk_canon hb
  rw [bs_length] at l1 l2
  have HC := Lib.hid (And.intro c1 c2)
  clear c1 c2
  go_enter Tryd.func27, Tryd.ntmps27
  go_wp2_with fail
  refine (specNatOk_any _ _ hs).mono ?_
  rintro e w1 ⟨rfl, hw1⟩
  obtain rfl : w = w1 := hw1
  go_wp2_with fail
  refine (specNatOk_any _ _ ht).mono ?_
  rintro e w1 ⟨rfl, hw1⟩
  obtain rfl : w = w1 := hw1
  go_wp2_with fail
  refine (l02Cmp_any s t _ HC.out.1.dig HC.out.2.dig (by omega) (by omega)).mono ?_
  rintro e w1 ⟨rfl, hb1⟩
  have HB1 := Lib.hid (show Below w.heap.size w w1 from (by rw [hb1]; exact Below.refl _ _))
  clear hb1
  go_wp2
  go_ret
  exact ⟨rfl, HB1.out⟩
theorem implNatCmp_no (s t : ByteArray) (w : World) (hs : s.size ≤ maxLen) (ht : t.size ≤ maxLen) (h : natOk (bs s) = false ∨ natOk (bs t) = false) :
    Calls Tryd.prog 24 #[.string s, .string t] w fun e w' => e = .returned (.int .i64 2) ∧ Below w.heap.size w w' := by
  cases ha : natOk (bs s)
  · go_enter Tryd.func24, Tryd.ntmps24
    go_wp2_with fail
    refine (isNat_any _ _ hs).mono ?_
    rintro e w1 ⟨rfl, rfl⟩
    go_wp2
    go_ret
    exact ⟨rfl, Below.refl _ _⟩
  · have hb : natOk (bs t) = false := by simpa [ha] using h
    go_enter Tryd.func24, Tryd.ntmps24
    go_wp2_with fail
    refine (isNat_any _ _ hs).mono ?_
    rintro e w1 ⟨rfl, hw1⟩
    obtain rfl : w = w1 := hw1
    go_wp2_with fail
    refine (isNat_any _ _ ht).mono ?_
    rintro e w1 ⟨rfl, rfl⟩
    go_wp2
    go_ret
    exact ⟨rfl, Below.refl _ _⟩

theorem implNatCmp_yes (s t : ByteArray) (w : World) (hs : s.size ≤ maxLen) (ht : t.size ≤ maxLen) (ha : natOk (bs s) = true) (hb : natOk (bs t) = true) :
    Calls Tryd.prog 24 #[.string s, .string t] w fun e w' => e = .returned (.int .i64 (cmpN (val (bs s)) (val (bs t)))) ∧ Below w.heap.size w w' := by
  obtain ⟨c1, l1⟩ := natOk_canon ha
  obtain ⟨c2, l2⟩ := natOk_canon hb
  rw [bs_length] at l1 l2
  have HC := Lib.hid (And.intro c1 c2)
  clear c1 c2
  go_enter Tryd.func24, Tryd.ntmps24
  go_wp2_with fail
  refine (isNat_any _ _ hs).mono ?_
  rintro e w1 ⟨rfl, hw1⟩
  obtain rfl : w = w1 := hw1
  go_wp2_with fail
  refine (isNat_any _ _ ht).mono ?_
  rintro e w1 ⟨rfl, hw1⟩
  obtain rfl : w = w1 := hw1
  go_wp2_with fail
  refine (natCmp_any s t _ HC.out.1 HC.out.2 (by omega) (by omega)).mono ?_
  rintro e w1 ⟨rfl, hb1⟩
  have HB1 := Lib.hid (show Below w.heap.size w w1 from hb1)
  clear hb1
  go_wp2
  go_ret
  exact ⟨rfl, HB1.out⟩

end Go.Proofs.YtbaldkpkloohkaaDoor
