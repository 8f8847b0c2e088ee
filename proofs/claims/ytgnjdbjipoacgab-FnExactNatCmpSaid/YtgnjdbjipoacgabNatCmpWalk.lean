/-
  The walk of FnExactNatCmp, out of the contracts. No condition.
-/
import Derived.Test.YtgnjdbjipoacgabNat1
import Derived.Test.YtgnjdbjipoacgabNatOk
namespace Go.Proofs.Ytgnjdbjipoacgab
open Go.RowKit
set_option linter.unusedVariables false
set_option linter.unusedSimpArgs false

theorem specNatCmp_no (s t : ByteArray) (w : World) (hs : s.size ≤ maxLen) (ht : t.size ≤ maxLen) (h : natOk (bs s) = false ∨ natOk (bs t) = false) :
    Calls Try.prog 4 #[.string s, .string t] w fun e w' => e = .returned (.int .i64 2) ∧ Below w.heap.size w w' := by
  cases ha : natOk (bs s)
  · go_enter Try.func4, Try.ntmps4
    go_wp2_with fail
    refine (specNatOk_any _ _ hs).mono ?_
    rintro e w1 ⟨rfl, rfl⟩
    go_wp2
    go_ret
    exact ⟨rfl, Below.refl _ _⟩
  · have hb : natOk (bs t) = false := by simpa [ha] using h
    go_enter Try.func4, Try.ntmps4
    go_wp2_with fail
    refine (specNatOk_any _ _ hs).mono ?_
    rintro e w1 ⟨rfl, hw1⟩
    obtain rfl : w = w1 := hw1
    go_wp2_with fail
    refine (specNatOk_any _ _ ht).mono ?_
    rintro e w1 ⟨rfl, rfl⟩
    go_wp2
    go_ret
    exact ⟨rfl, Below.refl _ _⟩

theorem specNatCmp_yes (s t : ByteArray) (w : World) (hs : s.size ≤ maxLen) (ht : t.size ≤ maxLen) (ha : natOk (bs s) = true) (hb : natOk (bs t) = true) :
    Calls Try.prog 4 #[.string s, .string t] w fun e w' => e = .returned (.int .i64 (cmpN (val (bs s)) (val (bs t)))) ∧ Below w.heap.size w w' := by
  obtain ⟨c1, l1⟩ := natOk_canon ha
  obtain ⟨c2, l2⟩ := natOk_canon hb
  rw [bs_length] at l1 l2
  have HC := Lib.hid (And.intro c1 c2)
  clear c1 c2
  go_enter Try.func4, Try.ntmps4
  go_wp2_with fail
  refine (specNatOk_any _ _ hs).mono ?_
  rintro e w1 ⟨rfl, hw1⟩
  obtain rfl : w = w1 := hw1
  go_wp2_with fail
  refine (specNatOk_any _ _ ht).mono ?_
  rintro e w1 ⟨rfl, hw1⟩
  obtain rfl : w = w1 := hw1
  go_wp2_with fail
  refine (l02Cmp_any s t _ HC.out.1.dig HC.out.2.dig (by omega) (by omega)).mono ?_
  rintro e w1 ⟨rfl, hb1⟩
  have HB1 := Lib.hid (show Below w.heap.size w w1 from (by rw [hb1]; exact Below.refl _ _))
  clear hb1
  go_wp2
  go_ret
  exact ⟨rfl, HB1.out⟩

theorem implNatCmp_no (s t : ByteArray) (w : World) (hs : s.size ≤ maxLen) (ht : t.size ≤ maxLen) (h : natOk (bs s) = false ∨ natOk (bs t) = false) :
    Calls Try.prog 5 #[.string s, .string t] w fun e w' => e = .returned (.int .i64 2) ∧ Below w.heap.size w w' := by
  cases ha : natOk (bs s)
  · go_enter Try.func5, Try.ntmps5
    go_wp2_with fail
    refine (isNat_any _ _ hs).mono ?_
    rintro e w1 ⟨rfl, rfl⟩
    go_wp2
    go_ret
    exact ⟨rfl, Below.refl _ _⟩
  · have hb : natOk (bs t) = false := by simpa [ha] using h
    go_enter Try.func5, Try.ntmps5
    go_wp2_with fail
    refine (isNat_any _ _ hs).mono ?_
    rintro e w1 ⟨rfl, hw1⟩
    obtain rfl : w = w1 := hw1
    go_wp2_with fail
    refine (isNat_any _ _ ht).mono ?_
    rintro e w1 ⟨rfl, rfl⟩
    go_wp2
    go_ret
    exact ⟨rfl, Below.refl _ _⟩

theorem implNatCmp_yes (s t : ByteArray) (w : World) (hs : s.size ≤ maxLen) (ht : t.size ≤ maxLen) (ha : natOk (bs s) = true) (hb : natOk (bs t) = true) :
    Calls Try.prog 5 #[.string s, .string t] w fun e w' => e = .returned (.int .i64 (cmpN (val (bs s)) (val (bs t)))) ∧ Below w.heap.size w w' := by
  obtain ⟨c1, l1⟩ := natOk_canon ha
  obtain ⟨c2, l2⟩ := natOk_canon hb
  rw [bs_length] at l1 l2
  have HC := Lib.hid (And.intro c1 c2)
  clear c1 c2
  go_enter Try.func5, Try.ntmps5
  go_wp2_with fail
  refine (isNat_any _ _ hs).mono ?_
  rintro e w1 ⟨rfl, hw1⟩
  obtain rfl : w = w1 := hw1
  go_wp2_with fail
  refine (isNat_any _ _ ht).mono ?_
  rintro e w1 ⟨rfl, hw1⟩
  obtain rfl : w = w1 := hw1
  go_wp2_with fail
  refine (natCmp_any s t _ HC.out.1 HC.out.2 (by omega) (by omega)).mono ?_
  rintro e w1 ⟨rfl, hb1⟩
  have HB1 := Lib.hid (show Below w.heap.size w w1 from hb1)
  clear hb1
  go_wp2
  go_ret
  exact ⟨rfl, HB1.out⟩

theorem fnExactNatCmp_law (s t : ByteArray) (b : Int) (w : World) (hb1 : s.size ≤ 1048576) (hb2 : t.size ≤ 1048576)
    (hA : ∀ w, Calls Try.prog 4 #[.string s, .string t] w fun e w' => e = .returned (.int .i64 b) ∧ Below w.heap.size w w')
    (hB : ∀ w, Calls Try.prog 5 #[.string s, .string t] w fun e w' => e = .returned (.int .i64 b) ∧ Below w.heap.size w w') :
    Calls Try.prog 3 #[.string s, .string t] w fun e w' => e = .returned (.bool true) ∧ Below w.heap.size w w' := by
  have HA := Lib.hid hA
  have HB := Lib.hid hB
  clear hA hB
  go_enter Try.func3, Try.ntmps3
  go_wp2_with fail
  refine (HA.out _).mono ?_
  rintro e w1 ⟨rfl, hb1⟩
  have HB1 := Lib.hid hb1
  clear hb1
  go_wp2_with fail
  refine (HB.out _).mono ?_
  rintro e w2 ⟨rfl, hb2⟩
  have HB2 := Lib.hid (HB1.out.trans (hb2.mono HB1.out.size))
  clear hb2
  have hne2 : (b != b) = false := by simp
  go_wp2
  go_ret
  exact ⟨rfl, HB2.out⟩

theorem fnExactNatCmp_walk (s : ByteArray) (hs : s.size ≤ maxLen) (t : ByteArray) (ht : t.size ≤ maxLen) (w : World) :
    Calls Try.prog 3 #[.string s, .string t] w fun e w' => e = .returned (.bool true) ∧ Below w.heap.size w w' := by
  have hs' := hs
  have ht' := ht
  unfold maxLen at hs' ht'
  by_cases hb : 1048576 < s.size
  · go_enter Try.func3, Try.ntmps3
    go_wp2
    go_ret
    exact ⟨rfl, Below.refl _ _⟩
  · by_cases hb' : 1048576 < t.size
    · go_enter Try.func3, Try.ntmps3
      go_wp2
      go_ret
      exact ⟨rfl, Below.refl _ _⟩
    · by_cases h : natOk (bs s) = false ∨ natOk (bs t) = false
      · exact fnExactNatCmp_law s t _ w (by omega) (by omega) (fun w => specNatCmp_no s t w hs ht h) (fun w => implNatCmp_no s t w hs ht h)
      · have h1 : natOk (bs s) = true := by cases e : natOk (bs s) with | true => rfl | false => exact absurd (.inl e) h
        have h2 : natOk (bs t) = true := by cases e : natOk (bs t) with | true => rfl | false => exact absurd (.inr e) h
        exact fnExactNatCmp_law s t _ w (by omega) (by omega) (fun w => specNatCmp_yes s t w hs ht h1 h2) (fun w => implNatCmp_yes s t w hs ht h1 h2)
end Go.Proofs.Ytgnjdbjipoacgab
