/-
  The walk of FnExactNatMul, out of the contracts. No condition.
-/
import Derived.Test.YtbaldkpkloohkaaDoorNatMulS
import Derived.Test.YtbaldkpkloohkaaDoorFits
namespace Go.Proofs.YtbaldkpkloohkaaDoor
open Go.RowKit
set_option linter.unusedVariables false
set_option linter.unusedSimpArgs false

theorem specNatMul_no (s t : ByteArray) (w : World) (hs : s.size ≤ maxLen) (ht : t.size ≤ maxLen) (h : natOk (bs s) = false ∨ natOk (bs t) = false) :
    Calls Tryd.prog 13 #[.string s, .string t] w fun e w' => e = .returned (.tuple #[.string ⟨#[]⟩, .bool false]) ∧ Below w.heap.size w w' := by
  cases ha : natOk (bs s)
  · go_enter Tryd.func13, Tryd.ntmps13
    go_wp2_with fail
    refine (specNatOk_any _ _ hs).mono ?_
    rintro e w1 ⟨rfl, rfl⟩
    go_wp2
    refine bodyPost_ret (v := .tuple #[.string ⟨#[]⟩, .bool false]) (by simp [results, Tryd.results13, go_sem, *]) rfl ⟨rfl, ?_⟩
    exact Below.refl _ _
  · have hb : natOk (bs t) = false := by simpa [ha] using h
    go_enter Tryd.func13, Tryd.ntmps13
    go_wp2_with fail
    refine (specNatOk_any _ _ hs).mono ?_
    rintro e w1 ⟨rfl, hw1⟩
    obtain rfl : w = w1 := hw1
    go_wp2_with fail
    refine (specNatOk_any _ _ ht).mono ?_
    rintro e w1 ⟨rfl, rfl⟩
    go_wp2
    refine bodyPost_ret (v := .tuple #[.string ⟨#[]⟩, .bool false]) (by simp [results, Tryd.results13, go_sem, *]) rfl ⟨rfl, ?_⟩
    exact Below.refl _ _

theorem specNatMul_yes (s t : ByteArray) (w : World) (hs : s.size ≤ maxLen) (ht : t.size ≤ maxLen) (ha : natOk (bs s) = true) (hb : natOk (bs t) = true) :
    Calls Tryd.prog 13 #[.string s, .string t] w fun e w' => e = .returned (.tuple #[.string (fitS (dec (val (bs s) * val (bs t)))), .bool (fitB (dec (val (bs s) * val (bs t))))]) ∧ Below w.heap.size w w' := by
  obtain ⟨c1, l1⟩ := natOk_canon ha
  obtain ⟨c2, l2⟩ := natOk_canon hb
  rw [bs_length] at l1 l2
  have HC := Lib.hid (And.intro c1.dig c2.dig)
  clear c1 c2
  go_enter Tryd.func13, Tryd.ntmps13
  go_wp2_with fail
  refine (specNatOk_any _ _ hs).mono ?_
  rintro e w1 ⟨rfl, hw1⟩
  obtain rfl : w = w1 := hw1
  go_wp2_with fail
  refine (specNatOk_any _ _ ht).mono ?_
  rintro e w1 ⟨rfl, hw1⟩
  obtain rfl : w = w1 := hw1
  go_wp2_with fail
  refine (l02Mul_any s t _ HC.out.1 HC.out.2 (by omega) (by omega)).mono ?_
  rintro e w1 ⟨rfl, hb1⟩
  have HB1 := Lib.hid hb1
  clear hb1
  go_wp2_with fail
  refine (l02Fits_any _ _).mono ?_
  rintro e w2 ⟨rfl, hb2⟩
  have HB2 := Lib.hid (HB1.out.trans (hb2.mono HB1.out.size))
  clear hb2
  go_wp2
  refine bodyPost_ret (v := .tuple #[.string (fitS (dec (val (bs s) * val (bs t)))), .bool (fitB (dec (val (bs s) * val (bs t))))]) (by simp [results, Tryd.results13, go_sem, *]) rfl ⟨rfl, ?_⟩
  exact HB2.out

theorem implNatMul_no (s t : ByteArray) (w : World) (hs : s.size ≤ maxLen) (ht : t.size ≤ maxLen) (h : natOk (bs s) = false ∨ natOk (bs t) = false) :
    Calls Tryd.prog 14 #[.string s, .string t] w fun e w' => e = .returned (.tuple #[.string ⟨#[]⟩, .bool false]) ∧ Below w.heap.size w w' := by
  cases ha : natOk (bs s)
  · go_enter Tryd.func14, Tryd.ntmps14
    go_wp2_with fail
    refine (isNat_any _ _ hs).mono ?_
    rintro e w1 ⟨rfl, rfl⟩
    go_wp2
    refine bodyPost_ret (v := .tuple #[.string ⟨#[]⟩, .bool false]) (by simp [results, Tryd.results14, go_sem, *]) rfl ⟨rfl, ?_⟩
    exact Below.refl _ _
  · have hb : natOk (bs t) = false := by simpa [ha] using h
    go_enter Tryd.func14, Tryd.ntmps14
    go_wp2_with fail
    refine (isNat_any _ _ hs).mono ?_
    rintro e w1 ⟨rfl, hw1⟩
    obtain rfl : w = w1 := hw1
    go_wp2_with fail
    refine (isNat_any _ _ ht).mono ?_
    rintro e w1 ⟨rfl, rfl⟩
    go_wp2
    refine bodyPost_ret (v := .tuple #[.string ⟨#[]⟩, .bool false]) (by simp [results, Tryd.results14, go_sem, *]) rfl ⟨rfl, ?_⟩
    exact Below.refl _ _

theorem implNatMul_yes (s t : ByteArray) (w : World) (hs : s.size ≤ maxLen) (ht : t.size ≤ maxLen) (ha : natOk (bs s) = true) (hb : natOk (bs t) = true) :
    Calls Tryd.prog 14 #[.string s, .string t] w fun e w' => e = .returned (.tuple #[.string (fitS (dec (val (bs s) * val (bs t)))), .bool (fitB (dec (val (bs s) * val (bs t))))]) ∧ Below w.heap.size w w' := by
  obtain ⟨c1, l1⟩ := natOk_canon ha
  obtain ⟨c2, l2⟩ := natOk_canon hb
  rw [bs_length] at l1 l2
  have HC := Lib.hid (And.intro c1.dig c2.dig)
  clear c1 c2
  go_enter Tryd.func14, Tryd.ntmps14
  go_wp2_with fail
  refine (isNat_any _ _ hs).mono ?_
  rintro e w1 ⟨rfl, hw1⟩
  obtain rfl : w = w1 := hw1
  go_wp2_with fail
  refine (isNat_any _ _ ht).mono ?_
  rintro e w1 ⟨rfl, hw1⟩
  obtain rfl : w = w1 := hw1
  go_wp2_with fail
  refine (natMul_any s t _ HC.out.1 HC.out.2 (by omega) (by omega)).mono ?_
  rintro e w1 ⟨rfl, hb1⟩
  have HB1 := Lib.hid hb1
  clear hb1
  go_wp2_with fail
  refine (checkedNat_any _ _).mono ?_
  rintro e w2 ⟨rfl, hb2⟩
  have HB2 := Lib.hid (HB1.out.trans (hb2.mono HB1.out.size))
  clear hb2
  go_wp2
  refine bodyPost_ret (v := .tuple #[.string (fitS (dec (val (bs s) * val (bs t)))), .bool (fitB (dec (val (bs s) * val (bs t))))]) (by simp [results, Tryd.results14, go_sem, *]) rfl ⟨rfl, ?_⟩
  exact HB2.out

theorem fnExactNatMul_law (s t u : ByteArray) (b : Bool) (w : World) (hb1 : s.size ≤ 1048576) (hb2 : t.size ≤ 1048576)
    (hA : ∀ w, Calls Tryd.prog 13 #[.string s, .string t] w fun e w' => e = .returned (.tuple #[.string u, .bool b]) ∧ Below w.heap.size w w')
    (hB : ∀ w, Calls Tryd.prog 14 #[.string s, .string t] w fun e w' => e = .returned (.tuple #[.string u, .bool b]) ∧ Below w.heap.size w w') :
    Calls Tryd.prog 4 #[.string s, .string t] w fun e w' => e = .returned (.bool true) ∧ Below w.heap.size w w' := by
  have HA := Lib.hid hA
  have HB := Lib.hid hB
  clear hA hB
  go_enter Tryd.func4, Tryd.ntmps4
  go_wp2_with fail
  refine (HA.out _).mono ?_
  rintro e w1 ⟨rfl, hb1⟩
  have HB1 := Lib.hid hb1
  clear hb1
  go_wp2_with fail
  refine (HB.out _).mono ?_
  rintro e w2 ⟨rfl, hb2⟩
  have HB2 := Lib.hid (HB1.out.trans (hb2.mono HB1.out.size))
  clear hb2
  have hne2 : (b != b) = false := by simp
  go_wp2
  go_ret
  exact ⟨rfl, HB2.out⟩

theorem fnExactNatMul_walk (s : ByteArray) (hs : s.size ≤ maxLen) (t : ByteArray) (ht : t.size ≤ maxLen) (w : World) :
    Calls Tryd.prog 4 #[.string s, .string t] w fun e w' => e = .returned (.bool true) ∧ Below w.heap.size w w' := by
  have hs' := hs
  have ht' := ht
  unfold maxLen at hs' ht'
  by_cases hb : 1048576 < s.size
  · go_enter Tryd.func4, Tryd.ntmps4
    go_wp2
    go_ret
    exact ⟨rfl, Below.refl _ _⟩
  · by_cases hb' : 1048576 < t.size
    · go_enter Tryd.func4, Tryd.ntmps4
      go_wp2
      go_ret
      exact ⟨rfl, Below.refl _ _⟩
    · by_cases h : natOk (bs s) = false ∨ natOk (bs t) = false
      · exact fnExactNatMul_law s t _ _ w (by omega) (by omega) (fun w => specNatMul_no s t w hs ht h) (fun w => implNatMul_no s t w hs ht h)
      · have h1 : natOk (bs s) = true := by cases e : natOk (bs s) with | true => rfl | false => exact absurd (.inl e) h
        have h2 : natOk (bs t) = true := by cases e : natOk (bs t) with | true => rfl | false => exact absurd (.inr e) h
        exact fnExactNatMul_law s t _ _ w (by omega) (by omega) (fun w => specNatMul_yes s t w hs ht h1 h2) (fun w => implNatMul_yes s t w hs ht h1 h2)
end Go.Proofs.YtbaldkpkloohkaaDoor
