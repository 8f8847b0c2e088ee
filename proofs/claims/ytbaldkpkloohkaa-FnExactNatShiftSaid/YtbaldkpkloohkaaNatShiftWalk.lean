/-
  The walk of FnExactNatShift, out of the contracts. No condition.
-/
import Derived.Test.YtbaldkpkloohkaaShift
import Derived.Test.YtbaldkpkloohkaaZeros
import Derived.Test.YtbaldkpkloohkaaFits
import Derived.Test.YtbaldkpkloohkaaBetw
namespace Go.Proofs.Ytbaldkpkloohkaa
open Go.RowKit
set_option linter.unusedVariables false
set_option linter.unusedSimpArgs false

theorem betw_nat {x : Int} (h : betw x 0 600 = true) : ∃ n : Nat, x = (n : Int) ∧ n ≤ 600 := by
  simp [betw] at h
  exact ⟨x.toNat, by omega, by omega⟩

theorem specNatShift_no (s : ByteArray) (x : Int) (w : World) (hs : s.size ≤ maxLen) (h : natOk (bs s) = false ∨ betw x 0 600 = false) :
    Calls Try.prog 4 #[.string s, .int .i64 x] w fun e w' => e = .returned (.tuple #[.string ⟨#[]⟩, .bool false]) ∧ Below w.heap.size w w' := by
  cases ha : natOk (bs s)
  · go_enter Try.func4, Try.ntmps4
    go_wp2_with fail
    refine (specNatOk_any _ _ hs).mono ?_
    rintro e w1 ⟨rfl, hw1⟩
    obtain rfl : w = w1 := hw1
    go_wp2
    refine bodyPost_ret (v := .tuple #[.string ⟨#[]⟩, .bool false]) (by simp [results, Try.results4, go_sem, *]) rfl ⟨rfl, ?_⟩
    exact Below.refl _ _
  · have hb : betw x 0 600 = false := by simpa [ha] using h
    go_enter Try.func4, Try.ntmps4
    go_wp2_with fail
    refine (specNatOk_any _ _ hs).mono ?_
    rintro e w1 ⟨rfl, hw1⟩
    obtain rfl : w = w1 := hw1
    go_wp2_with fail
    refine (l01Between_any _ _ _ _).mono ?_
    rintro e w1 ⟨rfl, hw1⟩
    obtain rfl : w = w1 := hw1.symm
    clear hw1
    rw [hb]
    go_wp2
    refine bodyPost_ret (v := .tuple #[.string ⟨#[]⟩, .bool false]) (by simp [results, Try.results4, go_sem, *]) rfl ⟨rfl, ?_⟩
    exact Below.refl _ _

theorem specNatShift_yes (s : ByteArray) (n : Nat) (w : World) (hs : s.size ≤ maxLen) (ha : natOk (bs s) = true) (hb : betw (n : Int) 0 600 = true) (hn : n ≤ 600) :
    Calls Try.prog 4 #[.string s, .int .i64 (n : Int)] w fun e w' => e = .returned (.tuple #[.string (fitS (dec (val (bs s) * 10 ^ n))), .bool (fitB (dec (val (bs s) * 10 ^ n)))]) ∧ Below w.heap.size w w' := by
  obtain ⟨c1, l1⟩ := natOk_canon ha
  rw [bs_length] at l1
  have HC := Lib.hid c1
  clear c1
  go_enter Try.func4, Try.ntmps4
  go_wp2_with fail
  refine (specNatOk_any _ _ hs).mono ?_
  rintro e w1 ⟨rfl, hw1⟩
  obtain rfl : w = w1 := hw1
  go_wp2_with fail
  refine (l01Between_any _ _ _ _).mono ?_
  rintro e w1 ⟨rfl, hw1⟩
  obtain rfl : w = w1 := hw1.symm
  clear hw1
  rw [hb]
  have HTR := Lib.hid (show trimZ (bs (s ++ ofL (zs n))) = dec (val (bs s) * 10 ^ n) by rw [bs_app, bs_ofL, trimZ_dec _ (all_zs HC.out.dig n), val_zs])
  have HSZ := Lib.hid (show (s ++ ofL (zs n)).size ≤ 1099511627776 by
    have e := bs_length (s ++ ofL (zs n))
    rw [bs_app, List.length_append, bs_ofL, zs_len, bs_length] at e
    omega)
  have hsz := size_ofL (zs n)
  rw [zs_len] at hsz
  have hno : ¬ (9223372036854775807 < s.size + n) := by omega
  go_wp2_with fail
  refine (l02Zeros_any n _ (by omega)).mono ?_
  rintro e w2 ⟨rfl, hb2⟩
  have HB2 := Lib.hid hb2
  clear hb2
  go_wp2_with fail
  refine (l02Trim_any _ _ HSZ.out).mono ?_
  rintro e w4 ⟨rfl, hw4⟩
  obtain rfl : w2 = w4 := hw4.symm
  rw [HTR.out]
  clear hw4
  go_wp2_with fail
  refine (l02Fits_any _ _).mono ?_
  rintro e w3 ⟨rfl, hb3⟩
  have HB3 := Lib.hid (HB2.out.trans (hb3.mono HB2.out.size))
  clear hb3
  go_wp2
  refine bodyPost_ret (v := .tuple #[.string (fitS (dec (val (bs s) * 10 ^ n))), .bool (fitB (dec (val (bs s) * 10 ^ n)))]) (by simp [results, Try.results4, go_sem, *]) rfl ⟨rfl, ?_⟩
  exact HB3.out

theorem implNatShift_no (s : ByteArray) (x : Int) (w : World) (hs : s.size ≤ maxLen) (h : natOk (bs s) = false ∨ betw x 0 600 = false) :
    Calls Try.prog 5 #[.string s, .int .i64 x] w fun e w' => e = .returned (.tuple #[.string ⟨#[]⟩, .bool false]) ∧ Below w.heap.size w w' := by
  cases ha : natOk (bs s)
  · go_enter Try.func5, Try.ntmps5
    go_wp2_with fail
    refine (isNat_any _ _ hs).mono ?_
    rintro e w1 ⟨rfl, hw1⟩
    obtain rfl : w = w1 := hw1
    go_wp2
    refine bodyPost_ret (v := .tuple #[.string ⟨#[]⟩, .bool false]) (by simp [results, Try.results5, go_sem, *]) rfl ⟨rfl, ?_⟩
    exact Below.refl _ _
  · have hb : betw x 0 600 = false := by simpa [ha] using h
    go_enter Try.func5, Try.ntmps5
    go_wp2_with fail
    refine (isNat_any _ _ hs).mono ?_
    rintro e w1 ⟨rfl, hw1⟩
    obtain rfl : w = w1 := hw1
    go_wp2_with fail
    refine (within_any _ _ _ _).mono ?_
    rintro e w1 ⟨rfl, hw1⟩
    obtain rfl : w = w1 := hw1.symm
    clear hw1
    rw [hb]
    go_wp2
    refine bodyPost_ret (v := .tuple #[.string ⟨#[]⟩, .bool false]) (by simp [results, Try.results5, go_sem, *]) rfl ⟨rfl, ?_⟩
    exact Below.refl _ _

theorem implNatShift_yes (s : ByteArray) (n : Nat) (w : World) (hs : s.size ≤ maxLen) (ha : natOk (bs s) = true) (hb : betw (n : Int) 0 600 = true) (hn : n ≤ 600) :
    Calls Try.prog 5 #[.string s, .int .i64 (n : Int)] w fun e w' => e = .returned (.tuple #[.string (fitS (dec (val (bs s) * 10 ^ n))), .bool (fitB (dec (val (bs s) * 10 ^ n)))]) ∧ Below w.heap.size w w' := by
  obtain ⟨c1, l1⟩ := natOk_canon ha
  rw [bs_length] at l1
  have HC := Lib.hid c1
  clear c1
  go_enter Try.func5, Try.ntmps5
  go_wp2_with fail
  refine (isNat_any _ _ hs).mono ?_
  rintro e w1 ⟨rfl, hw1⟩
  obtain rfl : w = w1 := hw1
  go_wp2_with fail
  refine (within_any _ _ _ _).mono ?_
  rintro e w1 ⟨rfl, hw1⟩
  obtain rfl : w = w1 := hw1.symm
  clear hw1
  rw [hb]
  go_wp2_with fail
  refine (natShift_any s n _ HC.out (by omega) (by omega)).mono ?_
  rintro e w2 ⟨rfl, hb2⟩
  have HB2 := Lib.hid hb2
  clear hb2
  go_wp2_with fail
  refine (checkedNat_any _ _).mono ?_
  rintro e w3 ⟨rfl, hb3⟩
  have HB3 := Lib.hid (HB2.out.trans (hb3.mono HB2.out.size))
  clear hb3
  go_wp2
  refine bodyPost_ret (v := .tuple #[.string (fitS (dec (val (bs s) * 10 ^ n))), .bool (fitB (dec (val (bs s) * 10 ^ n)))]) (by simp [results, Try.results5, go_sem, *]) rfl ⟨rfl, ?_⟩
  exact HB3.out

theorem fnExactNatShift_law (s u : ByteArray) (x : Int) (b : Bool) (w : World) (hb1 : s.size ≤ 1048576)
    (hA : ∀ w, Calls Try.prog 4 #[.string s, .int .i64 x] w fun e w' => e = .returned (.tuple #[.string u, .bool b]) ∧ Below w.heap.size w w')
    (hB : ∀ w, Calls Try.prog 5 #[.string s, .int .i64 x] w fun e w' => e = .returned (.tuple #[.string u, .bool b]) ∧ Below w.heap.size w w') :
    Calls Try.prog 3 #[.string s, .int .i64 x] w fun e w' => e = .returned (.bool true) ∧ Below w.heap.size w w' := by
  have HA := Lib.hid hA
  have HB := Lib.hid hB
  clear hA hB
  go_enter Try.func3, Try.ntmps3
  go_wp2_with fail
  refine (HA.out _).mono ?_
  rintro e w1 ⟨rfl, hb1⟩
  have HB1 := Lib.hid hb1
  clear hb1
  go_wp2_with fail
  refine (HB.out _).mono ?_
  rintro e w2 ⟨rfl, hb2⟩
  have HB2 := Lib.hid (HB1.out.trans (hb2.mono HB1.out.size))
  clear hb2
  have hne2 : (b != b) = false := by simp
  go_wp2
  go_ret
  exact ⟨rfl, HB2.out⟩

theorem fnExactNatShift_walk (s : ByteArray) (hs : s.size ≤ maxLen) (x : Int) (hx : (Lit.int .i64 x).wf = true) (w : World) :
    Calls Try.prog 3 #[.string s, .int .i64 x] w fun e w' => e = .returned (.bool true) ∧ Below w.heap.size w w' := by
  have hs' := hs
  unfold maxLen at hs'
  by_cases hb : 1048576 < s.size
  · go_enter Try.func3, Try.ntmps3
    go_wp2
    go_ret
    exact ⟨rfl, Below.refl _ _⟩
  · by_cases h : natOk (bs s) = false ∨ betw x 0 600 = false
    · exact fnExactNatShift_law s _ x _ w (by omega) (fun w => specNatShift_no s x w hs h) (fun w => implNatShift_no s x w hs h)
    · have h1 : natOk (bs s) = true := by cases e : natOk (bs s) with | true => rfl | false => exact absurd (.inl e) h
      have h2 : betw x 0 600 = true := by cases e : betw x 0 600 with | true => rfl | false => exact absurd (.inr e) h
      obtain ⟨n, rfl, hn⟩ := betw_nat h2
      exact fnExactNatShift_law s _ _ _ w (by omega) (fun w => specNatShift_yes s n w hs h1 h2 hn) (fun w => implNatShift_yes s n w hs h1 h2 hn)
end Go.Proofs.Ytbaldkpkloohkaa
