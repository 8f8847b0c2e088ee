/-
  The walk of FnExactNatShift, out of the contracts. No condition.
-/
import Derived.Test.YtbaldkpkloohkaaDoorShift
import Derived.Test.YtbaldkpkloohkaaDoorZeros
import Derived.Test.YtbaldkpkloohkaaDoorFits
import Derived.Test.YtbaldkpkloohkaaDoorBetw
namespace Go.Proofs.YtbaldkpkloohkaaDoor
open Go.RowKit
set_option linter.unusedVariables false
set_option linter.unusedSimpArgs false

theorem specNatShift_no (s : ByteArray) (x : Int) (w : World) (hs : s.size ≤ maxLen) (h : natOk (bs s) = false ∨ betw x 0 600 = false) :
    Calls Tryd.prog 26 #[.string s, .int .i64 x] w fun e w' => e = .returned (.tuple #[.string ⟨#[]⟩, .bool false]) ∧ Below w.heap.size w w' := by
  cases ha : natOk (bs s)
  · go_enter Tryd.func26, Tryd.ntmps26
    go_wp2_with fail
    refine (specNatOk_any _ _ hs).mono ?_
    rintro e w1 ⟨rfl, hw1⟩
    obtain rfl : w = w1 := hw1
    go_wp2
    refine bodyPost_ret (v := .tuple #[.string ⟨#[]⟩, .bool false]) (by simp [results, Tryd.results26, go_sem, *]) rfl ⟨rfl, ?_⟩
    exact Below.refl _ _
  · have hb : betw x 0 600 = false := by simpa [ha] using h
    go_enter Tryd.func26, Tryd.ntmps26
    go_wp2_with fail
    refine (specNatOk_any _ _ hs).mono ?_
    rintro e w1 ⟨rfl, hw1⟩
    obtain rfl : w = w1 := hw1
    go_wp2_with fail
    refine (l01Between_any _ _ _ _).mono ?_
    rintro e w1 ⟨rfl, hw1⟩
    obtain rfl : w = w1 := hw1.symm
    clear hw1
    rw [hb]
    go_wp2
    refine bodyPost_ret (v := .tuple #[.string ⟨#[]⟩, .bool false]) (by simp [results, Tryd.results26, go_sem, *]) rfl ⟨rfl, ?_⟩
    exact Below.refl _ _

theorem specNatShift_yes (s : ByteArray) (n : Nat) (w : World) (hs : s.size ≤ maxLen) (ha : natOk (bs s) = true) (hb : betw (n : Int) 0 600 = true) (hn : n ≤ 600) :
    Calls Tryd.prog 26 #[.string s, .int .i64 (n : Int)] w fun e w' => e = .returned (.tuple #[.string (fitS (dec (val (bs s) * 10 ^ n))), .bool (fitB (dec (val (bs s) * 10 ^ n)))]) ∧ Below w.heap.size w w' := by
  obtain ⟨c1, l1⟩ := natOk_canon ha
  rw [bs_length] at l1
  have HC := Lib.hid c1
  clear c1
  go_enter Tryd.func26, Tryd.ntmps26
  go_wp2_with fail
  refine (specNatOk_any _ _ hs).mono ?_
  rintro e w1 ⟨rfl, hw1⟩
  obtain rfl : w = w1 := hw1
  go_wp2_with fail
  refine (l01Between_any _ _ _ _).mono ?_
  rintro e w1 ⟨rfl, hw1⟩
  obtain rfl : w = w1 := hw1.symm
  clear hw1
  rw [hb]
  have HTR := Lib.hid (show trimZ (bs (s ++ ofL (zs n))) = dec (val (bs s) * 10 ^ n) by rw [bs_app, bs_ofL, trimZ_dec _ (all_zs HC.out.dig n), val_zs])
  have HSZ := Lib.hid (show (s ++ ofL (zs n)).size ≤ 1099511627776 by
    have e := bs_length (s ++ ofL (zs n))
    rw [bs_app, List.length_append, bs_ofL, zs_len, bs_length] at e
    omega)
  have hsz := size_ofL (zs n)
  rw [zs_len] at hsz
  have hno : ¬ (9223372036854775807 < s.size + n) := by omega
  go_wp2_with fail
  refine (l02Zeros_any n _ (by omega)).mono ?_
  rintro e w2 ⟨rfl, hb2⟩
  have HB2 := Lib.hid hb2
  clear hb2
  go_wp2_with fail
  refine (l02Trim_any _ _ HSZ.out).mono ?_
  rintro e w4 ⟨rfl, hw4⟩
  obtain rfl : w2 = w4 := hw4.symm
  rw [HTR.out]
  clear hw4
  go_wp2_with fail
  refine (l02Fits_any _ _).mono ?_
  rintro e w3 ⟨rfl, hb3⟩
  have HB3 := Lib.hid (HB2.out.trans (hb3.mono HB2.out.size))
  clear hb3
  go_wp2
  refine bodyPost_ret (v := .tuple #[.string (fitS (dec (val (bs s) * 10 ^ n))), .bool (fitB (dec (val (bs s) * 10 ^ n)))]) (by simp [results, Tryd.results26, go_sem, *]) rfl ⟨rfl, ?_⟩
  exact HB3.out

theorem implNatShift_no (s : ByteArray) (x : Int) (w : World) (hs : s.size ≤ maxLen) (h : natOk (bs s) = false ∨ betw x 0 600 = false) :
    Calls Tryd.prog 29 #[.string s, .int .i64 x] w fun e w' => e = .returned (.tuple #[.string ⟨#[]⟩, .bool false]) ∧ Below w.heap.size w w' := by
  cases ha : natOk (bs s)
  · go_enter Tryd.func29, Tryd.ntmps29
    go_wp2_with fail
    refine (isNat_any _ _ hs).mono ?_
    rintro e w1 ⟨rfl, hw1⟩
    obtain rfl : w = w1 := hw1
    go_wp2
    refine bodyPost_ret (v := .tuple #[.string ⟨#[]⟩, .bool false]) (by simp [results, Tryd.results29, go_sem, *]) rfl ⟨rfl, ?_⟩
    exact Below.refl _ _
  · have hb : betw x 0 600 = false := by simpa [ha] using h
    go_enter Tryd.func29, Tryd.ntmps29
    go_wp2_with fail
    refine (isNat_any _ _ hs).mono ?_
    rintro e w1 ⟨rfl, hw1⟩
    obtain rfl : w = w1 := hw1
    go_wp2_with fail
    refine (within_any _ _ _ _).mono ?_
    rintro e w1 ⟨rfl, hw1⟩
    obtain rfl : w = w1 := hw1.symm
    clear hw1
    rw [hb]
    go_wp2
    refine bodyPost_ret (v := .tuple #[.string ⟨#[]⟩, .bool false]) (by simp [results, Tryd.results29, go_sem, *]) rfl ⟨rfl, ?_⟩
    exact Below.refl _ _

theorem implNatShift_yes (s : ByteArray) (n : Nat) (w : World) (hs : s.size ≤ maxLen) (ha : natOk (bs s) = true) (hb : betw (n : Int) 0 600 = true) (hn : n ≤ 600) :
    Calls Tryd.prog 29 #[.string s, .int .i64 (n : Int)] w fun e w' => e = .returned (.tuple #[.string (fitS (dec (val (bs s) * 10 ^ n))), .bool (fitB (dec (val (bs s) * 10 ^ n)))]) ∧ Below w.heap.size w w' := by
  obtain ⟨c1, l1⟩ := natOk_canon ha
  rw [bs_length] at l1
  have HC := Lib.hid c1
  clear c1
  go_enter Tryd.func29, Tryd.ntmps29
  go_wp2_with fail
  refine (isNat_any _ _ hs).mono ?_
  rintro e w1 ⟨rfl, hw1⟩
  obtain rfl : w = w1 := hw1
  go_wp2_with fail
  refine (within_any _ _ _ _).mono ?_
  rintro e w1 ⟨rfl, hw1⟩
  obtain rfl : w = w1 := hw1.symm
  clear hw1
  rw [hb]
  go_wp2_with fail
  refine (natShift_any s n _ HC.out (by omega) (by omega)).mono ?_
  rintro e w2 ⟨rfl, hb2⟩
  have HB2 := Lib.hid hb2
  clear hb2
  go_wp2_with fail
  refine (checkedNat_any _ _).mono ?_
  rintro e w3 ⟨rfl, hb3⟩
  have HB3 := Lib.hid (HB2.out.trans (hb3.mono HB2.out.size))
  clear hb3
  go_wp2
  refine bodyPost_ret (v := .tuple #[.string (fitS (dec (val (bs s) * 10 ^ n))), .bool (fitB (dec (val (bs s) * 10 ^ n)))]) (by simp [results, Tryd.results29, go_sem, *]) rfl ⟨rfl, ?_⟩
  exact HB3.out



end Go.Proofs.YtbaldkpkloohkaaDoor
