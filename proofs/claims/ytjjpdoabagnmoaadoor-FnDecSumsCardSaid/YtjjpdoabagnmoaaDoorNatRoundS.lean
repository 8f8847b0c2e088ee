/-
  The contract of rounding a row by a power of ten, the reference's. Conditions: a row of digits and a power, no longer than 2 to the 37.
-/
import Derived.Test.YtjjpdoabagnmoaaDoorNatRound
import Derived.Test.YtjjpdoabagnmoaaDoorZeros
import Derived.Test.YtjjpdoabagnmoaaDoorNatAddS
namespace Go.Proofs.YtjjpdoabagnmoaaDoor
open Go.RowKit
set_option linter.unusedVariables false
set_option linter.unusedSimpArgs false

theorem l02Add_one (m : Nat) (w : World) (hm : (dec m).length ≤ 549755813888) :
    Calls Tryd.prog 74 #[.string (ofL (dec m)), .string ⟨#[49]⟩] w fun e w' => e = .returned (.string (ofL (dec (m + 1)))) ∧ Below w.heap.size w w' := by
  have h := l02Add_any (ofL (dec m)) ⟨#[49]⟩ w (by rw [bs_ofL]; exact dec_all m) (by decide) (by rw [size_ofL]; exact hm) (by decide)
  rw [bs_ofL, val_dec, show val (bs ⟨#[49]⟩) = 1 from by decide] at h
  exact h
theorem l02Digit_dec (m : Nat) (w : World) (hm : (dec m).length ≤ 549755813888) :
    Calls Tryd.prog 81 #[.string (ofL (dec m)), .int .i64 0] w fun e w' => e = .returned (.int .i64 ((m % 10 : Nat) : Int)) ∧ w' = w := by
  have h := l02Digit_any (ofL (dec m)) 0 w (by rw [bs_ofL]; exact dec_all m) (by rw [size_ofL]; omega) (by omega)
  rw [bs_ofL, val_dec, dgt_zero] at h
  exact h

set_option maxRecDepth 10000 in
set_option maxHeartbeats 1000000 in
theorem l02Round_any (s : ByteArray) (n : Nat) (w : World) (hc : (bs s).all isDig = true) (hs : s.size ≤ 137438953472) (hn : n ≤ 137438953472) :
    Calls Tryd.prog 80 #[.string s, .int .i64 (n : Int)] w fun e w' => e = .returned (.string (ofL (dec (roundV (val (bs s)) n)))) ∧ Below w.heap.size w w' := by
  by_cases h0 : n = 0
  · have HTR := Lib.hid (show trimZ (bs s) = dec (roundV (val (bs s)) n) by rw [h0, roundV_zero, trimZ_dec _ hc])
    have hnb : ((n : Int) == 0) = true := beq_iff_eq.2 (by omega)
    clear hc h0
    go_enter Tryd.func80, Tryd.ntmps80
    go_wp2_with fail
    refine (l02Trim_any _ _ (by omega)).mono ?_
    rintro e w1 ⟨rfl, rfl⟩
    rw [HTR.out]
    go_wp2
    go_ret
    exact ⟨rfl, Below.refl _ _⟩
  · have hnb : ((n : Int) == 0) = false := beq_eq_false_iff_ne.2 (by omega)
    obtain ⟨m, hm⟩ : ∃ m, n = m + 1 := ⟨n - 1, by omega⟩
    obtain ⟨t, ht⟩ : ∃ t, ofL (zs n) ++ s = t := ⟨_, rfl⟩
    have htb : bs t = zs n ++ bs s := by rw [← ht, bs_app, bs_ofL]
    have hts : t.size = n + s.size := by
      rw [← bs_length, htb, List.length_append, zs_len, bs_length]
    have htv : val (bs t) = val (bs s) := by rw [htb, val_zs_ahead]
    have hta : (bs t).all isDig = true := by rw [htb, List.all_append, zs_all, hc]; rfl
    rw [← htv]
    obtain ⟨f1, f2⟩ := val_front hta (n := n) (by rw [bs_length]; omega)
    rw [bs_length] at f1 f2
    have HTR := Lib.hid (show trimZ (bs (t.extract 0 (t.size - n))) = dec (val (bs t) / 10 ^ n) by rw [bs_front, trimZ_dec _ (all_take hta _), f1])
    have hlx : ((bs t).drop (t.size - n)).length = n := by rw [List.length_drop, bs_length]; omega
    have HRC := Lib.hid (round_three (n := m) (all_drop hta _) (hlx.trans hm) (by rw [← hm]; exact f2))
    rw [← hm] at HRC
    have hlen : (dec (val (bs t) / 10 ^ n)).length ≤ t.size + 1 := by
      rw [← f1, ← trimZ_dec _ (all_take hta _)]
      have := trimZ_len ((bs t).take (t.size - n))
      rw [List.length_take, bs_length] at this
      omega
    obtain ⟨Q, hQ⟩ : ∃ Q, val (bs t) / 10 ^ n = Q := ⟨_, rfl⟩
    rw [hQ] at hlen HTR HRC
    obtain ⟨q, hq⟩ : ∃ q, ofL (dec Q) = q := ⟨_, rfl⟩
    have HQ := Lib.hid hq
    have hqm : (Q % 10 : Nat) % 2 = Q % 2 := by omega
    have HDIG := Lib.hid (fun (w : World) => by rw [← hq]; exact l02Digit_dec Q w (by omega) : ∀ w : World, Calls Tryd.prog 81 #[.string q, .int .i64 0] w fun e w' => e = .returned (.int .i64 ((Q % 10 : Nat) : Int)) ∧ w' = w)
    have HADD := Lib.hid (fun (w : World) => by rw [← hq]; exact l02Add_one Q w (by omega) : ∀ w : World, Calls Tryd.prog 74 #[.string q, .string ⟨#[49]⟩] w fun e w' => e = .returned (.string (ofL (dec (Q + 1)))) ∧ Below w.heap.size w w')
    have htail := bs_tail t (t.size - n)
    obtain ⟨y, hy⟩ : ∃ y, t.extract (t.size - n) t.size = y := ⟨_, rfl⟩
    rw [← htail, hy] at HRC
    have HY := Lib.hid hy
    have hz := size_ofL (zs m)
    rw [zs_len] at hz
    have hzn := size_ofL (zs n)
    rw [zs_len] at hzn
    have HSZ := Lib.hid (show (t.extract 0 (t.size - n)).size ≤ 1099511627776 by rw [← bs_length, bs_front, List.length_take, bs_length]; omega)
    obtain ⟨V, hV⟩ : ∃ V, roundV (val (bs t)) n = V := ⟨_, rfl⟩
    rw [hV] at HRC ⊢
    have HT := Lib.hid ht
    have hi1 : 0 ≤ (t.size : Int) - (n : Int) := by omega
    have hi2 : (t.size : Int) - (n : Int) ≤ (t.size : Int) := by omega
    have hi3 : ((t.size : Int) - (n : Int)).toNat = t.size - n := by omega
    have hi4 : (n : Int) - 1 = (m : Int) := by omega
    have hno : ¬ (9223372036854775807 < 1 + m) := by omega
    have hno2 : ¬ (9223372036854775807 < n + s.size) := by omega
    have hHl : ((⟨#[53]⟩ : ByteArray) ++ ofL (zs m)).toList = 53 :: zs m := by rw [toList_bs, bs_app, bs_ofL]; rfl
    have hyl : y.toList = bs y := toList_bs y
    have htsz : t.size ≤ 274877906944 := by omega
    rcases HRC.out with ⟨r1, r2, r3⟩ | ⟨r1, r2, r3⟩ | ⟨r1, r2, r3⟩ | ⟨r1, r2, r3⟩
    · have t1 : Op.bytesLess y.toList ((⟨#[53]⟩ : ByteArray) ++ ofL (zs m)).toList = false := by rw [hHl, hyl]; exact r1
      have t2 : ¬ (y.toList = ((⟨#[53]⟩ : ByteArray) ++ ofL (zs m)).toList) := by rw [hHl, hyl]; exact r2
      have R3 := Lib.hid r3
      clear hq hlen htail hy hV hQ hlx f1 f2 hc h0 hm r1 r2 r3 hHl hyl HRC ht htb htv hta hts hqm
      go_enter Tryd.func80, Tryd.ntmps80
      go_wp2_with fail
      refine (l02Zeros_any n _ (by omega)).mono ?_
      rintro e w1 ⟨rfl, hb1⟩
      have HB1 := Lib.hid hb1
      clear hb1
      go_wp2_with fail
      rw [HT.out]
      go_quiet ((go_at_call 77; exact Calls.quiet_of_same (l02Trim_any _ _ HSZ.out)))
      rw [HTR.out, HQ.out, HY.out]
      go_wp2_with fail
      refine (l02Zeros_any m _ (by omega)).mono ?_
      rintro e w2 ⟨rfl, hb2⟩
      have HB2 := Lib.hid ((below_drewN HB1.out nq).trans (hb2.mono HB1.out.size))
      clear hb2
      go_wp2_with fail
      refine (HADD.out _).mono ?_
      rintro e w4 ⟨rfl, hb4⟩
      have HB4 := Lib.hid (HB2.out.trans (hb4.mono HB2.out.size))
      clear hb4
      go_wp2
      go_ret
      exact ⟨ret_str (by rw [R3.out]), HB4.out⟩
    · have t1 : Op.bytesLess y.toList ((⟨#[53]⟩ : ByteArray) ++ ofL (zs m)).toList = true := by rw [hHl, hyl]; exact r1
      have t2 : ¬ (y.toList = ((⟨#[53]⟩ : ByteArray) ++ ofL (zs m)).toList) := by rw [hHl, hyl]; exact r2
      have R3 := Lib.hid r3
      clear hq hlen htail hy hV hQ hlx f1 f2 hc h0 hm r1 r2 r3 hHl hyl HRC ht htb htv hta hts hqm
      go_enter Tryd.func80, Tryd.ntmps80
      go_wp2_with fail
      refine (l02Zeros_any n _ (by omega)).mono ?_
      rintro e w1 ⟨rfl, hb1⟩
      have HB1 := Lib.hid hb1
      clear hb1
      go_wp2_with fail
      rw [HT.out]
      go_quiet ((go_at_call 77; exact Calls.quiet_of_same (l02Trim_any _ _ HSZ.out)))
      rw [HTR.out, HQ.out, HY.out]
      go_wp2_with fail
      refine (l02Zeros_any m _ (by omega)).mono ?_
      rintro e w2 ⟨rfl, hb2⟩
      have HB2 := Lib.hid ((below_drewN HB1.out nq).trans (hb2.mono HB1.out.size))
      clear hb2
      go_wp2
      go_ret
      exact ⟨ret_str (by rw [R3.out, HQ.out]), HB2.out⟩
    · have t2 : y.toList = ((⟨#[53]⟩ : ByteArray) ++ ofL (zs m)).toList := by rw [hHl, hyl]; exact r1
      have t3 : Op.bytesLess ((⟨#[53]⟩ : ByteArray) ++ ofL (zs m)).toList ((⟨#[53]⟩ : ByteArray) ++ ofL (zs m)).toList = false := less_self _
      have t1 : Op.bytesLess y.toList ((⟨#[53]⟩ : ByteArray) ++ ofL (zs m)).toList = false := by rw [t2]; exact less_self _
      have t4 : (((Q : Int) % 10 % 2) == 1) = true := by first | (rw [beq_iff_eq]; omega) | (rw [beq_eq_false_iff_ne]; omega)
      have R3 := Lib.hid r3
      clear hq hlen htail hy hV hQ hlx f1 f2 hc h0 hm r1 r2 r3 hHl hyl HRC ht htb htv hta hts hqm
      go_enter Tryd.func80, Tryd.ntmps80
      go_wp2_with fail
      refine (l02Zeros_any n _ (by omega)).mono ?_
      rintro e w1 ⟨rfl, hb1⟩
      have HB1 := Lib.hid hb1
      clear hb1
      go_wp2_with fail
      rw [HT.out]
      go_quiet ((go_at_call 77; exact Calls.quiet_of_same (l02Trim_any _ _ HSZ.out)))
      rw [HTR.out, HQ.out, HY.out]
      go_wp2_with fail
      refine (l02Zeros_any m _ (by omega)).mono ?_
      rintro e w2 ⟨rfl, hb2⟩
      have HB2 := Lib.hid ((below_drewN HB1.out nq).trans (hb2.mono HB1.out.size))
      clear hb2
      go_wp2_with fail
      refine (HDIG.out _).mono ?_
      rintro e w3 ⟨rfl, hw3⟩
      obtain rfl : w2 = w3 := hw3.symm
      go_wp2_with fail
      refine (HADD.out _).mono ?_
      rintro e w4 ⟨rfl, hb4⟩
      have HB4 := Lib.hid (HB2.out.trans (hb4.mono HB2.out.size))
      clear hb4
      go_wp2
      go_ret
      exact ⟨ret_str (by rw [R3.out]), HB4.out⟩
    · have t2 : y.toList = ((⟨#[53]⟩ : ByteArray) ++ ofL (zs m)).toList := by rw [hHl, hyl]; exact r1
      have t3 : Op.bytesLess ((⟨#[53]⟩ : ByteArray) ++ ofL (zs m)).toList ((⟨#[53]⟩ : ByteArray) ++ ofL (zs m)).toList = false := less_self _
      have t1 : Op.bytesLess y.toList ((⟨#[53]⟩ : ByteArray) ++ ofL (zs m)).toList = false := by rw [t2]; exact less_self _
      have t4 : (((Q : Int) % 10 % 2) == 1) = false := by first | (rw [beq_iff_eq]; omega) | (rw [beq_eq_false_iff_ne]; omega)
      have R3 := Lib.hid r3
      clear hq hlen htail hy hV hQ hlx f1 f2 hc h0 hm r1 r2 r3 hHl hyl HRC ht htb htv hta hts hqm
      go_enter Tryd.func80, Tryd.ntmps80
      go_wp2_with fail
      refine (l02Zeros_any n _ (by omega)).mono ?_
      rintro e w1 ⟨rfl, hb1⟩
      have HB1 := Lib.hid hb1
      clear hb1
      go_wp2_with fail
      rw [HT.out]
      go_quiet ((go_at_call 77; exact Calls.quiet_of_same (l02Trim_any _ _ HSZ.out)))
      rw [HTR.out, HQ.out, HY.out]
      go_wp2_with fail
      refine (l02Zeros_any m _ (by omega)).mono ?_
      rintro e w2 ⟨rfl, hb2⟩
      have HB2 := Lib.hid ((below_drewN HB1.out nq).trans (hb2.mono HB1.out.size))
      clear hb2
      go_wp2_with fail
      refine (HDIG.out _).mono ?_
      rintro e w3 ⟨rfl, hw3⟩
      obtain rfl : w2 = w3 := hw3.symm
      go_wp2
      go_ret
      exact ⟨ret_str (by rw [R3.out, HQ.out]), HB2.out⟩
end Go.Proofs.YtjjpdoabagnmoaaDoor
