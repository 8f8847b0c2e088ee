/-
  Texts of this claim in one file, in build order: NatAddS, NatRoundS. Each says ahead what it proves and under which conditions.
-/
import Derived.Test.YtjjpdoabagnmoaaGreatDoorQ03
/-
  The contract of adding naturals, the reference's: the row of the sum. Conditions: rows of digits, no longer than 2 to the 39.
-/
namespace Go.Proofs.YtjjpdoabagnmoaaGreatDoor
open Go.RowKit
set_option linter.unusedVariables false
set_option linter.unusedSimpArgs false

theorem ofNat_val {d : Nat} (h : d < 10) : ((UInt8.ofNat (48 + d)).toNat : Int) = 48 + (d : Int) := by rw [ofNat_dig h]; omega

set_option maxRecDepth 10000 in
set_option maxHeartbeats 2000000 in
theorem l02Add_any (s t : ByteArray) (w : World) (hs : (bs s).all isDig = true) (ht : (bs t).all isDig = true) (hs' : s.size ≤ 549755813888) (ht' : t.size ≤ 549755813888) :
    Calls Tryz.prog 123 #[.string s, .string t] w fun e w' => e = .returned (.string (ofL (dec (val (bs s) + val (bs t))))) ∧ Below w.heap.size w w' := by
  obtain ⟨i0, hi, hz0, hz1, hz2⟩ := info_parts infoByte
  obtain ⟨n, hn⟩ : ∃ n : Nat, n = max s.size t.size := ⟨_, rfl⟩
  have HS := Lib.hid hs
  have HT := Lib.hid ht
  obtain ⟨A, hA⟩ : ∃ A, val (bs s) = A := ⟨_, rfl⟩
  obtain ⟨B, hB⟩ : ∃ B, val (bs t) = B := ⟨_, rfl⟩
  have hA' := val_lt (bs s) hs
  have hB' := val_lt (bs t) ht
  rw [bs_length, hA] at hA'
  rw [bs_length, hB] at hB'
  have HA := Lib.hid hA
  have HB := Lib.hid hB
  have HLA := Lib.hid hA'
  have HLB := Lib.hid hB'
  have hns : s.size ≤ n := by omega
  have hnt : t.size ≤ n := by omega
  have hnb : n ≤ 549755813888 := by omega
  rw [hA, hB]
  clear hs ht hA hB hA' hB' hn
  go_enter Tryz.func123, Tryz.ntmps123
  go_wp2
  go_loopw [5, 6, 7] (fun v c i wr => ∃ (k g cap : Nat), k ≤ n + 1 ∧ i = .int .i64 k ∧ c = .int .i64 (car A B k : Nat) ∧ v = .slice (some ⟨g, 0, none⟩) k cap ∧ wr.ownsRow w.heap.size 5 1 (.slice (some ⟨g, 0, none⟩) k cap) k ((digs (A + B) k).map byteV) ∧ Below w.heap.size w wr) (fun _ _ i _ => n + 2 - (intOf i).toNat)
  case atStart =>
    exact ⟨0, w.heap.size, 0, Nat.zero_le _, rfl, by rw [car_zero]; rfl, rfl, ownsRow_empty _ _ _ (Nat.le_refl _), (Below.refl _ _).alloc (Nat.le_refl _) _⟩
  case round =>
    obtain ⟨k, g, cap, hk, rfl, rfl, rfl, hown, hb⟩ := hrel
    have HOW := Lib.hid hown
    have HBW := Lib.hid hb
    have hlow := hb.size
    clear hown hb
    have c1 := car_le A B k
    have c2 := dgt_lt A k
    have c3 := dgt_lt B k
    have HC4 := Lib.hid (car_succ A B k)
    have HC5 := Lib.hid (car_dgt A B k)
    obtain ⟨c, hc⟩ : ∃ c, car A B k = c := ⟨_, rfl⟩
    obtain ⟨x, hx⟩ : ∃ x, dgt A k = x := ⟨_, rfl⟩
    obtain ⟨y, hy⟩ : ∃ y, dgt B k = y := ⟨_, rfl⟩
    rw [hc] at c1 ⊢
    rw [hx] at c2
    rw [hy] at c3
    have HC := Lib.hid hc
    have HX := Lib.hid hx
    have HY := Lib.hid hy
    have hcn : k = n + 1 → c = 0 := fun e => by
      rw [← hc, e]
      exact car_over (n := n) (Nat.lt_of_lt_of_le HLA.out (Nat.pow_le_pow_right (by omega) hns)) (Nat.lt_of_lt_of_le HLB.out (Nat.pow_le_pow_right (by omega) hnt)) (by omega)
    clear hc hx hy
    by_cases hgo : k < s.size ∨ k < t.size ∨ 0 < c
    · have hkn : k ≤ n := by omega
      have hd0 : 0 ≤ ((x : Int) + (y : Int) + (c : Int)) / 10 := by omega
      have hd1 : ((x : Int) + (y : Int) + (c : Int)) / 10 ≤ 1 := by omega
      have hm0 : 0 ≤ ((x : Int) + (y : Int) + (c : Int)) % 10 := by omega
      have hm1 : ((x : Int) + (y : Int) + (c : Int)) % 10 ≤ 9 := by omega
      clear hcn
      rcases (by omega : k < s.size ∨ (s.size ≤ k ∧ k < t.size) ∨ (s.size ≤ k ∧ t.size ≤ k ∧ 0 < c)) with h1 | ⟨h1, h2⟩ | ⟨h1, h2, h3⟩
      all_goals
        clear hgo
        go_wp2_with fail
        refine (l02Digit_any s k _ HS.out (by omega) (by omega)).mono ?_
        rintro e w1 ⟨rfl, hw1⟩
        obtain rfl : wr = w1 := hw1.symm
        rw [HA.out, HX.out]
        go_wp2_with fail
        refine (l02Digit_any t k _ HT.out (by omega) (by omega)).mono ?_
        rintro e w2 ⟨rfl, hw2⟩
        obtain rfl : wr = w2 := hw2.symm
        rw [HB.out, HY.out]
        clear hw1 hw2
        go_wp2_with (at_builtin; refine wpList_append_own _ rfl _ _ 28 rfl w.heap.size 5 i0 (.int .u8 0) 1 1 Tryz.underlying28 hi hz0 hz1 hz2 rfl (by decide) _ _ _ rfl (ownsRow_one wr w.heap.size 5 _ hlow) ⟨g, 0, none⟩ k cap ((digs (A + B) k).map byteV) rfl (by simp [digs_length]) (ownsRow_news (HOW.out.alloc _)) byteV_one (by unfold maxLen; omega) (by omega) (by simp; omega) ?_; intro v2 w2 hown2 hgr2 hnil2)
        have e4 := HC4.out
        have e5 := HC5.out
        rw [HC.out, HX.out, HY.out] at e4 e5
        obtain ⟨g2, cap2, rfl, hg2, hg2'⟩ := ownsRow_some hown2 (by omega)
        have hbz : Below w.heap.size w w2 := Below.grown (HBW.out.alloc hlow _) hgr2 (by simp; omega) (ownBlock_lo (ownsRow_one wr w.heap.size 5 (.bool true) hlow))
        refine ⟨⟨k + 1, g2, cap2, by omega, by go_num, by rw [← e4]; congr 1; omega, by rw [Nat.add_comm 1 k], ?_, hbz⟩, by simp [intOf]; omega⟩
        rw [digs_cons, List.map_cons, ← e5]
        rw [Nat.add_comm 1 k] at hown2
        have hx5 : byteV (UInt8.ofNat (48 + (c + x + y) % 10)) = .int .u8 (48 + ((x : Int) + (y : Int) + (c : Int)) % 10) := by
          unfold byteV; rw [ofNat_val (Nat.mod_lt _ (by omega))]; congr 1; omega
        rw [hx5]
        exact hown2
    · have hc0 : c = 0 := by omega
      have h1 : s.size ≤ k := by omega
      have h2 : t.size ≤ k := by omega
      have hconv := textOfOwned HOW.out
      have hAk : A < 10 ^ k := Nat.lt_of_lt_of_le HLA.out (Nat.pow_le_pow_right (by omega) h1)
      have hBk : B < 10 ^ k := Nat.lt_of_lt_of_le HLB.out (Nat.pow_le_pow_right (by omega) h2)
      have HTD := Lib.hid (trimZ_digs (car_end hAk hBk (by rw [HC.out, hc0])))
      subst hc0
      clear hAk hBk hcn hgo
      go_wp2_with fail
      refine (l02Trim_any _ _ (by rw [size_ofL, digs_length]; omega)).mono ?_
      rintro e w1 ⟨rfl, hw1⟩
      obtain rfl : wr = w1 := hw1.symm
      go_wp2
      go_ret
      refine ⟨ret_str ?_, HBW.out⟩
      rw [bs_ofL, HTD.out]
end Go.Proofs.YtjjpdoabagnmoaaGreatDoor
/-
  The contract of rounding a row by a power of ten, the reference's. Conditions: a row of digits and a power, no longer than 2 to the 37.
-/
namespace Go.Proofs.YtjjpdoabagnmoaaGreatDoor
open Go.RowKit
set_option linter.unusedVariables false
set_option linter.unusedSimpArgs false

theorem l02Add_one (m : Nat) (w : World) (hm : (dec m).length ≤ 549755813888) :
    Calls Tryz.prog 123 #[.string (ofL (dec m)), .string ⟨#[49]⟩] w fun e w' => e = .returned (.string (ofL (dec (m + 1)))) ∧ Below w.heap.size w w' := by
  have h := l02Add_any (ofL (dec m)) ⟨#[49]⟩ w (by rw [bs_ofL]; exact dec_all m) (by decide) (by rw [size_ofL]; exact hm) (by decide)
  rw [bs_ofL, val_dec, show val (bs ⟨#[49]⟩) = 1 from by decide] at h
  exact h
theorem l02Digit_dec (m : Nat) (w : World) (hm : (dec m).length ≤ 549755813888) :
    Calls Tryz.prog 122 #[.string (ofL (dec m)), .int .i64 0] w fun e w' => e = .returned (.int .i64 ((m % 10 : Nat) : Int)) ∧ w' = w := by
  have h := l02Digit_any (ofL (dec m)) 0 w (by rw [bs_ofL]; exact dec_all m) (by rw [size_ofL]; omega) (by omega)
  rw [bs_ofL, val_dec, dgt_zero] at h
  exact h

set_option maxRecDepth 10000 in
set_option maxHeartbeats 1000000 in
theorem l02Round_any (s : ByteArray) (n : Nat) (w : World) (hc : (bs s).all isDig = true) (hs : s.size ≤ 137438953472) (hn : n ≤ 137438953472) :
    Calls Tryz.prog 94 #[.string s, .int .i64 (n : Int)] w fun e w' => e = .returned (.string (ofL (dec (roundV (val (bs s)) n)))) ∧ Below w.heap.size w w' := by
  by_cases h0 : n = 0
  · have HTR := Lib.hid (show trimZ (bs s) = dec (roundV (val (bs s)) n) by rw [h0, roundV_zero, trimZ_dec _ hc])
    have hnb : ((n : Int) == 0) = true := beq_iff_eq.2 (by omega)
    clear hc h0
    go_enter Tryz.func94, Tryz.ntmps94
    go_wp2_with fail
    refine (l02Trim_any _ _ (by omega)).mono ?_
    rintro e w1 ⟨rfl, rfl⟩
    rw [HTR.out]
    go_wp2
    go_ret
    exact ⟨rfl, Below.refl _ _⟩
  · have hnb : ((n : Int) == 0) = false := beq_eq_false_iff_ne.2 (by omega)
    obtain ⟨m, hm⟩ : ∃ m, n = m + 1 := ⟨n - 1, by omega⟩
    obtain ⟨t, ht⟩ : ∃ t, ofL (zs n) ++ s = t := ⟨_, rfl⟩
    have htb : bs t = zs n ++ bs s := by rw [← ht, bs_app, bs_ofL]
    have hts : t.size = n + s.size := by
      rw [← bs_length, htb, List.length_append, zs_len, bs_length]
    have htv : val (bs t) = val (bs s) := by rw [htb, val_zs_ahead]
    have hta : (bs t).all isDig = true := by rw [htb, List.all_append, zs_all, hc]; rfl
    rw [← htv]
    obtain ⟨f1, f2⟩ := val_front hta (n := n) (by rw [bs_length]; omega)
    rw [bs_length] at f1 f2
    have HTR := Lib.hid (show trimZ (bs (t.extract 0 (t.size - n))) = dec (val (bs t) / 10 ^ n) by rw [bs_front, trimZ_dec _ (all_take hta _), f1])
    have hlx : ((bs t).drop (t.size - n)).length = n := by rw [List.length_drop, bs_length]; omega
    have HRC := Lib.hid (round_three (n := m) (all_drop hta _) (hlx.trans hm) (by rw [← hm]; exact f2))
    rw [← hm] at HRC
    have hlen : (dec (val (bs t) / 10 ^ n)).length ≤ t.size + 1 := by
      rw [← f1, ← trimZ_dec _ (all_take hta _)]
      have := trimZ_len ((bs t).take (t.size - n))
      rw [List.length_take, bs_length] at this
      omega
    obtain ⟨Q, hQ⟩ : ∃ Q, val (bs t) / 10 ^ n = Q := ⟨_, rfl⟩
    rw [hQ] at hlen HTR HRC
    obtain ⟨q, hq⟩ : ∃ q, ofL (dec Q) = q := ⟨_, rfl⟩
    have HQ := Lib.hid hq
    have hqm : (Q % 10 : Nat) % 2 = Q % 2 := by omega
    have HDIG := Lib.hid (fun (w : World) => by rw [← hq]; exact l02Digit_dec Q w (by omega) : ∀ w : World, Calls Tryz.prog 122 #[.string q, .int .i64 0] w fun e w' => e = .returned (.int .i64 ((Q % 10 : Nat) : Int)) ∧ w' = w)
    have HADD := Lib.hid (fun (w : World) => by rw [← hq]; exact l02Add_one Q w (by omega) : ∀ w : World, Calls Tryz.prog 123 #[.string q, .string ⟨#[49]⟩] w fun e w' => e = .returned (.string (ofL (dec (Q + 1)))) ∧ Below w.heap.size w w')
    have htail := bs_tail t (t.size - n)
    obtain ⟨y, hy⟩ : ∃ y, t.extract (t.size - n) t.size = y := ⟨_, rfl⟩
    rw [← htail, hy] at HRC
    have HY := Lib.hid hy
    have hz := size_ofL (zs m)
    rw [zs_len] at hz
    have hzn := size_ofL (zs n)
    rw [zs_len] at hzn
    have HSZ := Lib.hid (show (t.extract 0 (t.size - n)).size ≤ 1099511627776 by rw [← bs_length, bs_front, List.length_take, bs_length]; omega)
    obtain ⟨V, hV⟩ : ∃ V, roundV (val (bs t)) n = V := ⟨_, rfl⟩
    rw [hV] at HRC ⊢
    have HT := Lib.hid ht
    have hi1 : 0 ≤ (t.size : Int) - (n : Int) := by omega
    have hi2 : (t.size : Int) - (n : Int) ≤ (t.size : Int) := by omega
    have hi3 : ((t.size : Int) - (n : Int)).toNat = t.size - n := by omega
    have hi4 : (n : Int) - 1 = (m : Int) := by omega
    have hno : ¬ (9223372036854775807 < 1 + m) := by omega
    have hno2 : ¬ (9223372036854775807 < n + s.size) := by omega
    have hHl : ((⟨#[53]⟩ : ByteArray) ++ ofL (zs m)).toList = 53 :: zs m := by rw [toList_bs, bs_app, bs_ofL]; rfl
    have hyl : y.toList = bs y := toList_bs y
    have htsz : t.size ≤ 274877906944 := by omega
    rcases HRC.out with ⟨r1, r2, r3⟩ | ⟨r1, r2, r3⟩ | ⟨r1, r2, r3⟩ | ⟨r1, r2, r3⟩
    · have t1 : Op.bytesLess y.toList ((⟨#[53]⟩ : ByteArray) ++ ofL (zs m)).toList = false := by rw [hHl, hyl]; exact r1
      have t2 : ¬ (y.toList = ((⟨#[53]⟩ : ByteArray) ++ ofL (zs m)).toList) := by rw [hHl, hyl]; exact r2
      have R3 := Lib.hid r3
      clear hq hlen htail hy hV hQ hlx f1 f2 hc h0 hm r1 r2 r3 hHl hyl HRC ht htb htv hta hts hqm
      go_enter Tryz.func94, Tryz.ntmps94
      go_wp2_with fail
      refine (l02Zeros_any n _ (by omega)).mono ?_
      rintro e w1 ⟨rfl, hb1⟩
      have HB1 := Lib.hid hb1
      clear hb1
      go_wp2_with fail
      rw [HT.out]
      go_quiet ((go_at_call 93; exact Calls.quiet_of_same (l02Trim_any _ _ HSZ.out)))
      rw [HTR.out, HQ.out, HY.out]
      go_wp2_with fail
      refine (l02Zeros_any m _ (by omega)).mono ?_
      rintro e w2 ⟨rfl, hb2⟩
      have HB2 := Lib.hid ((Go.below_drewN HB1.out nq).trans (hb2.mono HB1.out.size))
      clear hb2
      go_wp2_with fail
      refine (HADD.out _).mono ?_
      rintro e w4 ⟨rfl, hb4⟩
      have HB4 := Lib.hid (HB2.out.trans (hb4.mono HB2.out.size))
      clear hb4
      go_wp2
      go_ret
      exact ⟨ret_str (by rw [R3.out]), HB4.out⟩
    · have t1 : Op.bytesLess y.toList ((⟨#[53]⟩ : ByteArray) ++ ofL (zs m)).toList = true := by rw [hHl, hyl]; exact r1
      have t2 : ¬ (y.toList = ((⟨#[53]⟩ : ByteArray) ++ ofL (zs m)).toList) := by rw [hHl, hyl]; exact r2
      have R3 := Lib.hid r3
      clear hq hlen htail hy hV hQ hlx f1 f2 hc h0 hm r1 r2 r3 hHl hyl HRC ht htb htv hta hts hqm
      go_enter Tryz.func94, Tryz.ntmps94
      go_wp2_with fail
      refine (l02Zeros_any n _ (by omega)).mono ?_
      rintro e w1 ⟨rfl, hb1⟩
      have HB1 := Lib.hid hb1
      clear hb1
      go_wp2_with fail
      rw [HT.out]
      go_quiet ((go_at_call 93; exact Calls.quiet_of_same (l02Trim_any _ _ HSZ.out)))
      rw [HTR.out, HQ.out, HY.out]
      go_wp2_with fail
      refine (l02Zeros_any m _ (by omega)).mono ?_
      rintro e w2 ⟨rfl, hb2⟩
      have HB2 := Lib.hid ((Go.below_drewN HB1.out nq).trans (hb2.mono HB1.out.size))
      clear hb2
      go_wp2
      go_ret
      exact ⟨ret_str (by rw [R3.out, HQ.out]), HB2.out⟩
    · have t2 : y.toList = ((⟨#[53]⟩ : ByteArray) ++ ofL (zs m)).toList := by rw [hHl, hyl]; exact r1
      have t3 : Op.bytesLess ((⟨#[53]⟩ : ByteArray) ++ ofL (zs m)).toList ((⟨#[53]⟩ : ByteArray) ++ ofL (zs m)).toList = false := less_self _
      have t1 : Op.bytesLess y.toList ((⟨#[53]⟩ : ByteArray) ++ ofL (zs m)).toList = false := by rw [t2]; exact less_self _
      have t4 : (((Q : Int) % 10 % 2) == 1) = true := by first | (rw [beq_iff_eq]; omega) | (rw [beq_eq_false_iff_ne]; omega)
      have R3 := Lib.hid r3
      clear hq hlen htail hy hV hQ hlx f1 f2 hc h0 hm r1 r2 r3 hHl hyl HRC ht htb htv hta hts hqm
      go_enter Tryz.func94, Tryz.ntmps94
      go_wp2_with fail
      refine (l02Zeros_any n _ (by omega)).mono ?_
      rintro e w1 ⟨rfl, hb1⟩
      have HB1 := Lib.hid hb1
      clear hb1
      go_wp2_with fail
      rw [HT.out]
      go_quiet ((go_at_call 93; exact Calls.quiet_of_same (l02Trim_any _ _ HSZ.out)))
      rw [HTR.out, HQ.out, HY.out]
      go_wp2_with fail
      refine (l02Zeros_any m _ (by omega)).mono ?_
      rintro e w2 ⟨rfl, hb2⟩
      have HB2 := Lib.hid ((Go.below_drewN HB1.out nq).trans (hb2.mono HB1.out.size))
      clear hb2
      go_wp2_with fail
      refine (HDIG.out _).mono ?_
      rintro e w3 ⟨rfl, hw3⟩
      obtain rfl : w2 = w3 := hw3.symm
      go_wp2_with fail
      refine (HADD.out _).mono ?_
      rintro e w4 ⟨rfl, hb4⟩
      have HB4 := Lib.hid (HB2.out.trans (hb4.mono HB2.out.size))
      clear hb4
      go_wp2
      go_ret
      exact ⟨ret_str (by rw [R3.out]), HB4.out⟩
    · have t2 : y.toList = ((⟨#[53]⟩ : ByteArray) ++ ofL (zs m)).toList := by rw [hHl, hyl]; exact r1
      have t3 : Op.bytesLess ((⟨#[53]⟩ : ByteArray) ++ ofL (zs m)).toList ((⟨#[53]⟩ : ByteArray) ++ ofL (zs m)).toList = false := less_self _
      have t1 : Op.bytesLess y.toList ((⟨#[53]⟩ : ByteArray) ++ ofL (zs m)).toList = false := by rw [t2]; exact less_self _
      have t4 : (((Q : Int) % 10 % 2) == 1) = false := by first | (rw [beq_iff_eq]; omega) | (rw [beq_eq_false_iff_ne]; omega)
      have R3 := Lib.hid r3
      clear hq hlen htail hy hV hQ hlx f1 f2 hc h0 hm r1 r2 r3 hHl hyl HRC ht htb htv hta hts hqm
      go_enter Tryz.func94, Tryz.ntmps94
      go_wp2_with fail
      refine (l02Zeros_any n _ (by omega)).mono ?_
      rintro e w1 ⟨rfl, hb1⟩
      have HB1 := Lib.hid hb1
      clear hb1
      go_wp2_with fail
      rw [HT.out]
      go_quiet ((go_at_call 93; exact Calls.quiet_of_same (l02Trim_any _ _ HSZ.out)))
      rw [HTR.out, HQ.out, HY.out]
      go_wp2_with fail
      refine (l02Zeros_any m _ (by omega)).mono ?_
      rintro e w2 ⟨rfl, hb2⟩
      have HB2 := Lib.hid ((Go.below_drewN HB1.out nq).trans (hb2.mono HB1.out.size))
      clear hb2
      go_wp2_with fail
      refine (HDIG.out _).mono ?_
      rintro e w3 ⟨rfl, hw3⟩
      obtain rfl : w2 = w3 := hw3.symm
      go_wp2
      go_ret
      exact ⟨ret_str (by rw [R3.out, HQ.out]), HB2.out⟩
end Go.Proofs.YtjjpdoabagnmoaaGreatDoor
