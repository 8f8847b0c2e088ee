/-
  The contract of rounding a natural by a power of ten, the program's. Conditions: a canonical row and a power, no longer than 2 to the 38.
-/
import Derived.Test.YtjjpdoabagnmoaaDoorShift
import Derived.Test.YtjjpdoabagnmoaaDoorNatAdd
namespace Go.Proofs.YtjjpdoabagnmoaaDoor
open Go.RowKit
set_option linter.unusedVariables false
set_option linter.unusedSimpArgs false

theorem bs_front (s : ByteArray) (k : Nat) : bs (s.extract 0 k) = (bs s).take k := by
  show (s.extract 0 k).data.toList = _
  rw [Lib.extract_data]; simp [bs]
theorem bs_tail (s : ByteArray) (k : Nat) : bs (s.extract k s.size) = (bs s).drop k := by
  show (s.extract k s.size).data.toList = _
  rw [Lib.extract_data]
  exact List.take_of_length_le (by rw [List.length_drop, show s.data.toList = bs s from rfl, bs_length]; exact Nat.le_refl _)
theorem all_take {l : List UInt8} (h : l.all isDig = true) (k : Nat) : (l.take k).all isDig = true := by
  rw [List.all_eq_true] at h ⊢; exact fun c hc => h c (List.mem_of_mem_take hc)
theorem all_drop {l : List UInt8} (h : l.all isDig = true) (k : Nat) : (l.drop k).all isDig = true := by
  rw [List.all_eq_true] at h ⊢; exact fun c hc => h c (List.mem_of_mem_drop hc)

theorem natAdd_one (m : Nat) (w : World) (hm : (dec m).length ≤ 549755813888) :
    Calls Tryd.prog 70 #[.string (ofL (dec m)), .string ⟨#[49]⟩] w fun e w' => e = .returned (.string (ofL (dec (m + 1)))) ∧ Below w.heap.size w w' := by
  have h := natAdd_any (ofL (dec m)) ⟨#[49]⟩ w (by rw [bs_ofL]; exact dec_all m) (by decide) (by rw [size_ofL]; exact hm) (by decide)
  rw [bs_ofL, val_dec, show val (bs ⟨#[49]⟩) = 1 from by decide] at h
  exact h

/-- the string of a canonical number, its last digit -/
theorem last_dec (m : Nat) : ∃ q : ByteArray, ofL (dec m) = q ∧ bs q = dec m ∧ ∃ h : 0 < q.size, q[q.size - 1].toNat = 48 + m % 10 := by
  refine ⟨ofL (dec m), rfl, rfl, ?_⟩
  have hl := dec_len m
  have hs := size_ofL (dec m)
  refine ⟨by omega, ?_⟩
  have e : (ofL (dec m))[(ofL (dec m)).size - 1]'(by omega) = (dec m)[(dec m).length - 1]'(by omega) := by
    rw [← bs_get (ofL (dec m)) _ (by omega)]
    congr 1
    try rw [hs]
  rw [e, dec_last m, ofNat_dig (Nat.mod_lt _ (by omega))]

set_option maxRecDepth 10000 in
set_option maxHeartbeats 1000000 in
theorem natRound_any (s : ByteArray) (n : Nat) (w : World) (hc : Canon (bs s)) (hs : s.size ≤ 274877906944) (hn : n ≤ 274877906944) :
    Calls Tryd.prog 90 #[.string s, .int .i64 (n : Int)] w fun e w' => e = .returned (.string (ofL (dec (roundV (val (bs s)) n)))) ∧ Below w.heap.size w w' := by
  by_cases h0 : n = 0
  · have e : s = ofL (dec (roundV (val (bs s)) n)) := by rw [h0, roundV_zero, canon_dec hc, ofL_bs]
    rw [← e]
    have hnb : ((n : Int) == 0) = true := beq_iff_eq.2 (by omega)
    clear e hc h0
    go_enter Tryd.func90, Tryd.ntmps90
    go_wp2
    go_ret
    exact ⟨rfl, Below.refl _ _⟩
  · have hnb : ((n : Int) == 0) = false := beq_eq_false_iff_ne.2 (by omega)
    by_cases hbig : s.size < n
    · have hlt := val_lt (bs s) hc.dig
      rw [bs_length] at hlt
      have e : ofL (dec (roundV (val (bs s)) n)) = ⟨#[48]⟩ := by rw [roundV_small hlt hbig, dec_zero]; rfl
      rw [e]
      clear e hc h0 hlt
      go_enter Tryd.func90, Tryd.ntmps90
      go_wp2
      go_ret
      exact ⟨rfl, Below.refl _ _⟩
    · obtain ⟨m, hm⟩ : ∃ m, n = m + 1 := ⟨n - 1, by omega⟩
      obtain ⟨f1, f2⟩ := val_front hc.dig (n := n) (by rw [bs_length]; omega)
      rw [bs_length] at f1 f2
      have HTR := Lib.hid (show trimZ (bs (s.extract 0 (s.size - n))) = dec (val (bs s) / 10 ^ n) by rw [bs_front, trimZ_dec _ (all_take hc.dig _), f1])
      have hlx : ((bs s).drop (s.size - n)).length = n := by rw [List.length_drop, bs_length]; omega
      have HRC := Lib.hid (round_three (n := m) (all_drop hc.dig _) (hlx.trans hm) (by rw [← hm]; exact f2))
      rw [← hm] at HRC
      obtain ⟨q, hq, hqb, hq0, hql⟩ := last_dec (val (bs s) / 10 ^ n)
      have hlen : (dec (val (bs s) / 10 ^ n)).length ≤ s.size + 1 := by
        rw [← f1, ← trimZ_dec _ (all_take hc.dig _)]
        have := trimZ_len ((bs s).take (s.size - n))
        rw [List.length_take, bs_length] at this
        omega
      obtain ⟨Q, hQ⟩ : ∃ Q, val (bs s) / 10 ^ n = Q := ⟨_, rfl⟩
      rw [hQ] at hq hqb hql hlen HTR HRC
      have HQ := Lib.hid hq
      have HLEN := Lib.hid hlen
      have htail := bs_tail s (s.size - n)
      obtain ⟨y, hy⟩ : ∃ y, s.extract (s.size - n) s.size = y := ⟨_, rfl⟩
      rw [← htail, hy] at HRC
      have HY := Lib.hid hy
      have hz := size_ofL (zs m)
      rw [zs_len] at hz
      have hno : ¬ (9223372036854775807 < 1 + m) := by omega
      obtain ⟨V, hV⟩ : ∃ V, roundV (val (bs s)) n = V := ⟨_, rfl⟩
      rw [hV] at HRC ⊢
      have hi1 : 0 ≤ (s.size : Int) - (n : Int) := by omega
      have hi2 : (s.size : Int) - (n : Int) ≤ (s.size : Int) := by omega
      have hi3 : ((s.size : Int) - (n : Int)).toNat = s.size - n := by omega
      have hi4 : (n : Int) - 1 = (m : Int) := by omega
      have hno : ¬ (9223372036854775807 < 1 + m) := by omega
      have hqs : q.size ≤ 274877906945 := by
        rw [← hq, size_ofL]; omega
      have hqw : wrap64 ((q.size : Int) - 1) = (q.size : Int) - 1 := IntWalk.wrap64_in _ (by omega)
      have hqt : ((q.size : Int) - 1).toNat = q.size - 1 := by omega
      have hq1 : 0 ≤ (q.size : Int) - 1 := by omega
      have hq2 : (q.size : Int) - 1 < (q.size : Int) := by omega
      have hq3 : 48 ≤ (q[q.size - 1].toNat : Int) := by omega
      have hq4 : (q[q.size - 1].toNat : Int) ≤ 57 := by omega
      have hHl : ((⟨#[53]⟩ : ByteArray) ++ ofL (zs m)).toList = 53 :: zs m := by rw [toList_bs, bs_app, bs_ofL]; rfl
      have hyl : y.toList = bs y := toList_bs y
      have HADD := Lib.hid (fun (w : World) => by rw [← hq]; exact natAdd_one Q w (by omega) : ∀ w : World, Calls Tryd.prog 70 #[.string q, .string ⟨#[49]⟩] w fun e w' => e = .returned (.string (ofL (dec (Q + 1)))) ∧ Below w.heap.size w w')
      rcases HRC.out with ⟨r1, r2, r3⟩ | ⟨r1, r2, r3⟩ | ⟨r1, r2, r3⟩ | ⟨r1, r2, r3⟩
      · have t1 : Op.bytesLess y.toList ((⟨#[53]⟩ : ByteArray) ++ ofL (zs m)).toList = false := by rw [hHl, hyl]; exact r1
        have t2 : ¬ (y.toList = ((⟨#[53]⟩ : ByteArray) ++ ofL (zs m)).toList) := by rw [hHl, hyl]; exact r2
        have R3 := Lib.hid r3
        clear hq hqb hlen htail hy hV hQ hlx f1 f2 hc h0 hm r1 r2 r3 hHl hyl HRC hql
        go_enter Tryd.func90, Tryd.ntmps90
        go_wp2_with fail
        go_quiet ((go_at_call 51; exact Calls.quiet_of_same (trimNat_any _ _)))
        rw [HTR.out, HQ.out, HY.out]
        go_wp2_with fail
        refine (repeat_zs m _ (by omega)).mono ?_
        rintro e w1 ⟨rfl, hb1⟩
        have HB1 := Lib.hid ((below_drewN (Below.refl _ w) nq).trans hb1)
        clear hb1
        go_wp2_with fail
        refine (HADD.out _).mono ?_
        rintro e w2 ⟨rfl, hb2⟩
        have HB2 := Lib.hid (HB1.out.trans (hb2.mono HB1.out.size))
        clear hb2
        go_wp2
        go_ret
        exact ⟨ret_str (by rw [R3.out]), HB2.out⟩
      · have t1 : Op.bytesLess y.toList ((⟨#[53]⟩ : ByteArray) ++ ofL (zs m)).toList = true := by rw [hHl, hyl]; exact r1
        have t2 : ¬ (y.toList = ((⟨#[53]⟩ : ByteArray) ++ ofL (zs m)).toList) := by rw [hHl, hyl]; exact r2
        have R3 := Lib.hid r3
        clear hq hqb hlen htail hy hV hQ hlx f1 f2 hc h0 hm r1 r2 r3 hHl hyl HRC hql
        go_enter Tryd.func90, Tryd.ntmps90
        go_wp2_with fail
        go_quiet ((go_at_call 51; exact Calls.quiet_of_same (trimNat_any _ _)))
        rw [HTR.out, HQ.out, HY.out]
        go_wp2_with fail
        refine (repeat_zs m _ (by omega)).mono ?_
        rintro e w1 ⟨rfl, hb1⟩
        have HB1 := Lib.hid ((below_drewN (Below.refl _ w) nq).trans hb1)
        clear hb1
        go_wp2
        go_ret
        exact ⟨ret_str (by rw [R3.out, HQ.out]), HB1.out⟩
      · have t2 : y.toList = ((⟨#[53]⟩ : ByteArray) ++ ofL (zs m)).toList := by rw [hHl, hyl]; exact r1
        have t3 : Op.bytesLess ((⟨#[53]⟩ : ByteArray) ++ ofL (zs m)).toList ((⟨#[53]⟩ : ByteArray) ++ ofL (zs m)).toList = false := less_self _
        have t1 : Op.bytesLess y.toList ((⟨#[53]⟩ : ByteArray) ++ ofL (zs m)).toList = false := by rw [t2]; exact less_self _
        have t4 : (((q[q.size - 1].toNat : Int) - 48) % 2 == 1) = true := by first | (rw [beq_iff_eq]; omega) | (rw [beq_eq_false_iff_ne]; omega)
        have R3 := Lib.hid r3
        clear hq hqb hlen htail hy hV hQ hlx f1 f2 hc h0 hm r1 r2 r3 hHl hyl HRC hql
        go_enter Tryd.func90, Tryd.ntmps90
        go_wp2_with fail
        go_quiet ((go_at_call 51; exact Calls.quiet_of_same (trimNat_any _ _)))
        rw [HTR.out, HQ.out, HY.out]
        go_wp2_with fail
        refine (repeat_zs m _ (by omega)).mono ?_
        rintro e w1 ⟨rfl, hb1⟩
        have HB1 := Lib.hid ((below_drewN (Below.refl _ w) nq).trans hb1)
        clear hb1
        go_wp2_with fail
        refine (HADD.out _).mono ?_
        rintro e w2 ⟨rfl, hb2⟩
        have HB2 := Lib.hid (HB1.out.trans (hb2.mono HB1.out.size))
        clear hb2
        go_wp2
        go_ret
        exact ⟨ret_str (by rw [R3.out]), HB2.out⟩
      · have t2 : y.toList = ((⟨#[53]⟩ : ByteArray) ++ ofL (zs m)).toList := by rw [hHl, hyl]; exact r1
        have t3 : Op.bytesLess ((⟨#[53]⟩ : ByteArray) ++ ofL (zs m)).toList ((⟨#[53]⟩ : ByteArray) ++ ofL (zs m)).toList = false := less_self _
        have t1 : Op.bytesLess y.toList ((⟨#[53]⟩ : ByteArray) ++ ofL (zs m)).toList = false := by rw [t2]; exact less_self _
        have t4 : (((q[q.size - 1].toNat : Int) - 48) % 2 == 1) = false := by first | (rw [beq_iff_eq]; omega) | (rw [beq_eq_false_iff_ne]; omega)
        have R3 := Lib.hid r3
        clear hq hqb hlen htail hy hV hQ hlx f1 f2 hc h0 hm r1 r2 r3 hHl hyl HRC hql
        go_enter Tryd.func90, Tryd.ntmps90
        go_wp2_with fail
        go_quiet ((go_at_call 51; exact Calls.quiet_of_same (trimNat_any _ _)))
        rw [HTR.out, HQ.out, HY.out]
        go_wp2_with fail
        refine (repeat_zs m _ (by omega)).mono ?_
        rintro e w1 ⟨rfl, hb1⟩
        have HB1 := Lib.hid ((below_drewN (Below.refl _ w) nq).trans hb1)
        clear hb1
        go_wp2
        go_ret
        exact ⟨ret_str (by rw [R3.out, HQ.out]), HB1.out⟩
end Go.Proofs.YtjjpdoabagnmoaaDoor
