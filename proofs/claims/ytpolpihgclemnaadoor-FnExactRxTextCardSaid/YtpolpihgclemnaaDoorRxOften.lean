/-
  The contracts of how often, as it is written: the program's timesText, the reference's l05Often; of the reference's l05Char. Conditions: the numbers are Go's and not negative (but -1 for no end); the table of powers of ten stands in memory.
-/
import Derived.Test.YtpolpihgclemnaaDoorRxTxt
import Derived.Test.YtpolpihgclemnaaDoorPowTab
import Derived.Test.YtpolpihgclemnaaDoorCased
namespace Go.Proofs.YtpolpihgclemnaaDoor
open Go.RowKit
open Go.Lib hiding intOf
set_option linter.unusedVariables false
set_option linter.unusedSimpArgs false

theorem numL_len (n : Int) (h0 : -9223372036854775808 ≤ n) (h1 : n ≤ 9223372036854775807) : (numL n).length ≤ 20 := by
  have h := dec_len_le 19 n.natAbs (by omega) (by omega)
  unfold numL
  split
  · simp only [List.length_cons]; omega
  · omega
theorem oftB_len {lo hi : Int} (h0 : Nd64 lo) (h1 : Nd64 hi) : (oftB lo hi).length ≤ 50 := by
  have a := numL_len lo h0.1 h0.2
  have b := numL_len hi h1.1 h1.2
  unfold oftB
  repeat' split
  all_goals (simp only [List.length_cons, List.length_append, List.length_nil]; omega)
set_option maxRecDepth 20000 in
theorem timesText_any (lo hi : Int) (w : World) (h0 : Nd64 lo) (h1 : Nd64 hi) (hlo : 0 ≤ lo) (hhi : -1 ≤ hi) (hT : PowTab w) :
    Calls Tryd.prog 34 #[.int .i64 lo, .int .i64 hi] w fun e w' => e = .returned (.string (ofL (oftB lo hi))) ∧ Below w.heap.size w w' := by
  have hz0 := numL_len lo h0.1 h0.2
  have hz1 := numL_len hi h1.1 h1.2
  have HN0 := Lib.hid (fun W (hb : Below w.heap.size w W) => itoa_any lo W h0.1 h0.2 (hT.below hb))
  have HN1 := Lib.hid (fun W (hb : Below w.heap.size w W) => itoa_any hi W h1.1 h1.2 (hT.below hb))
  obtain ⟨v, hv⟩ : ∃ v, ofL (oftB lo hi) = v := ⟨_, rfl⟩
  have HV := Lib.hid hv
  rw [hv]
  have hs0 : (ofL (numL lo)).size ≤ 20 := by rw [size_ofL]; exact hz0
  have hs1 : (ofL (numL hi)).size ≤ 20 := by rw [size_ofL]; exact hz1
  clear hv h0 h1 hz0 hz1 hT
  by_cases a : hi = -1
  · by_cases b : lo = 0
    · have HE : Hid ((⟨#[42]⟩ : ByteArray) = v) := Lib.hid (by rw [← HV.out]; unfold oftB; rw [if_pos ⟨b, a⟩]; exact bs_inj (by simp [bs, ofL]))
      subst a
      subst b
      clear HN0 HN1 hs0 hs1
      go_enter Tryd.func34, Tryd.ntmps34
      go_wp2
      go_ret
      rw [HE.out]
      exact ⟨rfl, Below.refl _ _⟩
    by_cases c : lo = 1
    · have HE : Hid ((⟨#[43]⟩ : ByteArray) = v) := Lib.hid (by rw [← HV.out]; unfold oftB; rw [if_neg (by omega), if_pos ⟨c, a⟩]; exact bs_inj (by simp [bs, ofL]))
      subst a
      subst c
      clear HN0 HN1 hs0 hs1
      go_enter Tryd.func34, Tryd.ntmps34
      go_wp2
      go_ret
      rw [HE.out]
      exact ⟨rfl, Below.refl _ _⟩
    · have HE : Hid ((⟨#[123]⟩ : ByteArray) ++ ofL (numL lo) ++ (⟨#[44, 125]⟩ : ByteArray) = v) := Lib.hid (by rw [← HV.out]; unfold oftB; rw [if_neg (by omega), if_neg (by omega), if_neg (by omega), if_pos a]; exact bs_inj (by simp [bs, ofL]))
      subst a
      have e0 : (lo == 0) = false := by rw [beq_eq_false_iff_ne]; exact b
      have e1 : (lo == 1) = false := by rw [beq_eq_false_iff_ne]; exact c
      have e2 : (lo == -1) = false := by rw [beq_eq_false_iff_ne]; omega
      obtain ⟨t0, ht0⟩ : ∃ t, ofL (numL lo) = t := ⟨_, rfl⟩
      rw [ht0] at HN0 HE hs0
      clear ht0
      go_enter Tryd.func34, Tryd.ntmps34
      go_wp2_with fail
      refine (HN0.out _ (Below.refl _ _)).mono ?_
      rintro e w0 ⟨rfl, hb0⟩
      have HB := Lib.hid hb0
      clear hb0
      go_wp2
      go_ret
      rw [HE.out]
      exact ⟨rfl, HB.out⟩
  by_cases b : lo = 0
  · by_cases c : hi = 1
    · have HE : Hid ((⟨#[63]⟩ : ByteArray) = v) := Lib.hid (by rw [← HV.out]; unfold oftB; rw [if_neg (by omega), if_neg (by omega), if_pos ⟨b, c⟩]; exact bs_inj (by simp [bs, ofL]))
      subst b
      subst c
      clear HN0 HN1 hs0 hs1
      go_enter Tryd.func34, Tryd.ntmps34
      go_wp2
      go_ret
      rw [HE.out]
      exact ⟨rfl, Below.refl _ _⟩
    by_cases d : hi = 0
    · have HE : Hid ((⟨#[123]⟩ : ByteArray) ++ ofL (numL lo) ++ (⟨#[125]⟩ : ByteArray) = v) := Lib.hid (by rw [← HV.out]; unfold oftB; rw [if_neg (by omega), if_neg (by omega), if_neg (by omega), if_neg a, if_pos (by omega)]; exact bs_inj (by simp [bs, ofL]))
      subst b
      subst d
      obtain ⟨t0, ht0⟩ : ∃ t, ofL (numL 0) = t := ⟨_, rfl⟩
      rw [ht0] at HN0 HE hs0
      clear ht0
      go_enter Tryd.func34, Tryd.ntmps34
      go_wp2_with fail
      refine (HN0.out _ (Below.refl _ _)).mono ?_
      rintro e w0 ⟨rfl, hb0⟩
      have HB := Lib.hid hb0
      clear hb0
      go_wp2
      go_ret
      rw [HE.out]
      exact ⟨rfl, HB.out⟩
    · have HE : Hid ((⟨#[123]⟩ : ByteArray) ++ ofL (numL lo) ++ (⟨#[44]⟩ : ByteArray) ++ ofL (numL hi) ++ (⟨#[125]⟩ : ByteArray) = v) := Lib.hid (by rw [← HV.out]; unfold oftB; rw [if_neg (by omega), if_neg (by omega), if_neg (by omega), if_neg a, if_neg (by omega)]; exact bs_inj (by simp [bs, ofL]))
      subst b
      have e0 : (hi == -1) = false := by rw [beq_eq_false_iff_ne]; exact a
      have e1 : (hi == 1) = false := by rw [beq_eq_false_iff_ne]; exact c
      have e2 : ((0 : Int) == hi) = false := by rw [beq_eq_false_iff_ne]; omega
      obtain ⟨t0, ht0⟩ : ∃ t, ofL (numL 0) = t := ⟨_, rfl⟩
      rw [ht0] at HN0 HE hs0
      clear ht0
      obtain ⟨t1, ht1⟩ : ∃ t, ofL (numL hi) = t := ⟨_, rfl⟩
      rw [ht1] at HN1 HE hs1
      clear ht1
      go_enter Tryd.func34, Tryd.ntmps34
      go_wp2_with fail
      refine (HN0.out _ (Below.refl _ _)).mono ?_
      rintro e w0 ⟨rfl, hb0⟩
      have HB := Lib.hid hb0
      clear hb0
      go_wp2_with fail
      refine (HN1.out _ HB.out).mono ?_
      rintro e w1 ⟨rfl, hb1⟩
      have HB2 := Lib.hid (HB.out.trans (hb1.mono HB.out.size))
      clear hb1
      go_wp2
      go_ret
      rw [HE.out]
      exact ⟨rfl, HB2.out⟩
  by_cases c : lo = 1
  · by_cases d : hi = 1
    · have HE : Hid ((⟨#[123]⟩ : ByteArray) ++ ofL (numL lo) ++ (⟨#[125]⟩ : ByteArray) = v) := Lib.hid (by rw [← HV.out]; unfold oftB; rw [if_neg (by omega), if_neg (by omega), if_neg (by omega), if_neg a, if_pos (by omega)]; exact bs_inj (by simp [bs, ofL]))
      subst c
      subst d
      obtain ⟨t0, ht0⟩ : ∃ t, ofL (numL 1) = t := ⟨_, rfl⟩
      rw [ht0] at HN0 HE hs0
      clear ht0
      go_enter Tryd.func34, Tryd.ntmps34
      go_wp2_with fail
      refine (HN0.out _ (Below.refl _ _)).mono ?_
      rintro e w0 ⟨rfl, hb0⟩
      have HB := Lib.hid hb0
      clear hb0
      go_wp2
      go_ret
      rw [HE.out]
      exact ⟨rfl, HB.out⟩
    · have HE : Hid ((⟨#[123]⟩ : ByteArray) ++ ofL (numL lo) ++ (⟨#[44]⟩ : ByteArray) ++ ofL (numL hi) ++ (⟨#[125]⟩ : ByteArray) = v) := Lib.hid (by rw [← HV.out]; unfold oftB; rw [if_neg (by omega), if_neg (by omega), if_neg (by omega), if_neg a, if_neg (by omega)]; exact bs_inj (by simp [bs, ofL]))
      subst c
      have e0 : (hi == -1) = false := by rw [beq_eq_false_iff_ne]; exact a
      have e1 : ((1 : Int) == hi) = false := by rw [beq_eq_false_iff_ne]; omega
      obtain ⟨t0, ht0⟩ : ∃ t, ofL (numL 1) = t := ⟨_, rfl⟩
      rw [ht0] at HN0 HE hs0
      clear ht0
      obtain ⟨t1, ht1⟩ : ∃ t, ofL (numL hi) = t := ⟨_, rfl⟩
      rw [ht1] at HN1 HE hs1
      clear ht1
      go_enter Tryd.func34, Tryd.ntmps34
      go_wp2_with fail
      refine (HN0.out _ (Below.refl _ _)).mono ?_
      rintro e w0 ⟨rfl, hb0⟩
      have HB := Lib.hid hb0
      clear hb0
      go_wp2_with fail
      refine (HN1.out _ HB.out).mono ?_
      rintro e w1 ⟨rfl, hb1⟩
      have HB2 := Lib.hid (HB.out.trans (hb1.mono HB.out.size))
      clear hb1
      go_wp2
      go_ret
      rw [HE.out]
      exact ⟨rfl, HB2.out⟩
  by_cases d : lo = hi
  · have HE : Hid ((⟨#[123]⟩ : ByteArray) ++ ofL (numL lo) ++ (⟨#[125]⟩ : ByteArray) = v) := Lib.hid (by rw [← HV.out]; unfold oftB; rw [if_neg (by omega), if_neg (by omega), if_neg (by omega), if_neg a, if_pos d]; exact bs_inj (by simp [bs, ofL]))
    subst d
    have e0 : (lo == 0) = false := by rw [beq_eq_false_iff_ne]; exact b
    have e1 : (lo == 1) = false := by rw [beq_eq_false_iff_ne]; exact c
    have e2 : (lo == -1) = false := by rw [beq_eq_false_iff_ne]; exact a
    obtain ⟨t0, ht0⟩ : ∃ t, ofL (numL lo) = t := ⟨_, rfl⟩
    rw [ht0] at HN0 HE hs0
    clear ht0
    go_enter Tryd.func34, Tryd.ntmps34
    go_wp2_with fail
    refine (HN0.out _ (Below.refl _ _)).mono ?_
    rintro e w0 ⟨rfl, hb0⟩
    have HB := Lib.hid hb0
    clear hb0
    go_wp2
    go_ret
    rw [HE.out]
    exact ⟨rfl, HB.out⟩
  · have HE : Hid ((⟨#[123]⟩ : ByteArray) ++ ofL (numL lo) ++ (⟨#[44]⟩ : ByteArray) ++ ofL (numL hi) ++ (⟨#[125]⟩ : ByteArray) = v) := Lib.hid (by rw [← HV.out]; unfold oftB; rw [if_neg (by omega), if_neg (by omega), if_neg (by omega), if_neg a, if_neg d]; exact bs_inj (by simp [bs, ofL]))
    have e0 : (lo == 0) = false := by rw [beq_eq_false_iff_ne]; exact b
    have e1 : (lo == 1) = false := by rw [beq_eq_false_iff_ne]; exact c
    have e2 : (hi == -1) = false := by rw [beq_eq_false_iff_ne]; exact a
    have e3 : (lo == hi) = false := by rw [beq_eq_false_iff_ne]; exact d
    obtain ⟨t0, ht0⟩ : ∃ t, ofL (numL lo) = t := ⟨_, rfl⟩
    rw [ht0] at HN0 HE hs0
    clear ht0
    obtain ⟨t1, ht1⟩ : ∃ t, ofL (numL hi) = t := ⟨_, rfl⟩
    rw [ht1] at HN1 HE hs1
    clear ht1
    go_enter Tryd.func34, Tryd.ntmps34
    go_wp2_with fail
    refine (HN0.out _ (Below.refl _ _)).mono ?_
    rintro e w0 ⟨rfl, hb0⟩
    have HB := Lib.hid hb0
    clear hb0
    go_wp2_with fail
    refine (HN1.out _ HB.out).mono ?_
    rintro e w1 ⟨rfl, hb1⟩
    have HB2 := Lib.hid (HB.out.trans (hb1.mono HB.out.size))
    clear hb1
    go_wp2
    go_ret
    rw [HE.out]
    exact ⟨rfl, HB2.out⟩
set_option maxRecDepth 20000 in
theorem l05Often_any (lo hi : Int) (w : World) (h0 : Nd64 lo) (h1 : Nd64 hi) (hlo : 0 ≤ lo) (hhi : -1 ≤ hi) :
    Calls Tryd.prog 13 #[.int .i64 lo, .int .i64 hi] w fun e w' => e = .returned (.string (ofL (oftB lo hi))) ∧ Below w.heap.size w w' := by
  have hz0 := numL_len lo h0.1 h0.2
  have hz1 := numL_len hi h1.1 h1.2
  have HN0 := Lib.hid (fun W (hb : Below w.heap.size w W) => specNumText_any lo W h0.1 h0.2)
  have HN1 := Lib.hid (fun W (hb : Below w.heap.size w W) => specNumText_any hi W h1.1 h1.2)
  obtain ⟨v, hv⟩ : ∃ v, ofL (oftB lo hi) = v := ⟨_, rfl⟩
  have HV := Lib.hid hv
  rw [hv]
  have hs0 : (ofL (numL lo)).size ≤ 20 := by rw [size_ofL]; exact hz0
  have hs1 : (ofL (numL hi)).size ≤ 20 := by rw [size_ofL]; exact hz1
  clear hv h0 h1 hz0 hz1
  by_cases a : hi = -1
  · by_cases b : lo = 0
    · have HE : Hid ((⟨#[42]⟩ : ByteArray) = v) := Lib.hid (by rw [← HV.out]; unfold oftB; rw [if_pos ⟨b, a⟩]; exact bs_inj (by simp [bs, ofL]))
      subst a
      subst b
      clear HN0 HN1 hs0 hs1
      go_enter Tryd.func13, Tryd.ntmps13
      go_wp2
      go_ret
      rw [HE.out]
      exact ⟨rfl, Below.refl _ _⟩
    by_cases c : lo = 1
    · have HE : Hid ((⟨#[43]⟩ : ByteArray) = v) := Lib.hid (by rw [← HV.out]; unfold oftB; rw [if_neg (by omega), if_pos ⟨c, a⟩]; exact bs_inj (by simp [bs, ofL]))
      subst a
      subst c
      clear HN0 HN1 hs0 hs1
      go_enter Tryd.func13, Tryd.ntmps13
      go_wp2
      go_ret
      rw [HE.out]
      exact ⟨rfl, Below.refl _ _⟩
    · have HE : Hid ((⟨#[123]⟩ : ByteArray) ++ ofL (numL lo) ++ (⟨#[44, 125]⟩ : ByteArray) = v) := Lib.hid (by rw [← HV.out]; unfold oftB; rw [if_neg (by omega), if_neg (by omega), if_neg (by omega), if_pos a]; exact bs_inj (by simp [bs, ofL]))
      subst a
      have e0 : (lo == 0) = false := by rw [beq_eq_false_iff_ne]; exact b
      have e1 : (lo == 1) = false := by rw [beq_eq_false_iff_ne]; exact c
      have e2 : (lo == -1) = false := by rw [beq_eq_false_iff_ne]; omega
      obtain ⟨t0, ht0⟩ : ∃ t, ofL (numL lo) = t := ⟨_, rfl⟩
      rw [ht0] at HN0 HE hs0
      clear ht0
      go_enter Tryd.func13, Tryd.ntmps13
      go_wp2_with fail
      refine (HN0.out _ (Below.refl _ _)).mono ?_
      rintro e w0 ⟨rfl, hb0⟩
      have HB := Lib.hid hb0
      clear hb0
      go_wp2
      go_ret
      rw [HE.out]
      exact ⟨rfl, HB.out⟩
  by_cases b : lo = 0
  · by_cases c : hi = 1
    · have HE : Hid ((⟨#[63]⟩ : ByteArray) = v) := Lib.hid (by rw [← HV.out]; unfold oftB; rw [if_neg (by omega), if_neg (by omega), if_pos ⟨b, c⟩]; exact bs_inj (by simp [bs, ofL]))
      subst b
      subst c
      clear HN0 HN1 hs0 hs1
      go_enter Tryd.func13, Tryd.ntmps13
      go_wp2
      go_ret
      rw [HE.out]
      exact ⟨rfl, Below.refl _ _⟩
    by_cases d : hi = 0
    · have HE : Hid ((⟨#[123]⟩ : ByteArray) ++ ofL (numL lo) ++ (⟨#[125]⟩ : ByteArray) = v) := Lib.hid (by rw [← HV.out]; unfold oftB; rw [if_neg (by omega), if_neg (by omega), if_neg (by omega), if_neg a, if_pos (by omega)]; exact bs_inj (by simp [bs, ofL]))
      subst b
      subst d
      obtain ⟨t0, ht0⟩ : ∃ t, ofL (numL 0) = t := ⟨_, rfl⟩
      rw [ht0] at HN0 HE hs0
      clear ht0
      go_enter Tryd.func13, Tryd.ntmps13
      go_wp2_with fail
      refine (HN0.out _ (Below.refl _ _)).mono ?_
      rintro e w0 ⟨rfl, hb0⟩
      have HB := Lib.hid hb0
      clear hb0
      go_wp2
      go_ret
      rw [HE.out]
      exact ⟨rfl, HB.out⟩
    · have HE : Hid ((⟨#[123]⟩ : ByteArray) ++ ofL (numL lo) ++ (⟨#[44]⟩ : ByteArray) ++ ofL (numL hi) ++ (⟨#[125]⟩ : ByteArray) = v) := Lib.hid (by rw [← HV.out]; unfold oftB; rw [if_neg (by omega), if_neg (by omega), if_neg (by omega), if_neg a, if_neg (by omega)]; exact bs_inj (by simp [bs, ofL]))
      subst b
      have e0 : (hi == -1) = false := by rw [beq_eq_false_iff_ne]; exact a
      have e1 : (hi == 1) = false := by rw [beq_eq_false_iff_ne]; exact c
      have e2 : ((0 : Int) == hi) = false := by rw [beq_eq_false_iff_ne]; omega
      obtain ⟨t0, ht0⟩ : ∃ t, ofL (numL 0) = t := ⟨_, rfl⟩
      rw [ht0] at HN0 HE hs0
      clear ht0
      obtain ⟨t1, ht1⟩ : ∃ t, ofL (numL hi) = t := ⟨_, rfl⟩
      rw [ht1] at HN1 HE hs1
      clear ht1
      go_enter Tryd.func13, Tryd.ntmps13
      go_wp2_with fail
      refine (HN0.out _ (Below.refl _ _)).mono ?_
      rintro e w0 ⟨rfl, hb0⟩
      have HB := Lib.hid hb0
      clear hb0
      go_wp2_with fail
      refine (HN1.out _ HB.out).mono ?_
      rintro e w1 ⟨rfl, hb1⟩
      have HB2 := Lib.hid (HB.out.trans (hb1.mono HB.out.size))
      clear hb1
      go_wp2
      go_ret
      rw [HE.out]
      exact ⟨rfl, HB2.out⟩
  by_cases c : lo = 1
  · by_cases d : hi = 1
    · have HE : Hid ((⟨#[123]⟩ : ByteArray) ++ ofL (numL lo) ++ (⟨#[125]⟩ : ByteArray) = v) := Lib.hid (by rw [← HV.out]; unfold oftB; rw [if_neg (by omega), if_neg (by omega), if_neg (by omega), if_neg a, if_pos (by omega)]; exact bs_inj (by simp [bs, ofL]))
      subst c
      subst d
      obtain ⟨t0, ht0⟩ : ∃ t, ofL (numL 1) = t := ⟨_, rfl⟩
      rw [ht0] at HN0 HE hs0
      clear ht0
      go_enter Tryd.func13, Tryd.ntmps13
      go_wp2_with fail
      refine (HN0.out _ (Below.refl _ _)).mono ?_
      rintro e w0 ⟨rfl, hb0⟩
      have HB := Lib.hid hb0
      clear hb0
      go_wp2
      go_ret
      rw [HE.out]
      exact ⟨rfl, HB.out⟩
    · have HE : Hid ((⟨#[123]⟩ : ByteArray) ++ ofL (numL lo) ++ (⟨#[44]⟩ : ByteArray) ++ ofL (numL hi) ++ (⟨#[125]⟩ : ByteArray) = v) := Lib.hid (by rw [← HV.out]; unfold oftB; rw [if_neg (by omega), if_neg (by omega), if_neg (by omega), if_neg a, if_neg (by omega)]; exact bs_inj (by simp [bs, ofL]))
      subst c
      have e0 : (hi == -1) = false := by rw [beq_eq_false_iff_ne]; exact a
      have e1 : ((1 : Int) == hi) = false := by rw [beq_eq_false_iff_ne]; omega
      obtain ⟨t0, ht0⟩ : ∃ t, ofL (numL 1) = t := ⟨_, rfl⟩
      rw [ht0] at HN0 HE hs0
      clear ht0
      obtain ⟨t1, ht1⟩ : ∃ t, ofL (numL hi) = t := ⟨_, rfl⟩
      rw [ht1] at HN1 HE hs1
      clear ht1
      go_enter Tryd.func13, Tryd.ntmps13
      go_wp2_with fail
      refine (HN0.out _ (Below.refl _ _)).mono ?_
      rintro e w0 ⟨rfl, hb0⟩
      have HB := Lib.hid hb0
      clear hb0
      go_wp2_with fail
      refine (HN1.out _ HB.out).mono ?_
      rintro e w1 ⟨rfl, hb1⟩
      have HB2 := Lib.hid (HB.out.trans (hb1.mono HB.out.size))
      clear hb1
      go_wp2
      go_ret
      rw [HE.out]
      exact ⟨rfl, HB2.out⟩
  by_cases d : lo = hi
  · have HE : Hid ((⟨#[123]⟩ : ByteArray) ++ ofL (numL lo) ++ (⟨#[125]⟩ : ByteArray) = v) := Lib.hid (by rw [← HV.out]; unfold oftB; rw [if_neg (by omega), if_neg (by omega), if_neg (by omega), if_neg a, if_pos d]; exact bs_inj (by simp [bs, ofL]))
    subst d
    have e0 : (lo == 0) = false := by rw [beq_eq_false_iff_ne]; exact b
    have e1 : (lo == 1) = false := by rw [beq_eq_false_iff_ne]; exact c
    have e2 : (lo == -1) = false := by rw [beq_eq_false_iff_ne]; exact a
    obtain ⟨t0, ht0⟩ : ∃ t, ofL (numL lo) = t := ⟨_, rfl⟩
    rw [ht0] at HN0 HE hs0
    clear ht0
    go_enter Tryd.func13, Tryd.ntmps13
    go_wp2_with fail
    refine (HN0.out _ (Below.refl _ _)).mono ?_
    rintro e w0 ⟨rfl, hb0⟩
    have HB := Lib.hid hb0
    clear hb0
    go_wp2
    go_ret
    rw [HE.out]
    exact ⟨rfl, HB.out⟩
  · have HE : Hid ((⟨#[123]⟩ : ByteArray) ++ ofL (numL lo) ++ (⟨#[44]⟩ : ByteArray) ++ ofL (numL hi) ++ (⟨#[125]⟩ : ByteArray) = v) := Lib.hid (by rw [← HV.out]; unfold oftB; rw [if_neg (by omega), if_neg (by omega), if_neg (by omega), if_neg a, if_neg d]; exact bs_inj (by simp [bs, ofL]))
    have e0 : (lo == 0) = false := by rw [beq_eq_false_iff_ne]; exact b
    have e1 : (lo == 1) = false := by rw [beq_eq_false_iff_ne]; exact c
    have e2 : (hi == -1) = false := by rw [beq_eq_false_iff_ne]; exact a
    have e3 : (lo == hi) = false := by rw [beq_eq_false_iff_ne]; exact d
    obtain ⟨t0, ht0⟩ : ∃ t, ofL (numL lo) = t := ⟨_, rfl⟩
    rw [ht0] at HN0 HE hs0
    clear ht0
    obtain ⟨t1, ht1⟩ : ∃ t, ofL (numL hi) = t := ⟨_, rfl⟩
    rw [ht1] at HN1 HE hs1
    clear ht1
    go_enter Tryd.func13, Tryd.ntmps13
    go_wp2_with fail
    refine (HN0.out _ (Below.refl _ _)).mono ?_
    rintro e w0 ⟨rfl, hb0⟩
    have HB := Lib.hid hb0
    clear hb0
    go_wp2_with fail
    refine (HN1.out _ HB.out).mono ?_
    rintro e w1 ⟨rfl, hb1⟩
    have HB2 := Lib.hid (HB.out.trans (hb1.mono HB.out.size))
    clear hb1
    go_wp2
    go_ret
    rw [HE.out]
    exact ⟨rfl, HB2.out⟩
end Go.Proofs.YtpolpihgclemnaaDoor
