/-
  The walk of FnNatSums, out of the contracts. No condition.
-/
import Derived.Test.YtbaldkpkloohkaaDoorNatDividesWalk
import Derived.Test.YtbaldkpkloohkaaDoorNatSubWalk
import Derived.Test.YtbaldkpkloohkaaDoorNatShiftWalk
import Derived.Test.YtbaldkpkloohkaaDoorNatRoundWalk
namespace Go.Proofs.YtbaldkpkloohkaaDoor
open Go.RowKit
set_option linter.unusedVariables false
set_option linter.unusedSimpArgs false

theorem roundV_shift (v n : Nat) : roundV (v * 10 ^ n) n = v := by
  have hp : 0 < 10 ^ n := Nat.pow_pos (by omega)
  have h : v * 10 ^ n % 10 ^ n = 0 := Nat.mul_mod_left _ _
  unfold roundV
  rw [h, if_neg (by omega), Nat.mul_div_cancel _ hp]
theorem fitB_len {l : List UInt8} (h : fitB l = true) : l.length ≤ 600 := of_decide_eq_true h
theorem natOk_fit {x : Nat} (h : fitB (dec x) = true) : natOk (bs (fitS (dec x))) = true := by
  rw [fitS_yes (fitB_len h), bs_ofL]
  exact canon_natOk (dec_canon x) (fitB_len h)
theorem size_fit {x : Nat} (h : fitB (dec x) = true) : (fitS (dec x)).size ≤ maxLen := by
  have := (natOk_canon (natOk_fit h)).2
  rw [bs_length] at this
  unfold maxLen; omega
theorem val_fit {x : Nat} (h : fitB (dec x) = true) : val (bs (fitS (dec x))) = x := by
  rw [fitS_yes (fitB_len h), bs_ofL, val_dec]
theorem same_val {s : ByteArray} (h : natOk (bs s) = true) : ofL (dec (val (bs s))) = s := by rw [canon_dec (natOk_canon h).1, ofL_bs]
theorem fit_same {s : ByteArray} (h : natOk (bs s) = true) : fitS (dec (val (bs s))) = s ∧ fitB (dec (val (bs s))) = true := by
  obtain ⟨c, l⟩ := natOk_canon h
  rw [canon_dec c, fitS_yes l, fitB_yes l, ofL_bs]
  exact ⟨rfl, rfl⟩

/-- what the calls return -/
theorem sums_calls (s t : ByteArray) (hs : s.size ≤ maxLen) (ht : t.size ≤ maxLen) (ha : natOk (bs s) = true) (hb : natOk (bs t) = true) :
    ∃ (u m x : ByteArray) (f1 f2 f3 : Bool), (∀ w, Calls Tryd.prog 12 #[.string s, .string t] w fun e w' => e = .returned (.tuple #[.string u, .bool f1]) ∧ Below w.heap.size w w') ∧
      (∀ w, Calls Tryd.prog 12 #[.string t, .string s] w fun e w' => e = .returned (.tuple #[.string u, .bool f1]) ∧ Below w.heap.size w w') ∧
      (∀ w, Calls Tryd.prog 11 #[.string s, .string t] w fun e w' => e = .returned (.tuple #[.string u, .bool f1]) ∧ Below w.heap.size w w') ∧
      (f1 = true → ∀ w, Calls Tryd.prog 16 #[.string u, .string t] w fun e w' => e = .returned (.tuple #[.string s, .bool true]) ∧ Below w.heap.size w w') ∧
      (∀ w, Calls Tryd.prog 14 #[.string s, .string t] w fun e w' => e = .returned (.tuple #[.string m, .bool f2]) ∧ Below w.heap.size w w') ∧
      (∀ w, Calls Tryd.prog 14 #[.string t, .string s] w fun e w' => e = .returned (.tuple #[.string m, .bool f2]) ∧ Below w.heap.size w w') ∧
      (∀ w, Calls Tryd.prog 13 #[.string s, .string t] w fun e w' => e = .returned (.tuple #[.string m, .bool f2]) ∧ Below w.heap.size w w') ∧
      (∀ w, Calls Tryd.prog 29 #[.string s, .int .i64 7] w fun e w' => e = .returned (.tuple #[.string x, .bool f3]) ∧ Below w.heap.size w w') ∧
      (∀ w, Calls Tryd.prog 26 #[.string s, .int .i64 7] w fun e w' => e = .returned (.tuple #[.string x, .bool f3]) ∧ Below w.heap.size w w') ∧
      (f3 = true → ∀ w, Calls Tryd.prog 20 #[.string x, .int .i64 7] w fun e w' => e = .returned (.tuple #[.string s, .bool true]) ∧ Below w.heap.size w w') := by
  refine ⟨fitS (dec (val (bs s) + val (bs t))), fitS (dec (val (bs s) * val (bs t))), fitS (dec (val (bs s) * 10 ^ 7)), fitB (dec (val (bs s) + val (bs t))), fitB (dec (val (bs s) * val (bs t))), fitB (dec (val (bs s) * 10 ^ 7)),
    fun w => implNatAdd_yes s t w hs ht ha hb, fun w => ?_, fun w => specNatAdd_yes s t w hs ht ha hb, fun hf w => ?_, fun w => implNatMul_yes s t w hs ht ha hb, fun w => ?_, fun w => specNatMul_yes s t w hs ht ha hb,
    fun w => implNatShift_yes s 7 w hs ha (by decide) (by omega), fun w => specNatShift_yes s 7 w hs ha (by decide) (by omega), fun hf w => ?_⟩
  · have h := implNatAdd_yes t s w ht hs hb ha
    rw [Nat.add_comm] at h
    exact h
  · have h := implNatSub_yes _ t w (size_fit hf) ht (natOk_fit hf) hb (by rw [val_fit hf]; omega)
    rw [val_fit hf, Nat.add_sub_cancel, same_val ha] at h
    exact h
  · have h := implNatMul_yes t s w ht hs hb ha
    rw [Nat.mul_comm] at h
    exact h
  · have h := implNatRound_yes _ 7 w (size_fit hf) (natOk_fit hf) (by decide) (by omega)
    rw [val_fit hf, roundV_shift, (fit_same ha).1, (fit_same ha).2] at h
    exact h

theorem fnNatSums_walk (a : Option Addr) (len cap : Nat) (z : List Int) (w : World) (hr : IsRow .u8 w a len cap z) :
    Calls Tryd.prog 10 #[.slice a len cap] w fun e w' => e = .returned (.bool true) ∧ Below w.heap.size w w' := by
  have hm := (isRow_row hr).2.2.1
  have HR := Lib.hid hr
  have HM := Lib.hid hm
  clear hr hm
  by_cases hbig : 1048576 < len
  · have hd : decide (1048576 < len) = true := decide_eq_true hbig
    go_enter Tryd.func10, Tryd.ntmps10
    go_wp2_with fail
    refine (big_any a len cap _ HM.out).mono ?_
    rintro e w1 ⟨rfl, rfl⟩
    rw [hd]
    go_wp2
    go_ret
    exact ⟨rfl, Below.refl _ _⟩
  · have hd : decide (1048576 < len) = false := decide_eq_false hbig
    go_enter Tryd.func10, Tryd.ntmps10
    go_wp2_with fail
    refine (big_any a len cap _ HM.out).mono ?_
    rintro e w1 ⟨rfl, hw1⟩
    obtain rfl : w = w1 := hw1.symm
    rw [hd]
    go_wp2_with fail
    refine (drawNatAdd_any a len cap z _ HR.out (by omega)).mono ?_
    rintro e w1 ⟨s, t, rfl, hs, ht, hb1⟩
    have HB1 := Lib.hid hb1
    clear hb1
    have hsm : s.size ≤ maxLen := by unfold maxLen; omega
    have htm : t.size ≤ maxLen := by unfold maxLen; omega
    have HS := Lib.hid (And.intro hsm htm)
    clear hsm htm
    cases h1 : natOk (bs s)
    · have HNO := Lib.hid (show natOk (bs s) = false ∨ natOk (bs t) = false from .inl h1)
      go_wp2_with fail
      refine (specNatOk_any _ _ HS.out.1).mono ?_
      rintro e w3 ⟨rfl, hw3⟩
      obtain rfl : w1 = w3 := hw3
      rw [h1]
      go_wp2_with fail
      refine (implNatAdd_no s t _ HS.out.1 HS.out.2 HNO.out).mono ?_
      rintro e w2 ⟨rfl, hb2⟩
      have HB2 := Lib.hid (HB1.out.trans (hb2.mono HB1.out.size))
      clear hb2
      go_wp2
      go_ret
      exact ⟨rfl, HB2.out⟩
    · cases h2 : natOk (bs t)
      · have HNO := Lib.hid (show natOk (bs s) = false ∨ natOk (bs t) = false from .inr h2)
        go_wp2_with fail
        refine (specNatOk_any _ _ HS.out.1).mono ?_
        rintro e w3 ⟨rfl, hw3⟩
        obtain rfl : w1 = w3 := hw3
        rw [h1]
        go_wp2_with fail
        refine (specNatOk_any _ _ HS.out.2).mono ?_
        rintro e w3 ⟨rfl, hw3⟩
        obtain rfl : w1 = w3 := hw3
        rw [h2]
        go_wp2_with fail
        refine (implNatAdd_no s t _ HS.out.1 HS.out.2 HNO.out).mono ?_
        rintro e w2 ⟨rfl, hb2⟩
        have HB2 := Lib.hid (HB1.out.trans (hb2.mono HB1.out.size))
        clear hb2
        go_wp2
        go_ret
        exact ⟨rfl, HB2.out⟩
      · obtain ⟨u, m, x, f1, f2, f3, k1, k2, k3, k4, k5, k6, k7, k8, k9, k10⟩ := sums_calls s t HS.out.1 HS.out.2 h1 h2
        have K1 := Lib.hid k1
        have K2 := Lib.hid k2
        have K3 := Lib.hid k3
        have K4 := Lib.hid k4
        have K5 := Lib.hid k5
        have K6 := Lib.hid k6
        have K7 := Lib.hid k7
        have K8 := Lib.hid k8
        have K9 := Lib.hid k9
        have K10 := Lib.hid k10
        clear k1 k2 k3 k4 k5 k6 k7 k8 k9 k10
        have hf2 : (f2 != f2) = false := by simp
        go_wp2_with fail
        refine (specNatOk_any _ _ HS.out.1).mono ?_
        rintro e w3 ⟨rfl, hw3⟩
        obtain rfl : w1 = w3 := hw3
        rw [h1]
        go_wp2_with fail
        refine (specNatOk_any _ _ HS.out.2).mono ?_
        rintro e w3 ⟨rfl, hw3⟩
        obtain rfl : w1 = w3 := hw3
        rw [h2]
        cases f1
        · go_wp2_with fail
          refine (K1.out _).mono ?_
          rintro e w2 ⟨rfl, hb2⟩
          have HB2 := Lib.hid (HB1.out.trans (hb2.mono HB1.out.size))
          clear hb2
          go_wp2_with fail
          refine (K2.out _).mono ?_
          rintro e w3 ⟨rfl, hb3⟩
          have HB3 := Lib.hid (HB2.out.trans (hb3.mono HB2.out.size))
          clear hb3
          go_wp2_with fail
          refine (K3.out _).mono ?_
          rintro e w4 ⟨rfl, hb4⟩
          have HB4 := Lib.hid (HB3.out.trans (hb4.mono HB3.out.size))
          clear hb4
          go_wp2_with fail
          refine (K5.out _).mono ?_
          rintro e w5 ⟨rfl, hb5⟩
          have HB5 := Lib.hid (HB4.out.trans (hb5.mono HB4.out.size))
          clear hb5
          go_wp2_with fail
          refine (K6.out _).mono ?_
          rintro e w6 ⟨rfl, hb6⟩
          have HB6 := Lib.hid (HB5.out.trans (hb6.mono HB5.out.size))
          clear hb6
          go_wp2_with fail
          refine (K7.out _).mono ?_
          rintro e w7 ⟨rfl, hb7⟩
          have HB7 := Lib.hid (HB6.out.trans (hb7.mono HB6.out.size))
          clear hb7
          cases f3
          · go_wp2_with fail
            refine (K8.out _).mono ?_
            rintro e w8 ⟨rfl, hb8⟩
            have HB8 := Lib.hid (HB7.out.trans (hb8.mono HB7.out.size))
            clear hb8
            go_wp2_with fail
            refine (K9.out _).mono ?_
            rintro e w9 ⟨rfl, hb9⟩
            have HB9 := Lib.hid (HB8.out.trans (hb9.mono HB8.out.size))
            clear hb9
            go_wp2
            go_ret
            exact ⟨rfl, HB9.out⟩
          · go_wp2_with fail
            refine (K8.out _).mono ?_
            rintro e w8 ⟨rfl, hb8⟩
            have HB8 := Lib.hid (HB7.out.trans (hb8.mono HB7.out.size))
            clear hb8
            go_wp2_with fail
            refine (K9.out _).mono ?_
            rintro e w9 ⟨rfl, hb9⟩
            have HB9 := Lib.hid (HB8.out.trans (hb9.mono HB8.out.size))
            clear hb9
            go_wp2_with fail
            refine (K10.out (by first | trivial | rfl) _).mono ?_
            rintro e w10 ⟨rfl, hb10⟩
            have HB10 := Lib.hid (HB9.out.trans (hb10.mono HB9.out.size))
            clear hb10
            go_wp2
            go_ret
            exact ⟨rfl, HB10.out⟩
        · go_wp2_with fail
          refine (K1.out _).mono ?_
          rintro e w2 ⟨rfl, hb2⟩
          have HB2 := Lib.hid (HB1.out.trans (hb2.mono HB1.out.size))
          clear hb2
          go_wp2_with fail
          refine (K2.out _).mono ?_
          rintro e w3 ⟨rfl, hb3⟩
          have HB3 := Lib.hid (HB2.out.trans (hb3.mono HB2.out.size))
          clear hb3
          go_wp2_with fail
          refine (K3.out _).mono ?_
          rintro e w4 ⟨rfl, hb4⟩
          have HB4 := Lib.hid (HB3.out.trans (hb4.mono HB3.out.size))
          clear hb4
          go_wp2_with fail
          refine (K4.out (by first | trivial | rfl) _).mono ?_
          rintro e w5 ⟨rfl, hb5⟩
          have HB5 := Lib.hid (HB4.out.trans (hb5.mono HB4.out.size))
          clear hb5
          go_wp2_with fail
          refine (K5.out _).mono ?_
          rintro e w6 ⟨rfl, hb6⟩
          have HB6 := Lib.hid (HB5.out.trans (hb6.mono HB5.out.size))
          clear hb6
          go_wp2_with fail
          refine (K6.out _).mono ?_
          rintro e w7 ⟨rfl, hb7⟩
          have HB7 := Lib.hid (HB6.out.trans (hb7.mono HB6.out.size))
          clear hb7
          go_wp2_with fail
          refine (K7.out _).mono ?_
          rintro e w8 ⟨rfl, hb8⟩
          have HB8 := Lib.hid (HB7.out.trans (hb8.mono HB7.out.size))
          clear hb8
          cases f3
          · go_wp2_with fail
            refine (K8.out _).mono ?_
            rintro e w9 ⟨rfl, hb9⟩
            have HB9 := Lib.hid (HB8.out.trans (hb9.mono HB8.out.size))
            clear hb9
            go_wp2_with fail
            refine (K9.out _).mono ?_
            rintro e w10 ⟨rfl, hb10⟩
            have HB10 := Lib.hid (HB9.out.trans (hb10.mono HB9.out.size))
            clear hb10
            go_wp2
            go_ret
            exact ⟨rfl, HB10.out⟩
          · go_wp2_with fail
            refine (K8.out _).mono ?_
            rintro e w9 ⟨rfl, hb9⟩
            have HB9 := Lib.hid (HB8.out.trans (hb9.mono HB8.out.size))
            clear hb9
            go_wp2_with fail
            refine (K9.out _).mono ?_
            rintro e w10 ⟨rfl, hb10⟩
            have HB10 := Lib.hid (HB9.out.trans (hb10.mono HB9.out.size))
            clear hb10
            go_wp2_with fail
            refine (K10.out (by first | trivial | rfl) _).mono ?_
            rintro e w11 ⟨rfl, hb11⟩
            have HB11 := Lib.hid (HB10.out.trans (hb11.mono HB10.out.size))
            clear hb11
            go_wp2
            go_ret
            exact ⟨rfl, HB11.out⟩
end Go.Proofs.YtbaldkpkloohkaaDoor
