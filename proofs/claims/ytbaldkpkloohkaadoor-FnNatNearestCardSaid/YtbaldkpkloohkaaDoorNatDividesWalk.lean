/-
  The walk of FnNatDivides, out of the contracts. No condition.
-/
import Derived.Test.YtbaldkpkloohkaaDoorDrawTwo
import Derived.Test.YtbaldkpkloohkaaDoorNatAddWalk
import Derived.Test.YtbaldkpkloohkaaDoorNatMulWalk
import Derived.Test.YtbaldkpkloohkaaDoorNatDivWalk
import Derived.Test.YtbaldkpkloohkaaDoorNatCmpWalk
namespace Go.Proofs.YtbaldkpkloohkaaDoor
open Go.RowKit
set_option linter.unusedVariables false
set_option linter.unusedSimpArgs false

theorem natOk_dec {x A k : Nat} (h : x ≤ A) (hA : A < 10 ^ k) (hk : k ≤ 600) : natOk (bs (ofL (dec x))) = true := by
  rw [bs_ofL]
  exact canon_natOk (dec_canon x) (Nat.le_trans (dec_len_le (max k 1) x (by omega) (Nat.lt_of_le_of_lt h (Nat.lt_of_lt_of_le hA (Nat.pow_le_pow_right (by omega) (by omega))))) (by omega))
theorem size_dec {x A k : Nat} (h : x ≤ A) (hA : A < 10 ^ k) (hk : k ≤ 600) : (ofL (dec x)).size ≤ maxLen := by
  have := (natOk_canon (natOk_dec h hA hk)).2
  rw [bs_length] at this
  unfold maxLen; omega
theorem big_any (a : Option Addr) (len cap : Nat) (w : World) (hlen : len ≤ maxLen) :
    Calls Tryd.prog 21 #[.slice a len cap] w fun e w' => e = .returned (.bool (decide (1048576 < len))) ∧ w' = w := by
  unfold maxLen at hlen
  by_cases h : 1048576 < len
  · have h' : (1048576 : Int) < (len : Int) := by omega
    rw [decide_eq_true h]
    go_enter Tryd.func21, Tryd.ntmps21
    go_wp2
    go_ret
    exact ⟨rfl, rfl⟩
  · have h' : decide ((1048576 : Int) < (len : Int)) = false := decide_eq_false (by omega)
    rw [decide_eq_false h]
    go_enter Tryd.func21, Tryd.ntmps21
    go_wp2
    go_ret
    exact ⟨rfl, rfl⟩

/-- what the four calls return -/
theorem divides_calls (s t : ByteArray) (hs : s.size ≤ maxLen) (ht : t.size ≤ maxLen) (ha : natOk (bs s) = true) (hb : natOk (bs t) = true) (hz : bs t ≠ [48]) :
    ∃ q r m : ByteArray, (∀ w, Calls Tryd.prog 18 #[.string s, .string t] w fun e w' => e = .returned (.tuple #[.string q, .string r, .bool true]) ∧ Below w.heap.size w w') ∧
      (∀ w, Calls Tryd.prog 14 #[.string q, .string t] w fun e w' => e = .returned (.tuple #[.string m, .bool true]) ∧ Below w.heap.size w w') ∧
      (∀ w, Calls Tryd.prog 12 #[.string m, .string r] w fun e w' => e = .returned (.tuple #[.string s, .bool true]) ∧ Below w.heap.size w w') ∧
      (∀ w, Calls Tryd.prog 24 #[.string r, .string t] w fun e w' => e = .returned (.int .i64 (-1)) ∧ Below w.heap.size w w') := by
  obtain ⟨c1, l1⟩ := natOk_canon ha
  obtain ⟨c2, l2⟩ := natOk_canon hb
  have hp := natOk_pos hb hz
  have hA := val_lt (bs s) c1.dig
  have hsd : ofL (dec (val (bs s))) = s := by rw [canon_dec c1, ofL_bs]
  have hB := val_lt (bs t) c2.dig
  obtain ⟨A, eA⟩ : ∃ A, val (bs s) = A := ⟨_, rfl⟩
  obtain ⟨B, eB⟩ : ∃ B, val (bs t) = B := ⟨_, rfl⟩
  rw [eA] at hA hsd
  rw [eB] at hp hB
  have h1 : A / B ≤ A := Nat.div_le_self _ _
  have h2 : A / B * B ≤ A := Nat.div_mul_le_self _ _
  have h3 : A % B < B := Nat.mod_lt _ hp
  have h4 : A % B ≤ B := Nat.le_of_lt h3
  have h5 : A / B * B + A % B = A := by rw [Nat.mul_comm]; exact Nat.div_add_mod A B
  refine ⟨ofL (dec (A / B)), ofL (dec (A % B)), ofL (dec (A / B * B)), fun w => ?_, fun w => ?_, fun w => ?_, fun w => ?_⟩
  · have h := implNatDiv_yes s t w hs ht ha hb hz
    rw [eA, eB] at h
    exact h
  · have h := implNatMul_yes (ofL (dec (A / B))) t w (size_dec h1 hA l1) ht (natOk_dec h1 hA l1) hb
    have hl := (natOk_canon (natOk_dec h2 hA l1)).2
    rw [bs_ofL] at hl
    rw [bs_ofL, val_dec, eB, fitS_yes hl, fitB_yes hl] at h
    exact h
  · have h := implNatAdd_yes (ofL (dec (A / B * B))) (ofL (dec (A % B))) w (size_dec h2 hA l1) (size_dec h4 hB l2) (natOk_dec h2 hA l1) (natOk_dec h4 hB l2)
    have hl := (natOk_canon (natOk_dec (Nat.le_refl A) hA l1)).2
    rw [bs_ofL] at hl
    rw [bs_ofL, bs_ofL, val_dec, val_dec, h5, fitS_yes hl, fitB_yes hl, hsd] at h
    exact h
  · have h := implNatCmp_yes (ofL (dec (A % B))) t w (size_dec h4 hB l2) ht (natOk_dec h4 hB l2) hb
    rw [bs_ofL, val_dec, eB] at h
    have hc : cmpN (A % B) B = -1 := by unfold cmpN; rw [if_pos h3]
    rw [hc] at h
    exact h

theorem fnNatDivides_walk (a : Option Addr) (len cap : Nat) (z : List Int) (w : World) (hr : IsRow .u8 w a len cap z) :
    Calls Tryd.prog 8 #[.slice a len cap] w fun e w' => e = .returned (.bool true) ∧ Below w.heap.size w w' := by
  have hm := (isRow_row hr).2.2.1
  have HR := Lib.hid hr
  have HM := Lib.hid hm
  clear hr hm
  by_cases hbig : 1048576 < len
  · have hd : decide (1048576 < len) = true := decide_eq_true hbig
    go_enter Tryd.func8, Tryd.ntmps8
    go_wp2_with fail
    refine (big_any a len cap _ HM.out).mono ?_
    rintro e w1 ⟨rfl, rfl⟩
    rw [hd]
    go_wp2
    go_ret
    exact ⟨rfl, Below.refl _ _⟩
  · have hd : decide (1048576 < len) = false := decide_eq_false hbig
    go_enter Tryd.func8, Tryd.ntmps8
    go_wp2_with fail
    refine (big_any a len cap _ HM.out).mono ?_
    rintro e w1 ⟨rfl, hw1⟩
    obtain rfl : w = w1 := hw1.symm
    rw [hd]
    go_wp2_with fail
    refine (drawNatDiv_any a len cap z _ HR.out (by omega)).mono ?_
    rintro e w1 ⟨s, t, rfl, hs, ht, hb1⟩
    have HB1 := Lib.hid hb1
    clear hb1
    have hsm : s.size ≤ maxLen := by unfold maxLen; omega
    have htm : t.size ≤ maxLen := by unfold maxLen; omega
    have HS := Lib.hid (And.intro hsm htm)
    clear hsm htm
    cases h1 : natOk (bs s)
    · have HNO := Lib.hid (show natOk (bs s) = false ∨ natOk (bs t) = false ∨ bs t = [48] from .inl h1)
      go_wp2_with fail
      refine (implNatDiv_no s t _ HS.out.1 HS.out.2 HNO.out).mono ?_
      rintro e w2 ⟨rfl, hb2⟩
      have HB2 := Lib.hid (HB1.out.trans (hb2.mono HB1.out.size))
      clear hb2
      go_wp2_with fail
      refine (specNatOk_any _ _ HS.out.1).mono ?_
      rintro e w3 ⟨rfl, hw3⟩
      obtain rfl : w2 = w3 := hw3
      rw [h1]
      go_wp2
      go_ret
      exact ⟨rfl, HB2.out⟩
    · cases h2 : natOk (bs t)
      · have HNO := Lib.hid (show natOk (bs s) = false ∨ natOk (bs t) = false ∨ bs t = [48] from .inr (.inl h2))
        go_wp2_with fail
        refine (implNatDiv_no s t _ HS.out.1 HS.out.2 HNO.out).mono ?_
        rintro e w2 ⟨rfl, hb2⟩
        have HB2 := Lib.hid (HB1.out.trans (hb2.mono HB1.out.size))
        clear hb2
        go_wp2_with fail
        refine (specNatOk_any _ _ HS.out.1).mono ?_
        rintro e w3 ⟨rfl, hw3⟩
        obtain rfl : w2 = w3 := hw3
        rw [h1]
        go_wp2_with fail
        refine (specNatOk_any _ _ HS.out.2).mono ?_
        rintro e w3 ⟨rfl, hw3⟩
        obtain rfl : w2 = w3 := hw3
        rw [h2]
        go_wp2
        go_ret
        exact ⟨rfl, HB2.out⟩
      · by_cases hz : bs t = [48]
        · have HNO := Lib.hid (show natOk (bs s) = false ∨ natOk (bs t) = false ∨ bs t = [48] from .inr (.inr hz))
          have hzb : (t.toList == [48]) = true := by rw [toList_bs, hz]; rfl
          clear hz
          go_wp2_with fail
          refine (implNatDiv_no s t _ HS.out.1 HS.out.2 HNO.out).mono ?_
          rintro e w2 ⟨rfl, hb2⟩
          have HB2 := Lib.hid (HB1.out.trans (hb2.mono HB1.out.size))
          clear hb2
          go_wp2_with fail
          refine (specNatOk_any _ _ HS.out.1).mono ?_
          rintro e w3 ⟨rfl, hw3⟩
          obtain rfl : w2 = w3 := hw3
          rw [h1]
          go_wp2_with fail
          refine (specNatOk_any _ _ HS.out.2).mono ?_
          rintro e w3 ⟨rfl, hw3⟩
          obtain rfl : w2 = w3 := hw3
          rw [h2]
          go_wp2
          go_ret
          exact ⟨rfl, HB2.out⟩
        · obtain ⟨q, r, m, k1, k2, k3, k4⟩ := divides_calls s t HS.out.1 HS.out.2 h1 h2 hz
          have K1 := Lib.hid k1
          have K2 := Lib.hid k2
          have K3 := Lib.hid k3
          have K4 := Lib.hid k4
          have hzb : (t.toList == [48]) = false := by rw [toList_bs]; simpa using hz
          clear hz k1 k2 k3 k4
          go_wp2_with fail
          refine (K1.out _).mono ?_
          rintro e w2 ⟨rfl, hb2⟩
          have HB2 := Lib.hid (HB1.out.trans (hb2.mono HB1.out.size))
          clear hb2
          go_wp2_with fail
          refine (specNatOk_any _ _ HS.out.1).mono ?_
          rintro e w3 ⟨rfl, hw3⟩
          obtain rfl : w2 = w3 := hw3
          rw [h1]
          go_wp2_with fail
          refine (specNatOk_any _ _ HS.out.2).mono ?_
          rintro e w3 ⟨rfl, hw3⟩
          obtain rfl : w2 = w3 := hw3
          rw [h2]
          go_wp2_with fail
          refine (K2.out _).mono ?_
          rintro e w3 ⟨rfl, hb3⟩
          have HB3 := Lib.hid (HB2.out.trans (hb3.mono HB2.out.size))
          clear hb3
          go_wp2_with fail
          refine (K3.out _).mono ?_
          rintro e w4 ⟨rfl, hb4⟩
          have HB4 := Lib.hid (HB3.out.trans (hb4.mono HB3.out.size))
          clear hb4
          go_wp2_with fail
          refine (K4.out _).mono ?_
          rintro e w5 ⟨rfl, hb5⟩
          have HB5 := Lib.hid (HB4.out.trans (hb5.mono HB4.out.size))
          clear hb5
          go_wp2
          go_ret
          exact ⟨rfl, HB5.out⟩
end Go.Proofs.YtbaldkpkloohkaaDoor
