/-
  The contracts of the small helpers of reading numbers: isSign, digitsEnd, l03Digit. Conditions: a place within the string or behind it.
-/
import Derived.Test.YtjjpdoabagnmoaaGreatDoorScanL
import Derived.WalkKit
import Derived.WalkLawsBesides
import Derived.WalkSpells
import Derived.BigQuiet
import Derived.Deep.Light
import Derived.Lib.Hide
namespace Go.Proofs.YtjjpdoabagnmoaaGreatDoor
open Go.RowKit
set_option linter.unusedVariables false
set_option linter.unusedSimpArgs false

/-- a sign stands ahead -/
def sgB (l : List UInt8) : Bool := decide (sgN l = 1)
theorem sgB_at {s : ByteArray} {k : Nat} (h : k < s.size) : sgB ((bs s).drop k) = (decide ((s[k].toNat : Int) = 43) || decide ((s[k].toNat : Int) = 45)) := by
  rw [bs_drop s k h]
  unfold sgB
  rw [sgN]
  by_cases h1 : (s[k].toNat : Int) = 43
  · have : s[k] = 43 := u8_eq (d := 43) h1
    rw [if_pos (.inl this), decide_eq_true h1]; rfl
  · by_cases h2 : (s[k].toNat : Int) = 45
    · have : s[k] = 45 := u8_eq (d := 45) h2
      rw [if_pos (.inr this), decide_eq_true h2]; simp
    · rw [if_neg, decide_eq_false h1, decide_eq_false h2]; · rfl
      rintro (e | e)
      · exact h1 (by rw [e]; rfl)
      · exact h2 (by rw [e]; rfl)
theorem drop_over {s : ByteArray} {k : Nat} (h : ¬ k < s.size) : (bs s).drop k = [] := List.drop_of_length_le (by rw [bs_length]; omega)
theorem isSign_any (s : ByteArray) (k : Nat) (w : World) (hs : s.size ≤ maxLen) (hk : k ≤ 1099511627776) :
    Calls Tryz.prog 72 #[.string s, .int .i64 (k : Int)] w fun e w' => e = .returned (.bool (sgB ((bs s).drop k))) ∧ w' = w := by
  unfold maxLen at hs
  by_cases h : k < s.size
  · have H := Lib.hid (sgB_at h)
    go_enter Tryz.func72, Tryz.ntmps72
    go_wp2
    all_goals go_ret
    all_goals refine ⟨ret_bool ?_, rfl⟩
    all_goals rw [H.out]
    all_goals first
      | (simp [*]; done)
      | (rename_i h43; rw [beq_eq_false_iff_ne.2 h43, decide_eq_false h43]; simp only [Bool.false_or]; rw [Bool.eq_iff_iff, beq_iff_eq, decide_eq_true_iff]; done)
  · have H := Lib.hid (drop_over h)
    go_enter Tryz.func72, Tryz.ntmps72
    go_wp2
    go_ret
    refine ⟨ret_bool ?_, rfl⟩
    rw [H.out]; rfl
theorem digitsEnd_any (s : ByteArray) (k : Nat) (w : World) (hs : s.size ≤ 1099511627776) (hk : k ≤ s.size) :
    Calls Tryz.prog 73 #[.string s, .int .i64 (k : Int)] w fun e w' => e = .returned (.int .i64 ((k + tw ((bs s).drop k) : Nat) : Int)) ∧ w' = w := by
  obtain ⟨K, hK⟩ : ∃ K, k + tw ((bs s).drop k) = K := ⟨_, rfl⟩
  rw [hK]
  have HK := Lib.hid hK
  clear hK
  go_enter Tryz.func73, Tryz.ntmps73
  go_wp2
  go_loop [1] (fun i => ∃ j : Nat, j ≤ s.size ∧ i = .int .i64 (j : Int) ∧ j + tw ((bs s).drop j) = K) (fun i => s.size - (intOf i).toNat)
  case atStart => exact ⟨k, hk, rfl, HK.out⟩
  case round =>
    obtain ⟨j, hj, rfl, hJ⟩ := hrel
    have HJ := Lib.hid hJ
    clear hJ
    by_cases hlt : j < s.size
    · have HD := Lib.hid (bs_drop s j hlt)
      go_wp2
      all_goals first
        | (go_round
           case rel =>
             refine ⟨j + 1, by omega, by go_num, ?_⟩
             rw [← HJ.out, HD.out, tw_dig ((isDig_iff _).2 ⟨by omega, by omega⟩)]
             omega
           case measure => simp [intOf]; omega)
        | (go_ret
           refine ⟨ret_int ?_, rfl⟩
           rw [← HJ.out, HD.out, tw_stop (isDig_no (by omega))]
           rfl)
    · have HD := Lib.hid (drop_over hlt)
      go_wp2
      go_ret
      refine ⟨ret_int ?_, rfl⟩
      rw [← HJ.out, HD.out]
      rfl
theorem digitsEnd_to (s : ByteArray) (x : Int) (k e : Nat) (w : World) (hx : x = (k : Int)) (he : k + tw ((bs s).drop k) = e) (hs : s.size ≤ 1099511627776) (hk : k ≤ s.size) :
    Calls Tryz.prog 73 #[.string s, .int .i64 x] w fun r w' => r = .returned (.int .i64 (e : Int)) ∧ w' = w := by
  subst hx he
  exact digitsEnd_any s k w hs hk
theorem isSign_to (s : ByteArray) (x : Int) (k : Nat) (b : Bool) (w : World) (hx : x = (k : Int)) (hb : sgB ((bs s).drop k) = b) (hs : s.size ≤ 1099511627776) (hk : k ≤ 1099511627776) :
    Calls Tryz.prog 72 #[.string s, .int .i64 x] w fun e w' => e = .returned (.bool b) ∧ w' = w := by
  subst hx hb
  exact isSign_any s k w (by unfold maxLen; omega) hk
theorem l03Digit_any (c : UInt8) (w : World) :
    Calls Tryz.prog 58 #[.int .u8 (c.toNat : Int)] w fun e w' => e = .returned (.bool (isDig c)) ∧ w' = w := by
  go_enter Tryz.func58, Tryz.ntmps58
  go_wp2
  all_goals go_ret
  all_goals refine ⟨ret_bool ?_, rfl⟩
  all_goals unfold isDig
  all_goals (simp [*] <;> omega)
end Go.Proofs.YtjjpdoabagnmoaaGreatDoor
