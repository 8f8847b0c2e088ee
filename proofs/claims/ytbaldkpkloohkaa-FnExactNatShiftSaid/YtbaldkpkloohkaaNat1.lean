/-
  The contracts of the small helpers on naturals: a digit at a place, trimming, comparing; the reference's and the program's. Conditions: rows of digits; no longer than 2 to the 40.
-/
import Derived.Test.YtbaldkpkloohkaaVal
import Derived.Test.YtbaldkpkloohkaaShelf
import Derived.WalkKit
import Derived.WalkLawsBesides
import Derived.WalkSpells
import Derived.BigQuiet
import Derived.Deep.Light
import Derived.Deep.QuietTactic
import Derived.WalkSmall
namespace Go.Proofs.Ytbaldkpkloohkaa
open Go.RowKit
set_option linter.unusedVariables false
set_option linter.unusedSimpArgs false



theorem toList_bs (s : ByteArray) : s.toList = bs s := Lib.toList_data s
theorem isEmpty_bs (s : ByteArray) : s.toList.isEmpty = (bs s).isEmpty := by rw [toList_bs]


theorem bs_ext (t : ByteArray) (k : Nat) : bs (t.extract k t.size) = (bs t).drop k := by
  show (t.extract k t.size).data.toList = _
  rw [Lib.extract_data, List.take_of_length_le (by rw [List.length_drop, show t.data.toList = bs t from rfl, bs_length]; exact Nat.le_refl _)]
theorem ext_size (t : ByteArray) (k : Nat) : (t.extract k t.size).size = t.size - k := by
  rw [← bs_length, bs_ext, List.length_drop, bs_length]
theorem trimZ_tail {s : ByteArray} (h0 : 0 < s.size) (h : (s[0].toNat : Int) = 48) : trimZ ((bs s).drop 1) = trimZ (bs s) := by
  have e := bs_drop s 0 h0
  rw [List.drop_zero] at e
  conv => rhs; rw [e]
  unfold trimZ
  rw [if_pos (u8_48 h)]
  cases (bs s).drop (0 + 1) <;> rfl
theorem trimZ_stop {s : ByteArray} (h0 : 0 < s.size) (h : ¬ (s[0].toNat : Int) = 48) : trimZ (bs s) = bs s := by
  have e := bs_drop s 0 h0
  rw [List.drop_zero] at e
  rw [e]
  unfold trimZ
  rw [if_neg (u8_n48 h)]
theorem trimZ_one {s : ByteArray} (h0 : s.size = 1) : trimZ (bs s) = bs s := by
  have e := bs_drop s 0 (by omega)
  rw [List.drop_zero, List.drop_of_length_le (by rw [bs_length]; omega)] at e
  rw [e]
  unfold trimZ
  by_cases h : s[0] = 48
  · rw [if_pos h, h]; rfl
  · rw [if_neg h]

theorem l02Trim_any (s : ByteArray) (w : World) (hs : s.size ≤ 1099511627776) :
    Calls Try.prog 9 #[.string s] w fun e w' => e = .returned (.string (ofL (trimZ (bs s)))) ∧ w' = w := by
  go_enter Try.func9, Try.ntmps9
  go_wp2
  go_loop [0] (fun v => ∃ t : ByteArray, t.size ≤ 1099511627776 ∧ v = .string t ∧ trimZ (bs t) = trimZ (bs s)) (fun v => match v with | .string t => t.size | _ => 0)
  case atStart => exact ⟨s, hs, rfl, rfl⟩
  case round =>
    obtain ⟨t, ht, rfl, hz⟩ := hrel
    have HZ := Lib.hid hz
    clear hz
    by_cases h1 : 1 < t.size
    · have h1' : (1 : Int) < (t.size : Int) := by omega
      have h0 : 0 < t.size := by omega
      by_cases hc : (t[0].toNat : Int) = 48
      · have hcb : ((t[0].toNat : Int) == 48) = true := by rw [hc]; rfl
        have HC := Lib.hid hc
        clear hc
        go_wp2
        refine ⟨⟨t.extract 1 t.size, by rw [ext_size]; omega, rfl, by rw [bs_ext, trimZ_tail h0 HC.out, HZ.out]⟩, ?_⟩
        show (t.extract 1 t.size).size < t.size
        rw [ext_size]; omega
      · have hcb : ((t[0].toNat : Int) == 48) = false := by rw [beq_eq_false_iff_ne]; exact hc
        have HC := Lib.hid hc
        clear hc
        have hemp := isEmpty_no h0
        go_wp2
        go_ret
        refine ⟨?_, rfl⟩
        rw [← HZ.out, trimZ_stop h0 HC.out]; rfl
    · have h1' : (t.size : Int) ≤ 1 := by omega
      by_cases h0 : 0 < t.size
      · have hemp := isEmpty_no h0
        go_wp2
        go_ret
        refine ⟨?_, rfl⟩
        rw [← HZ.out, trimZ_one (by omega)]; rfl
      · have hemp := isEmpty_yes (s := t) (by omega)
        go_wp2
        go_ret
        refine ⟨?_, rfl⟩
        rw [← HZ.out, bs_empty (by omega)]; rfl

theorem cmpN_cases (a b : Nat) : (a < b ∧ cmpN a b = -1) ∨ (a = b ∧ cmpN a b = 0) ∨ (b < a ∧ cmpN a b = 1) := by
  unfold cmpN
  by_cases h1 : a < b
  · left; rw [if_pos h1]; exact ⟨h1, rfl⟩
  · right
    by_cases h2 : a = b
    · left; rw [if_neg h1, if_pos h2]; exact ⟨h2, rfl⟩
    · right; rw [if_neg h1, if_neg h2]; exact ⟨by omega, rfl⟩

/-- the first number that is not 0 -/
def orZ : List Int → Int
  | [] => 0
  | x :: l => if x = 0 then orZ l else x
theorem cmp_val {l r : List UInt8} (hl : Canon l) (hr : Canon r) : orZ [cmpN l.length r.length, Lib.compareBytes l r] = cmpN (val l) (val r) := by
  rcases cmpN_cases l.length r.length with ⟨h, e⟩ | ⟨h, e⟩ | ⟨h, e⟩
  · have := canon_shorter hl hr h
    rw [e]; simp [orZ, cmpN, this]
  · rw [e, compare_val l r hl.dig hr.dig h]; simp [orZ]
    intro h0; exact h0.symm
  · have := canon_shorter hr hl h
    rw [e]
    have a : ¬ val l < val r := by omega
    have b : ¬ val l = val r := by omega
    simp [orZ, cmpN, a, b]




end Go.Proofs.Ytbaldkpkloohkaa
