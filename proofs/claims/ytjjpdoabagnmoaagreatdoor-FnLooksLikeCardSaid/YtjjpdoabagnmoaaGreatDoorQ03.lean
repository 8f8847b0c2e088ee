/-
  Texts of this claim in one file, in build order: Nat1, Shift, Zeros, Align, NatAdd, NatRound, Normal. Each says ahead what it proves and under which conditions.
-/
import Derived.Test.YtjjpdoabagnmoaaGreatDoorQ01
import Derived.Test.YtjjpdoabagnmoaaGreatDoorShelf
import Derived.WalkKit
import Derived.WalkLawsBesides
import Derived.WalkSpells
import Derived.BigQuiet
import Derived.Deep.Light
import Derived.Deep.QuietTactic
import Derived.WalkSmall
import Derived.Lib.SmallJoins
import Derived.Test.YtjjpdoabagnmoaaGreatDoorQ02
import Derived.Deep.RegionHeld3
/-
  The contracts of the small helpers on naturals: a digit at a place, trimming, comparing; the reference's and the program's. Conditions: rows of digits; no longer than 2 to the 40.
-/
namespace Go.Proofs.YtjjpdoabagnmoaaGreatDoor
open Go.RowKit
set_option linter.unusedVariables false
set_option linter.unusedSimpArgs false

theorem digitAt_any (s : ByteArray) (i : Nat) (w : World) (hd : (bs s).all isDig = true) (hs : s.size ≤ 1099511627776) (hi : i ≤ 1099511627776) :
    Calls Tryz.prog 113 #[.string s, .int .i64 (i : Int)] w fun e w' => e = .returned (.int .i64 (dgt (val (bs s)) i : Nat)) ∧ w' = w := by
  by_cases hlt : i < s.size
  · have hg := dgt_val (bs s) hd i (by rw [bs_length]; exact hlt)
    have hb : s.size - 1 - i < s.size := by omega
    have e1 : (bs s)[(bs s).length - 1 - i]'(by rw [bs_length]; omega) = s[s.size - 1 - i] := by
      rw [← bs_get s (s.size - 1 - i) hb]
      congr 1
      try rw [bs_length]
    rw [e1] at hg
    have hdg : isDig s[s.size - 1 - i] = true := by
      rw [List.all_eq_true] at hd
      exact hd _ (bs_mem s _ hb)
    have h48 := isDig_le hdg
    have HG := Lib.hid hg
    clear hg hd hdg e1
    have k1 : ¬ ((s.size : Int) ≤ (i : Int)) := by omega
    have k2 : 0 ≤ (s.size : Int) - 1 - (i : Int) := by omega
    have k3 : (s.size : Int) - 1 - (i : Int) < (s.size : Int) := by omega
    have k4 : ((s.size : Int) - 1 - (i : Int)).toNat = s.size - 1 - i := by omega
    have k5 : (48 : Int) ≤ (s[s.size - 1 - i].toNat : Int) := by omega
    have k6 : (s[s.size - 1 - i].toNat : Int) ≤ 57 := by omega
    go_enter Tryz.func113, Tryz.ntmps113
    go_wp2
    go_ret
    refine ⟨ret_int ?_, rfl⟩
    rw [HG.out]
    omega
  · have hz : dgt (val (bs s)) i = 0 := by
      apply dgt_over
      have h1 := val_lt (bs s) hd
      have h2 : 10 ^ (bs s).length ≤ 10 ^ i := Nat.pow_le_pow_right (by omega) (by rw [bs_length]; omega)
      omega
    rw [hz]
    have k1 : (s.size : Int) ≤ (i : Int) := by omega
    clear hd hz
    go_enter Tryz.func113, Tryz.ntmps113
    go_wp2
    go_ret
    exact ⟨rfl, rfl⟩

theorem l02Digit_any (s : ByteArray) (i : Nat) (w : World) (hd : (bs s).all isDig = true) (hs : s.size ≤ 1099511627776) (hi : i ≤ 1099511627776) :
    Calls Tryz.prog 122 #[.string s, .int .i64 (i : Int)] w fun e w' => e = .returned (.int .i64 (dgt (val (bs s)) i : Nat)) ∧ w' = w := by
  by_cases hlt : i < s.size
  · have hg := dgt_val (bs s) hd i (by rw [bs_length]; exact hlt)
    have hb : s.size - 1 - i < s.size := by omega
    have e1 : (bs s)[(bs s).length - 1 - i]'(by rw [bs_length]; omega) = s[s.size - 1 - i] := by
      rw [← bs_get s (s.size - 1 - i) hb]
      congr 1
      try rw [bs_length]
    rw [e1] at hg
    have hdg : isDig s[s.size - 1 - i] = true := by
      rw [List.all_eq_true] at hd
      exact hd _ (bs_mem s _ hb)
    have h48 := isDig_le hdg
    have HG := Lib.hid hg
    clear hg hd hdg e1
    have k1 : ¬ ((s.size : Int) ≤ (i : Int)) := by omega
    have k2 : 0 ≤ (s.size : Int) - 1 - (i : Int) := by omega
    have k3 : (s.size : Int) - 1 - (i : Int) < (s.size : Int) := by omega
    have k4 : ((s.size : Int) - 1 - (i : Int)).toNat = s.size - 1 - i := by omega
    have k5 : (48 : Int) ≤ (s[s.size - 1 - i].toNat : Int) := by omega
    have k6 : (s[s.size - 1 - i].toNat : Int) ≤ 57 := by omega
    go_enter Tryz.func122, Tryz.ntmps122
    go_wp2
    go_ret
    refine ⟨ret_int ?_, rfl⟩
    rw [HG.out]
    omega
  · have hz : dgt (val (bs s)) i = 0 := by
      apply dgt_over
      have h1 := val_lt (bs s) hd
      have h2 : 10 ^ (bs s).length ≤ 10 ^ i := Nat.pow_le_pow_right (by omega) (by rw [bs_length]; omega)
      omega
    rw [hz]
    have k1 : (s.size : Int) ≤ (i : Int) := by omega
    clear hd hz
    go_enter Tryz.func122, Tryz.ntmps122
    go_wp2
    go_ret
    exact ⟨rfl, rfl⟩

theorem toList_bs (s : ByteArray) : s.toList = bs s := Lib.toList_data s
theorem isEmpty_bs (s : ByteArray) : s.toList.isEmpty = (bs s).isEmpty := by rw [toList_bs]

theorem trimNat_any (s : ByteArray) (w : World) :
    Calls Tryz.prog 75 #[.string s] w fun e w' => e = .returned (.string (ofL (trimZ (bs s)))) ∧ w' = w := by
  have hz := trimZ_drop (bs s)
  have HZ := Lib.hid hz
  clear hz
  go_enter Tryz.func75, Tryz.ntmps75
  go_wp2_with fail
  refine (Tryz.strings_TrimLeft_one s 48 (by decide) _).mono ?_
  rintro e w1 ⟨rfl, rfl⟩
  have ht : Lib.trimLeftB s.data.toList 48 = (bs s).dropWhile (· == 48) := rfl
  rw [ht]
  obtain ⟨r, hr⟩ : ∃ r, (bs s).dropWhile (· == 48) = r := ⟨_, rfl⟩
  have HF := HZ.out
  rw [hr] at HF ⊢
  have hof : (⟨r.toArray⟩ : ByteArray) = ofL r := rfl
  rw [hof]
  have HF' := Lib.hid HF
  clear HF hr ht hof
  cases r with
  | nil =>
    have hemp : (ofL ([] : List UInt8)).toList.isEmpty = true := by rw [isEmpty_bs, bs_ofL]; rfl
    go_wp2
    go_ret
    exact ⟨by rw [← HF'.out]; rfl, rfl⟩
  | cons c r =>
    have hemp : (ofL (c :: r)).toList.isEmpty = false := by rw [isEmpty_bs, bs_ofL]; rfl
    go_wp2
    go_ret
    exact ⟨by rw [← HF'.out]; rfl, rfl⟩

theorem bs_ext (t : ByteArray) (k : Nat) : bs (t.extract k t.size) = (bs t).drop k := by
  show (t.extract k t.size).data.toList = _
  rw [Lib.extract_data, List.take_of_length_le (by rw [List.length_drop, show t.data.toList = bs t from rfl, bs_length]; exact Nat.le_refl _)]
theorem ext_size (t : ByteArray) (k : Nat) : (t.extract k t.size).size = t.size - k := by
  rw [← bs_length, bs_ext, List.length_drop, bs_length]
theorem trimZ_tail {s : ByteArray} (h0 : 0 < s.size) (h : (s[0].toNat : Int) = 48) : trimZ ((bs s).drop 1) = trimZ (bs s) := by
  have e := bs_drop s 0 h0
  rw [List.drop_zero] at e
  conv => rhs; rw [e]
  unfold trimZ
  rw [if_pos (u8_48 h)]
  cases (bs s).drop (0 + 1) <;> rfl
theorem trimZ_stop {s : ByteArray} (h0 : 0 < s.size) (h : ¬ (s[0].toNat : Int) = 48) : trimZ (bs s) = bs s := by
  have e := bs_drop s 0 h0
  rw [List.drop_zero] at e
  rw [e]
  unfold trimZ
  rw [if_neg (u8_n48 h)]
theorem trimZ_one {s : ByteArray} (h0 : s.size = 1) : trimZ (bs s) = bs s := by
  have e := bs_drop s 0 (by omega)
  rw [List.drop_zero, List.drop_of_length_le (by rw [bs_length]; omega)] at e
  rw [e]
  unfold trimZ
  by_cases h : s[0] = 48
  · rw [if_pos h, h]; rfl
  · rw [if_neg h]

theorem l02Trim_any (s : ByteArray) (w : World) (hs : s.size ≤ 1099511627776) :
    Calls Tryz.prog 93 #[.string s] w fun e w' => e = .returned (.string (ofL (trimZ (bs s)))) ∧ w' = w := by
  go_enter Tryz.func93, Tryz.ntmps93
  go_wp2
  go_loop [0] (fun v => ∃ t : ByteArray, t.size ≤ 1099511627776 ∧ v = .string t ∧ trimZ (bs t) = trimZ (bs s)) (fun v => match v with | .string t => t.size | _ => 0)
  case atStart => exact ⟨s, hs, rfl, rfl⟩
  case round =>
    obtain ⟨t, ht, rfl, hz⟩ := hrel
    have HZ := Lib.hid hz
    clear hz
    by_cases h1 : 1 < t.size
    · have h1' : (1 : Int) < (t.size : Int) := by omega
      have h0 : 0 < t.size := by omega
      by_cases hc : (t[0].toNat : Int) = 48
      · have hcb : ((t[0].toNat : Int) == 48) = true := by rw [hc]; rfl
        have HC := Lib.hid hc
        clear hc
        go_wp2
        refine ⟨⟨t.extract 1 t.size, by rw [ext_size]; omega, rfl, by rw [bs_ext, trimZ_tail h0 HC.out, HZ.out]⟩, ?_⟩
        show (t.extract 1 t.size).size < t.size
        rw [ext_size]; omega
      · have hcb : ((t[0].toNat : Int) == 48) = false := by rw [beq_eq_false_iff_ne]; exact hc
        have HC := Lib.hid hc
        clear hc
        have hemp := isEmpty_no h0
        go_wp2
        go_ret
        refine ⟨?_, rfl⟩
        rw [← HZ.out, trimZ_stop h0 HC.out]; rfl
    · have h1' : (t.size : Int) ≤ 1 := by omega
      by_cases h0 : 0 < t.size
      · have hemp := isEmpty_no h0
        go_wp2
        go_ret
        refine ⟨?_, rfl⟩
        rw [← HZ.out, trimZ_one (by omega)]; rfl
      · have hemp := isEmpty_yes (s := t) (by omega)
        go_wp2
        go_ret
        refine ⟨?_, rfl⟩
        rw [← HZ.out, bs_empty (by omega)]; rfl

theorem compareInt_cmpN (a b : Nat) : Lib.compareInt a b = cmpN a b := by
  unfold Lib.compareInt cmpN
  by_cases h1 : a < b
  · rw [if_pos (by omega), if_pos h1]
  · rw [if_neg (by omega), if_neg h1]
    by_cases h2 : a = b
    · rw [if_neg (by omega), if_pos h2]
    · rw [if_pos (by omega), if_neg h2]
theorem cmpN_cases (a b : Nat) : (a < b ∧ cmpN a b = -1) ∨ (a = b ∧ cmpN a b = 0) ∨ (b < a ∧ cmpN a b = 1) := by
  unfold cmpN
  by_cases h1 : a < b
  · left; rw [if_pos h1]; exact ⟨h1, rfl⟩
  · right
    by_cases h2 : a = b
    · left; rw [if_neg h1, if_pos h2]; exact ⟨h2, rfl⟩
    · right; rw [if_neg h1, if_neg h2]; exact ⟨by omega, rfl⟩

/-- the first number that is not 0 -/
def orZ : List Int → Int
  | [] => 0
  | x :: l => if x = 0 then orZ l else x
theorem cmp_val {l r : List UInt8} (hl : Canon l) (hr : Canon r) : orZ [cmpN l.length r.length, Lib.compareBytes l r] = cmpN (val l) (val r) := by
  rcases cmpN_cases l.length r.length with ⟨h, e⟩ | ⟨h, e⟩ | ⟨h, e⟩
  · have := canon_shorter hl hr h
    rw [e]; simp [orZ, cmpN, this]
  · rw [e, compare_val l r hl.dig hr.dig h]; simp [orZ]
    intro h0; exact h0.symm
  · have := canon_shorter hr hl h
    rw [e]
    have a : ¬ val l < val r := by omega
    have b : ¬ val l = val r := by omega
    simp [orZ, cmpN, a, b]

theorem cmpOr_two (x y : Int) (b : Nat) (w : World) (h0 : w.cell? ⟨b, 0, none⟩ = some (.int .i64 x)) (h1 : w.cell? ⟨b, 1, none⟩ = some (.int .i64 y)) :
    Calls Tryz.prog 86 #[.slice (some ⟨b, 0, none⟩) 2 2] w fun e w' => e = .returned (.int .i64 (orZ [x, y])) ∧ w' = w := by
  have HF := Lib.hid (show orZ [x, y] = if x = 0 then (if y = 0 then 0 else y) else x by simp [orZ])
  go_enter Tryz.func86, Tryz.ntmps86
  go_wp2
  go_loop [8] (fun i => (i = .int .i64 0) ∨ (i = .int .i64 1 ∧ x = 0) ∨ (i = .int .i64 2 ∧ x = 0 ∧ y = 0)) (fun i => 2 - (intOf i).toNat)
  case atStart => exact .inl rfl
  case round =>
    rcases hrel with rfl | ⟨rfl, hx⟩ | ⟨rfl, hx, hy⟩
    · by_cases hx : x = 0
      · have hxb : (x != 0) = false := by rw [hx]; rfl
        have HX := Lib.hid hx
        clear hx
        go_wp2
        exact ⟨.inr (.inl ⟨rfl, HX.out⟩), by simp [intOf]⟩
      · have hxb : (x != 0) = true := by rw [bne_iff_ne]; exact hx
        have HX := Lib.hid hx
        clear hx
        go_wp2
        go_ret
        refine ⟨?_, rfl⟩
        rw [HF.out, if_neg HX.out]; rfl
    · have HX := Lib.hid hx
      clear hx
      by_cases hy : y = 0
      · have hyb : (y != 0) = false := by rw [hy]; rfl
        have HY := Lib.hid hy
        clear hy
        go_wp2
        exact ⟨.inr (.inr ⟨rfl, HX.out, HY.out⟩), by simp [intOf]⟩
      · have hyb : (y != 0) = true := by rw [bne_iff_ne]; exact hy
        have HY := Lib.hid hy
        clear hy
        go_wp2
        go_ret
        refine ⟨?_, rfl⟩
        rw [HF.out, if_pos HX.out, if_neg HY.out]; rfl
    · have HX := Lib.hid hx
      have HY := Lib.hid hy
      clear hx hy
      go_wp2
      go_ret
      refine ⟨?_, rfl⟩
      rw [HF.out, if_pos HX.out, if_pos HY.out]; rfl

theorem natCmp_any (s t : ByteArray) (w : World) (hs : Canon (bs s)) (ht : Canon (bs t)) (hs' : s.size ≤ 1099511627776) (ht' : t.size ≤ 1099511627776) :
    Calls Tryz.prog 51 #[.string s, .string t] w fun e w' => e = .returned (.int .i64 (cmpN (val (bs s)) (val (bs t)))) ∧ Below w.heap.size w w' := by
  have hv := cmp_val hs ht
  rw [bs_length, bs_length] at hv
  rw [← hv]
  clear hv hs ht
  go_enter Tryz.func51, Tryz.ntmps51
  go_wp2_with fail
  refine (Tryz.cmp_Compare_int _ _ _).mono ?_
  rintro e w1 ⟨rfl, hw1⟩
  obtain rfl : w = w1 := hw1.symm
  rw [compareInt_cmpN]
  go_wp2_with fail
  refine (Tryz.strings_Compare _ _ _).mono ?_
  rintro e w2 ⟨rfl, hw2⟩
  obtain rfl : w = w2 := hw2.symm
  have hbb : Lib.compareBytes s.data.toList t.data.toList = Lib.compareBytes (bs s) (bs t) := rfl
  rw [hbb]
  obtain ⟨y, hy⟩ : ∃ y, Lib.compareBytes (bs s) (bs t) = y := ⟨_, rfl⟩
  obtain ⟨x, hx⟩ : ∃ x, cmpN s.size t.size = x := ⟨_, rfl⟩
  rw [hy, hx]
  have HX := Lib.hid hx
  have HY := Lib.hid hy
  clear hbb hx hy
  go_wp2_with fail
  refine (cmpOr_two x y _ _ (by simp) (by simp)).mono ?_
  rintro e w3 ⟨rfl, rfl⟩
  go_wp2
  go_ret
  refine ⟨by rw [HX.out, HY.out]; rfl, ?_⟩
  (repeat (first | exact Below.refl _ _ | assumption | refine Below.drew ?_ | refine Go.below_drewN ?_ _ | (refine Below.alloc ?_ (by first | exact Nat.le_refl _ | (simp; done) | (simp; omega) | (simp at *; omega)) _) | (refine Below.setCell ?_ (by first | exact Nat.le_refl _ | (simp; done) | (simp; omega)) _) | (refine Below.trans ?_ (Below.mono (by assumption) (by first | exact Nat.le_refl _ | (simp; done) | (simp; omega) | (simp at *; omega))))))


end Go.Proofs.YtjjpdoabagnmoaaGreatDoor
/-
  The contract of a natural times a power of ten, the program's. Conditions: a canonical row and a power, no longer than 2 to the 39.
-/
namespace Go.Proofs.YtjjpdoabagnmoaaGreatDoor
open Go.RowKit
set_option linter.unusedVariables false
set_option linter.unusedSimpArgs false

theorem repeat_zs (n : Nat) (w : World) (hn : n ≤ 549755813888) :
    Calls Tryz.prog 71 #[.string ⟨#[48]⟩, .int .i64 (n : Int)] w fun e w' => e = .returned (.string (ofL (zs n))) ∧ Below w.heap.size w w' := by
  refine (Tryz.strings_Repeat ⟨#[48]⟩ n w (by omega) (by show 1 * n ≤ _; omega)).mono ?_
  rintro e w' ⟨rfl, hb⟩
  refine ⟨?_, hb⟩
  rw [← zs_repeat]; rfl

theorem natShift_any (s : ByteArray) (n : Nat) (w : World) (hc : Canon (bs s)) (hs : s.size ≤ 549755813888) (hn : n ≤ 549755813888) :
    Calls Tryz.prog 50 #[.string s, .int .i64 (n : Int)] w fun e w' => e = .returned (.string (ofL (dec (val (bs s) * 10 ^ n)))) ∧ Below w.heap.size w w' := by
  by_cases hz : bs s = [48]
  · have hzb : (s.toList == [48]) = true := by rw [toList_bs, hz]; rfl
    have hv : val (bs s) * 10 ^ n = 0 := by rw [hz, show val [48] = 0 from rfl, Nat.zero_mul]
    have hs0 : s = ofL (dec 0) := by rw [dec_zero, ← hz, ofL_bs]
    rw [hv, ← hs0]
    clear hv hs0 hz hc
    go_enter Tryz.func50, Tryz.ntmps50
    go_wp2
    go_ret
    exact ⟨rfl, Below.refl _ _⟩
  · have hzb : (s.toList == [48]) = false := by rw [toList_bs]; simpa using hz
    have hp : 0 < val (bs s) := by
      by_cases e : val (bs s) = 0
      · have := canon_dec hc
        rw [e, dec_zero] at this; exact absurd this.symm hz
      · omega
    have HD := Lib.hid (dec_shift hc hp n)
    have hsz := size_ofL (zs n)
    rw [zs_len] at hsz
    clear hz hp hc
    go_enter Tryz.func50, Tryz.ntmps50
    go_wp2_with fail
    refine (repeat_zs n _ hn).mono ?_
    rintro e w1 ⟨rfl, hb1⟩
    have HB1 := Lib.hid hb1
    clear hb1
    have hno : ¬ (9223372036854775807 < s.size + n) := by omega
    go_wp2
    go_ret
    refine ⟨?_, HB1.out⟩
    have e : bs (s ++ ofL (zs n)) = dec (val (bs s) * 10 ^ n) := by rw [bs_app, bs_ofL, HD.out]
    rw [← e, ofL_bs]; rfl
end Go.Proofs.YtjjpdoabagnmoaaGreatDoor
/-
  The contract of so many noughts, the reference's. Condition: no more than 2 to the 39.
-/
namespace Go.Proofs.YtjjpdoabagnmoaaGreatDoor
open Go.RowKit
set_option linter.unusedVariables false
set_option linter.unusedSimpArgs false

theorem l02Zeros_any (n : Nat) (w : World) (hn : n ≤ 549755813888) :
    Calls Tryz.prog 40 #[.int .i64 (n : Int)] w fun e w' => e = .returned (.string (ofL (zs n))) ∧ Below w.heap.size w w' := by
  obtain ⟨i0, hinf, hy0, hy1, hy2⟩ := info_parts infoByte
  go_enter Tryz.func40, Tryz.ntmps40
  go_wp2
  go_loopw [3, 4] (fun v i wr => ∃ (k g cap : Nat), k ≤ n ∧ i = .int .i64 k ∧ v = .slice (some ⟨g, 0, none⟩) k cap ∧ wr.ownsRow w.heap.size 5 1 (.slice (some ⟨g, 0, none⟩) k cap) k ((zs k).map byteV) ∧ Below w.heap.size w wr) (fun _ i _ => n - (intOf i).toNat)
  case atStart =>
    exact ⟨0, w.heap.size, 0, Nat.zero_le _, rfl, rfl, ownsRow_empty _ _ _ (Nat.le_refl _), (Below.refl _ _).alloc (Nat.le_refl _) _⟩
  case round =>
    obtain ⟨k, g, cap, hk, rfl, rfl, hown, hb⟩ := hrel
    have HOW := Lib.hid hown
    have HBW := Lib.hid hb
    have hlow := hb.size
    clear hown hb
    by_cases hlt : k < n
    · go_wp2_with (at_builtin; refine wpList_append_own _ rfl _ _ 28 rfl w.heap.size 5 i0 (.int .u8 0) 1 1 Tryz.underlying28 hinf hy0 hy1 hy2 rfl (by decide) _ _ _ rfl (HOW.out.alloc _) ⟨wr.heap.size, 0, none⟩ 1 1 [.int .u8 48] rfl rfl (ownsRow_news (ownsRow_one wr w.heap.size 5 _ hlow)) (fun u hu => by simp at hu; subst hu; rfl) (by unfold maxLen; omega) (by omega) (by simp; omega) ?_; intro v2 w2 hown2 hgr2 hnil2)
      obtain ⟨g2, cap2, rfl, hg2, hg2'⟩ := ownsRow_some hown2 (by omega)
      have hbz : Below w.heap.size w w2 := Below.grown (HBW.out.alloc hlow _) hgr2 (by simp; omega) (ownBlock_lo HOW.out)
      refine ⟨⟨k + 1, g2, cap2, by omega, by go_num, rfl, ?_, hbz⟩, by simp [intOf]; omega⟩
      rw [zs_succ, List.map_append]
      exact hown2
    · obtain rfl : k = n := by omega
      have hconv := textOfOwned HOW.out
      go_wp2
      go_ret
      exact ⟨rfl, HBW.out⟩
end Go.Proofs.YtjjpdoabagnmoaaGreatDoor
/-
  Two numbers by one power of ten: the contracts of digits and aligned, of l03Dig and l03Level. Condition: numbers in form.
-/
namespace Go.Proofs.YtjjpdoabagnmoaaGreatDoor
open Go.RowKit
set_option linter.unusedVariables false
set_option linter.unusedSimpArgs false

/-- a number's digits -/
def dg (s : ByteArray) : ByteArray := if s.size = 0 then ⟨#[48]⟩ else s
theorem dg_nil {s : ByteArray} (h : s.size = 0) : dg s = ⟨#[48]⟩ := if_pos h
theorem dg_some {s : ByteArray} (h : 0 < s.size) : dg s = s := if_neg (by omega)
/-- a number in form: its bounds -/
theorem dec_facts {n : Bool} {s : ByteArray} {x : Int} (h : decOk n (bs s) x = true) :
    s.size ≤ 20 ∧ -119 ≤ x ∧ x ≤ 99 ∧ Canon (bs (dg s)) ∧ val (bs (dg s)) = val (bs s) ∧ 1 ≤ (dg s).size ∧ (dg s).size ≤ 20 ∧ (n = true → 0 < val (bs s)) ∧ (0 < s.size → 0 < val (bs s)) := by
  by_cases h0 : 0 < s.size
  · have hne : bs s ≠ [] := ne_nil h0
    obtain ⟨c, hv, hl, -⟩ := form_same h hne
    rw [bs_length] at hl
    unfold decOk at h
    rw [if_neg hne] at h
    simp only [Bool.and_eq_true, decide_eq_true_eq, bs_length] at h
    obtain ⟨⟨-, h5⟩, h6⟩ := h
    rw [dg_some h0]
    exact ⟨hl, by omega, by omega, c, rfl, by omega, hl, fun _ => by omega, fun _ => by omega⟩
  · obtain ⟨rfl, rfl, rfl⟩ := decOk_zero h (by omega)
    refine ⟨by decide, by decide, by decide, ?_, rfl, by decide, by decide, (fun h => by cases h), (fun h => absurd h (by decide))⟩
    have : bs (dg ⟨#[]⟩) = dec 0 := by rw [dec_zero]; rfl
    rw [this]; exact dec_canon 0
/-- a number's digits by the lower one of two powers of ten -/
def lvl (s : ByteArray) (x y : Int) : Nat := val (bs s) * 10 ^ (x - min x y).toNat

theorem drew_size (u : World) : u.drew.heap.size = u.heap.size := rfl
/-- two numbers just laid -/
theorem two_laid (w : World) (n : Bool) (s : ByteArray) (x : Int) (m : Bool) (t : ByteArray) (y : Int) :
    ∃ w0, (w.alloc (Obj.cells #[.bool n, .string s, .int .i64 x] 23)).alloc (Obj.cells #[.bool m, .string t, .int .i64 y] 23) = w0 ∧ (w.heap.size < w0.heap.size ∧ w.heap.size + 1 < w0.heap.size) ∧ Below w.heap.size w w0 ∧
      (w0.cell? ⟨w.heap.size, 0, none⟩ = some (.bool n) ∧ w0.cell? ⟨w.heap.size, 1, none⟩ = some (.string s) ∧ w0.cell? ⟨w.heap.size, 2, none⟩ = some (.int .i64 x) ∧ w0.cell? ⟨w.heap.size + 1, 0, none⟩ = some (.bool m) ∧ w0.cell? ⟨w.heap.size + 1, 1, none⟩ = some (.string t) ∧ w0.cell? ⟨w.heap.size + 1, 2, none⟩ = some (.int .i64 y)) := by
  refine ⟨_, rfl, ⟨by simp; omega, by simp⟩, ((Below.refl _ w).alloc (Nat.le_refl _) _).alloc (by simp) _, ?_⟩
  simp
/-- a call leaves them -/
theorem two_kept {w w1 : World} {p q : Nat} {n : Bool} {s : ByteArray} {x : Int} {m : Bool} {t : ByteArray} {y : Int} (hb : Below w.heap.size w w1) (hp : p < w.heap.size ∧ q < w.heap.size) {v : World} (hv : Below v.heap.size v w)
    (h : w.cell? ⟨p, 0, none⟩ = some (.bool n) ∧ w.cell? ⟨p, 1, none⟩ = some (.string s) ∧ w.cell? ⟨p, 2, none⟩ = some (.int .i64 x) ∧ w.cell? ⟨q, 0, none⟩ = some (.bool m) ∧ w.cell? ⟨q, 1, none⟩ = some (.string t) ∧ w.cell? ⟨q, 2, none⟩ = some (.int .i64 y)) :
    Below v.heap.size v w1 ∧ (p < w1.heap.size ∧ q < w1.heap.size) ∧ (w1.cell? ⟨p, 0, none⟩ = some (.bool n) ∧ w1.cell? ⟨p, 1, none⟩ = some (.string s) ∧ w1.cell? ⟨p, 2, none⟩ = some (.int .i64 x) ∧ w1.cell? ⟨q, 0, none⟩ = some (.bool m) ∧ w1.cell? ⟨q, 1, none⟩ = some (.string t) ∧ w1.cell? ⟨q, 2, none⟩ = some (.int .i64 y)) := by
  have c := (bcell hb).1
  rw [c p 0 hp.1, c p 1 hp.1, c p 2 hp.1, c q 0 hp.2, c q 1 hp.2, c q 2 hp.2]
  exact ⟨hv.trans (hb.mono hv.size), ⟨Nat.lt_of_lt_of_le hp.1 hb.size, Nat.lt_of_lt_of_le hp.2 hb.size⟩, h⟩

theorem digits_any (n : Bool) (s : ByteArray) (x : Int) (w : World) :
    Calls Tryz.prog 85 #[.agg #[.bool n, .string s, .int .i64 x]] w fun e w' => e = .returned (.string (dg s)) ∧ Below w.heap.size w w' := by
  by_cases h0 : 0 < s.size
  · have hemp := isEmpty_no h0
    rw [dg_some h0]
    go_enter Tryz.func85, Tryz.ntmps85
    go_wp2
    go_ret
    refine ⟨rfl, ?_⟩
    go_light
    (repeat (first | exact Below.refl _ _ | assumption | refine Below.drew ?_ | refine Go.below_drewN ?_ _ | (refine Below.alloc ?_ (by first | exact Nat.le_refl _ | (simp; done) | (simp; omega) | (simp at *; omega)) _) | (refine Below.setCell ?_ (by first | exact Nat.le_refl _ | (simp; done) | (simp; omega)) _) | (refine Below.trans ?_ (Below.mono (by assumption) (by first | exact Nat.le_refl _ | (simp; done) | (simp; omega) | (simp at *; omega))))))
  · have hemp := isEmpty_yes (s := s) (by omega)
    rw [dg_nil (by omega)]
    go_enter Tryz.func85, Tryz.ntmps85
    go_wp2
    go_ret
    refine ⟨rfl, ?_⟩
    go_light
    (repeat (first | exact Below.refl _ _ | assumption | refine Below.drew ?_ | refine Go.below_drewN ?_ _ | (refine Below.alloc ?_ (by first | exact Nat.le_refl _ | (simp; done) | (simp; omega) | (simp at *; omega)) _) | (refine Below.setCell ?_ (by first | exact Nat.le_refl _ | (simp; done) | (simp; omega)) _) | (refine Below.trans ?_ (Below.mono (by assumption) (by first | exact Nat.le_refl _ | (simp; done) | (simp; omega) | (simp at *; omega))))))


set_option maxRecDepth 10000 in
theorem aligned_any (n : Bool) (s : ByteArray) (x : Int) (m : Bool) (t : ByteArray) (y : Int) (w : World) (h1 : decOk n (bs s) x = true) (h2 : decOk m (bs t) y = true) :
    Calls Tryz.prog 81 #[.agg #[.bool n, .string s, .int .i64 x], .agg #[.bool m, .string t, .int .i64 y]] w fun e w' => e = .returned (.tuple #[.string (ofL (dec (lvl s x y))), .string (ofL (dec (lvl t y x))), .int .i64 (min x y)]) ∧ Below w.heap.size w w' := by
  obtain ⟨a1, a2, a3, a4, a5, a6, a7, -, -⟩ := dec_facts h1
  obtain ⟨b1, b2, b3, b4, b5, b6, b7, -, -⟩ := dec_facts h2
  clear h1 h2
  obtain ⟨z, hz⟩ : ∃ z, min x y = z := ⟨_, rfl⟩
  have hzx : z ≤ x := by omega
  have hzy : z ≤ y := by omega
  have hzl : -119 ≤ z := by omega
  have ex : ((x - z).toNat : Int) = x - z := by omega
  have ey : ((y - z).toNat : Int) = y - z := by omega
  have hS := Lib.hid (fun w => by
    have := natShift_any (dg s) (x - z).toNat w a4 (by omega) (by omega)
    rw [a5, ex] at this
    exact this : ∀ w : World, Calls Tryz.prog 50 #[.string (dg s), .int .i64 (x - z)] w fun e w' => e = .returned (.string (ofL (dec (val (bs s) * 10 ^ (x - z).toNat)))) ∧ Below w.heap.size w w')
  have hT := Lib.hid (fun w => by
    have := natShift_any (dg t) (y - z).toNat w b4 (by omega) (by omega)
    rw [b5, ey] at this
    exact this : ∀ w : World, Calls Tryz.prog 50 #[.string (dg t), .int .i64 (y - z)] w fun e w' => e = .returned (.string (ofL (dec (val (bs t) * 10 ^ (y - z).toNat)))) ∧ Below w.heap.size w w')
  have e1 : lvl s x y = val (bs s) * 10 ^ (x - z).toNat := by unfold lvl; rw [hz]
  have e2 : lvl t y x = val (bs t) * 10 ^ (y - z).toNat := by unfold lvl; rw [show min y x = z by omega]
  rw [e1, e2, hz]
  have wx : IntKind.i64.wrap (x - z) = x - z := IntWalk.i64_in _ (by omega)
  have wy : IntKind.i64.wrap (y - z) = y - z := IntWalk.i64_in _ (by omega)
  clear e1 e2 a4 b4 a5 b5 ex ey
  have hl0 : w.heap.size < w.heap.size + 1 + 1 := by omega
  go_enter Tryz.func81, Tryz.ntmps81
  go_wp2_with fail
  obtain ⟨w0, hw0, hz0, hb0, hc0⟩ := two_laid w n s x m t y
  rw [hw0]
  clear hw0
  go_region_held3 (fun w' => w'.cell? ⟨w.heap.size, 0, none⟩ = some (.bool n) ∧ w'.cell? ⟨w.heap.size, 1, none⟩ = some (.string s) ∧ w'.cell? ⟨w.heap.size, 2, none⟩ = some (.int .i64 x) ∧ w'.cell? ⟨w.heap.size + 1, 0, none⟩ = some (.bool m) ∧ w'.cell? ⟨w.heap.size + 1, 1, none⟩ = some (.string t) ∧ w'.cell? ⟨w.heap.size + 1, 2, none⟩ = some (.int .i64 y)) (first | assumption | go_keep)
    (first
      | (go_at_call 85; refine (digits_any _ _ _ _).mono ?_; rintro e w1 ⟨rfl, hb1⟩; obtain ⟨hv1, hz1, hc1⟩ := two_kept hb1 (by assumption) (v := w) (by first | assumption | exact Below.drew (by assumption)) (by assumption); clear hb1)
      | (go_at_call_of 50 (dg s); refine (hS.out _).mono ?_; rintro e w1 ⟨rfl, hb1⟩; obtain ⟨hv1, hz1, hc1⟩ := two_kept hb1 (by assumption) (v := w) (by first | assumption | exact Below.drew (by assumption)) (by assumption); clear hb1)
      | (go_at_call_of 50 (dg t); refine (hT.out _).mono ?_; rintro e w1 ⟨rfl, hb1⟩; obtain ⟨hv1, hz1, hc1⟩ := two_kept hb1 (by assumption) (v := w) (by first | assumption | exact Below.drew (by assumption)) (by assumption); clear hb1))
  clear hS hT
  go_wp2
  refine bodyPost_ret (v := .tuple #[.string (ofL (dec (val (bs s) * 10 ^ (x - z).toNat))), .string (ofL (dec (val (bs t) * 10 ^ (y - z).toNat))), .int .i64 z]) (by simp [results, Tryz.results81, go_sem, *]) rfl ⟨rfl, ?_⟩
  assumption

/-- the digits of a number by the lower one of two powers of ten, as a row -/
def lvL (s : ByteArray) (x y : Int) : List UInt8 := bs (dg s) ++ zs (x - min x y).toNat
theorem lvL_val (s : ByteArray) (x y : Int) (h : val (bs (dg s)) = val (bs s)) : val (lvL s x y) = lvl s x y := by
  unfold lvL lvl; rw [val_zs, h]
theorem lvL_all (s : ByteArray) (x y : Int) (h : Canon (bs (dg s))) : (lvL s x y).all isDig = true := all_zs h.dig _
theorem lvL_of {s : ByteArray} {x y z : Int} (h : min x y = z) : ofL (lvL s x y) = dg s ++ ofL (zs (x - z).toNat) := by
  apply bs_inj
  rw [bs_ofL, bs_app, bs_ofL, ← h]; rfl

end Go.Proofs.YtjjpdoabagnmoaaGreatDoor
/-
  The contracts of adding naturals, the program's: the row of the sum. Conditions: rows of digits, no longer than 2 to the 39.
-/
namespace Go.Proofs.YtjjpdoabagnmoaaGreatDoor
open Go.RowKit
set_option linter.unusedVariables false
set_option linter.unusedSimpArgs false

theorem ret_str {s t : ByteArray} (h : s = t) : Ending.returned (.string s) = .returned (.string t) := by rw [h]

set_option maxHeartbeats 1000000 in
theorem natAdd_any (s t : ByteArray) (w : World) (hs : (bs s).all isDig = true) (ht : (bs t).all isDig = true) (hs' : s.size ≤ 549755813888) (ht' : t.size ≤ 549755813888) :
    Calls Tryz.prog 82 #[.string s, .string t] w fun e w' => e = .returned (.string (ofL (dec (val (bs s) + val (bs t))))) ∧ Below w.heap.size w w' := by
  obtain ⟨n, hn⟩ : ∃ n : Nat, n = max s.size t.size + 1 := ⟨_, rfl⟩
  have hmk := makeBytes n (by omega)
  have HF := Lib.hid (fillBytes w n)
  have HS := Lib.hid hs
  have HT := Lib.hid ht
  have hA := val_lt (bs s) hs
  have hB := val_lt (bs t) ht
  rw [bs_length] at hA hB
  have hlt : val (bs s) + val (bs t) < 10 ^ n := by
    have h1 : 10 ^ s.size ≤ 10 ^ (max s.size t.size) := Nat.pow_le_pow_right (by omega) (by omega)
    have h2 : 10 ^ t.size ≤ 10 ^ (max s.size t.size) := Nat.pow_le_pow_right (by omega) (by omega)
    rw [hn, Nat.pow_succ]; omega
  have HLT := Lib.hid hlt
  have hmax : (max (s.size : Int) (t.size : Int)) + 1 = (n : Int) := by omega
  have hn0 : 1 ≤ n := by omega
  have hnb : n ≤ 549755813889 := by omega
  have HN := Lib.hid hn
  clear hs ht hA hB hlt hn
  go_enter Tryz.func82, Tryz.ntmps82
  go_wp2
  clear hmk hmax
  go_loopw [7, 18] (fun c i wr => ∃ k : Nat, k ≤ n ∧ i = .int .i64 k ∧ c = .int .i64 (car (val (bs s)) (val (bs t)) k : Nat) ∧ Fill w wr w.heap.size n (fun j => if n - k ≤ j then .int .u8 (48 + (dgt (val (bs s) + val (bs t)) (n - 1 - j) : Nat)) else .int .u8 0)) (fun _ i _ => n - (intOf i).toNat)
  case atStart =>
    refine ⟨0, Nat.zero_le _, rfl, by rw [car_zero]; rfl, HF.out.congr (fun j hj => ?_)⟩
    rw [if_neg (by omega)]
  case round =>
    obtain ⟨k, hk, rfl, rfl, hfill⟩ := hrel
    have HI := Lib.hid hfill
    clear hfill
    obtain ⟨A, hA⟩ : ∃ A, val (bs s) = A := ⟨_, rfl⟩
    obtain ⟨B, hB⟩ : ∃ B, val (bs t) = B := ⟨_, rfl⟩
    rw [hA, hB] at HI ⊢
    have HA := Lib.hid hA
    have HB := Lib.hid hB
    clear hA hB
    by_cases hlt : k < n
    · have c1 := car_le A B k
      have c2 := dgt_lt A k
      have c3 := dgt_lt B k
      have HC4 := Lib.hid (car_succ A B k)
      have HC5 := Lib.hid (car_dgt A B k)
      obtain ⟨c, hc⟩ : ∃ c, car A B k = c := ⟨_, rfl⟩
      obtain ⟨x, hx⟩ : ∃ x, dgt A k = x := ⟨_, rfl⟩
      obtain ⟨y, hy⟩ : ∃ y, dgt B k = y := ⟨_, rfl⟩
      rw [hc] at c1 ⊢
      rw [hx] at c2
      rw [hy] at c3
      have HC := Lib.hid hc
      have HX := Lib.hid hx
      have HY := Lib.hid hy
      clear hc hx hy
      have hs0 := HI.out.cell (n - 1 - k) (by omega)
      have hf0 := HI.out.free (n - 1 - k) (by omega)
      rw [if_neg (by omega)] at hs0
      have ht0 : ((n : Int) - 1 - (k : Int)).toNat = n - 1 - k := by omega
      have ht1 : 0 ≤ (n : Int) - 1 - (k : Int) := by omega
      have ht2 : (n : Int) - 1 - (k : Int) < (n : Int) := by omega
      have hkn : (k : Int) < (n : Int) := by omega
      have hd0 : 0 ≤ ((c : Int) + ((x : Int) + (y : Int))) / 10 := by omega
      have hd1 : ((c : Int) + ((x : Int) + (y : Int))) / 10 ≤ 1 := by omega
      have hm0 : 0 ≤ ((c : Int) + ((x : Int) + (y : Int))) % 10 := by omega
      have hm1 : ((c : Int) + ((x : Int) + (y : Int))) % 10 ≤ 9 := by omega
      go_wp2_with fail
      refine (digitAt_any s k _ HS.out (by omega) (by omega)).mono ?_
      rintro e w1 ⟨rfl, hw1⟩
      obtain rfl : wr = w1 := hw1.symm
      rw [HA.out, HX.out]
      go_wp2_with fail
      refine (digitAt_any t k _ HT.out (by omega) (by omega)).mono ?_
      rintro e w2 ⟨rfl, hw2⟩
      obtain rfl : wr = w2 := hw2.symm
      rw [HB.out, HY.out]
      clear hw1 hw2
      go_wp2
      have e4 := HC4.out
      have e5 := HC5.out
      rw [HC.out, HX.out, HY.out] at e4 e5
      refine ⟨⟨k + 1, by omega, by go_num, by rw [← e4]; congr 1; omega, ?_⟩, by simp [intOf]; omega⟩
      refine (HI.out.store (j := n - 1 - k) (by omega) _).congr ?_
      intro j hj
      by_cases e : j = n - 1 - k
      · rw [if_pos e, if_pos (by omega), e, show n - 1 - (n - 1 - k) = k by omega, ← e5]
        congr 1
        omega
      · rw [if_neg e]
        by_cases e1 : n - k ≤ j
        · rw [if_pos e1, if_pos (by omega)]
        · rw [if_neg e1, if_neg (by omega)]
    · obtain rfl : k = n := by omega
      have hconv := textOfDigs (cap := k) (HI.out.congr (fun j hj => if_pos (by omega)))
      have HTD := Lib.hid (trimZ_digs HLT.out)
      go_wp2_with fail
      refine (trimNat_any _ _).mono ?_
      rintro e w1 ⟨rfl, rfl⟩
      go_wp2
      go_ret
      refine ⟨ret_str ?_, HI.out.below⟩
      rw [bs_ofL, ← HA.out, ← HB.out, HTD.out]
end Go.Proofs.YtjjpdoabagnmoaaGreatDoor
/-
  The contract of rounding a natural by a power of ten, the program's. Conditions: a canonical row and a power, no longer than 2 to the 38.
-/
namespace Go.Proofs.YtjjpdoabagnmoaaGreatDoor
open Go.RowKit
set_option linter.unusedVariables false
set_option linter.unusedSimpArgs false

theorem bs_front (s : ByteArray) (k : Nat) : bs (s.extract 0 k) = (bs s).take k := by
  show (s.extract 0 k).data.toList = _
  rw [Lib.extract_data]; simp [bs]
theorem bs_tail (s : ByteArray) (k : Nat) : bs (s.extract k s.size) = (bs s).drop k := by
  show (s.extract k s.size).data.toList = _
  rw [Lib.extract_data]
  exact List.take_of_length_le (by rw [List.length_drop, show s.data.toList = bs s from rfl, bs_length]; exact Nat.le_refl _)
theorem all_take {l : List UInt8} (h : l.all isDig = true) (k : Nat) : (l.take k).all isDig = true := by
  rw [List.all_eq_true] at h ⊢; exact fun c hc => h c (List.mem_of_mem_take hc)
theorem all_drop {l : List UInt8} (h : l.all isDig = true) (k : Nat) : (l.drop k).all isDig = true := by
  rw [List.all_eq_true] at h ⊢; exact fun c hc => h c (List.mem_of_mem_drop hc)

theorem natAdd_one (m : Nat) (w : World) (hm : (dec m).length ≤ 549755813888) :
    Calls Tryz.prog 82 #[.string (ofL (dec m)), .string ⟨#[49]⟩] w fun e w' => e = .returned (.string (ofL (dec (m + 1)))) ∧ Below w.heap.size w w' := by
  have h := natAdd_any (ofL (dec m)) ⟨#[49]⟩ w (by rw [bs_ofL]; exact dec_all m) (by decide) (by rw [size_ofL]; exact hm) (by decide)
  rw [bs_ofL, val_dec, show val (bs ⟨#[49]⟩) = 1 from by decide] at h
  exact h

/-- the string of a canonical number, its last digit -/
theorem last_dec (m : Nat) : ∃ q : ByteArray, ofL (dec m) = q ∧ bs q = dec m ∧ ∃ h : 0 < q.size, q[q.size - 1].toNat = 48 + m % 10 := by
  refine ⟨ofL (dec m), rfl, rfl, ?_⟩
  have hl := dec_len m
  have hs := size_ofL (dec m)
  refine ⟨by omega, ?_⟩
  have e : (ofL (dec m))[(ofL (dec m)).size - 1]'(by omega) = (dec m)[(dec m).length - 1]'(by omega) := by
    rw [← bs_get (ofL (dec m)) _ (by omega)]
    congr 1
    try rw [hs]
  rw [e, dec_last m, ofNat_dig (Nat.mod_lt _ (by omega))]

set_option maxRecDepth 10000 in
set_option maxHeartbeats 1000000 in
theorem natRound_any (s : ByteArray) (n : Nat) (w : World) (hc : Canon (bs s)) (hs : s.size ≤ 274877906944) (hn : n ≤ 274877906944) :
    Calls Tryz.prog 79 #[.string s, .int .i64 (n : Int)] w fun e w' => e = .returned (.string (ofL (dec (roundV (val (bs s)) n)))) ∧ Below w.heap.size w w' := by
  by_cases h0 : n = 0
  · have e : s = ofL (dec (roundV (val (bs s)) n)) := by rw [h0, roundV_zero, canon_dec hc, ofL_bs]
    rw [← e]
    have hnb : ((n : Int) == 0) = true := beq_iff_eq.2 (by omega)
    clear e hc h0
    go_enter Tryz.func79, Tryz.ntmps79
    go_wp2
    go_ret
    exact ⟨rfl, Below.refl _ _⟩
  · have hnb : ((n : Int) == 0) = false := beq_eq_false_iff_ne.2 (by omega)
    by_cases hbig : s.size < n
    · have hlt := val_lt (bs s) hc.dig
      rw [bs_length] at hlt
      have e : ofL (dec (roundV (val (bs s)) n)) = ⟨#[48]⟩ := by rw [roundV_small hlt hbig, dec_zero]; rfl
      rw [e]
      clear e hc h0 hlt
      go_enter Tryz.func79, Tryz.ntmps79
      go_wp2
      go_ret
      exact ⟨rfl, Below.refl _ _⟩
    · obtain ⟨m, hm⟩ : ∃ m, n = m + 1 := ⟨n - 1, by omega⟩
      obtain ⟨f1, f2⟩ := val_front hc.dig (n := n) (by rw [bs_length]; omega)
      rw [bs_length] at f1 f2
      have HTR := Lib.hid (show trimZ (bs (s.extract 0 (s.size - n))) = dec (val (bs s) / 10 ^ n) by rw [bs_front, trimZ_dec _ (all_take hc.dig _), f1])
      have hlx : ((bs s).drop (s.size - n)).length = n := by rw [List.length_drop, bs_length]; omega
      have HRC := Lib.hid (round_three (n := m) (all_drop hc.dig _) (hlx.trans hm) (by rw [← hm]; exact f2))
      rw [← hm] at HRC
      obtain ⟨q, hq, hqb, hq0, hql⟩ := last_dec (val (bs s) / 10 ^ n)
      have hlen : (dec (val (bs s) / 10 ^ n)).length ≤ s.size + 1 := by
        rw [← f1, ← trimZ_dec _ (all_take hc.dig _)]
        have := trimZ_len ((bs s).take (s.size - n))
        rw [List.length_take, bs_length] at this
        omega
      obtain ⟨Q, hQ⟩ : ∃ Q, val (bs s) / 10 ^ n = Q := ⟨_, rfl⟩
      rw [hQ] at hq hqb hql hlen HTR HRC
      have HQ := Lib.hid hq
      have HLEN := Lib.hid hlen
      have htail := bs_tail s (s.size - n)
      obtain ⟨y, hy⟩ : ∃ y, s.extract (s.size - n) s.size = y := ⟨_, rfl⟩
      rw [← htail, hy] at HRC
      have HY := Lib.hid hy
      have hz := size_ofL (zs m)
      rw [zs_len] at hz
      have hno : ¬ (9223372036854775807 < 1 + m) := by omega
      obtain ⟨V, hV⟩ : ∃ V, roundV (val (bs s)) n = V := ⟨_, rfl⟩
      rw [hV] at HRC ⊢
      have hi1 : 0 ≤ (s.size : Int) - (n : Int) := by omega
      have hi2 : (s.size : Int) - (n : Int) ≤ (s.size : Int) := by omega
      have hi3 : ((s.size : Int) - (n : Int)).toNat = s.size - n := by omega
      have hi4 : (n : Int) - 1 = (m : Int) := by omega
      have hno : ¬ (9223372036854775807 < 1 + m) := by omega
      have hqs : q.size ≤ 274877906945 := by
        rw [← hq, size_ofL]; omega
      have hqw : wrap64 ((q.size : Int) - 1) = (q.size : Int) - 1 := IntWalk.wrap64_in _ (by omega)
      have hqt : ((q.size : Int) - 1).toNat = q.size - 1 := by omega
      have hq1 : 0 ≤ (q.size : Int) - 1 := by omega
      have hq2 : (q.size : Int) - 1 < (q.size : Int) := by omega
      have hq3 : 48 ≤ (q[q.size - 1].toNat : Int) := by omega
      have hq4 : (q[q.size - 1].toNat : Int) ≤ 57 := by omega
      have hHl : ((⟨#[53]⟩ : ByteArray) ++ ofL (zs m)).toList = 53 :: zs m := by rw [toList_bs, bs_app, bs_ofL]; rfl
      have hyl : y.toList = bs y := toList_bs y
      have HADD := Lib.hid (fun (w : World) => by rw [← hq]; exact natAdd_one Q w (by omega) : ∀ w : World, Calls Tryz.prog 82 #[.string q, .string ⟨#[49]⟩] w fun e w' => e = .returned (.string (ofL (dec (Q + 1)))) ∧ Below w.heap.size w w')
      rcases HRC.out with ⟨r1, r2, r3⟩ | ⟨r1, r2, r3⟩ | ⟨r1, r2, r3⟩ | ⟨r1, r2, r3⟩
      · have t1 : Op.bytesLess y.toList ((⟨#[53]⟩ : ByteArray) ++ ofL (zs m)).toList = false := by rw [hHl, hyl]; exact r1
        have t2 : ¬ (y.toList = ((⟨#[53]⟩ : ByteArray) ++ ofL (zs m)).toList) := by rw [hHl, hyl]; exact r2
        have R3 := Lib.hid r3
        clear hq hqb hlen htail hy hV hQ hlx f1 f2 hc h0 hm r1 r2 r3 hHl hyl HRC hql
        go_enter Tryz.func79, Tryz.ntmps79
        go_wp2_with fail
        go_quiet ((go_at_call 75; exact Calls.quiet_of_same (trimNat_any _ _)))
        rw [HTR.out, HQ.out, HY.out]
        go_wp2_with fail
        refine (repeat_zs m _ (by omega)).mono ?_
        rintro e w1 ⟨rfl, hb1⟩
        have HB1 := Lib.hid ((Go.below_drewN (Below.refl _ w) nq).trans hb1)
        clear hb1
        go_wp2_with fail
        refine (HADD.out _).mono ?_
        rintro e w2 ⟨rfl, hb2⟩
        have HB2 := Lib.hid (HB1.out.trans (hb2.mono HB1.out.size))
        clear hb2
        go_wp2
        go_ret
        exact ⟨ret_str (by rw [R3.out]), HB2.out⟩
      · have t1 : Op.bytesLess y.toList ((⟨#[53]⟩ : ByteArray) ++ ofL (zs m)).toList = true := by rw [hHl, hyl]; exact r1
        have t2 : ¬ (y.toList = ((⟨#[53]⟩ : ByteArray) ++ ofL (zs m)).toList) := by rw [hHl, hyl]; exact r2
        have R3 := Lib.hid r3
        clear hq hqb hlen htail hy hV hQ hlx f1 f2 hc h0 hm r1 r2 r3 hHl hyl HRC hql
        go_enter Tryz.func79, Tryz.ntmps79
        go_wp2_with fail
        go_quiet ((go_at_call 75; exact Calls.quiet_of_same (trimNat_any _ _)))
        rw [HTR.out, HQ.out, HY.out]
        go_wp2_with fail
        refine (repeat_zs m _ (by omega)).mono ?_
        rintro e w1 ⟨rfl, hb1⟩
        have HB1 := Lib.hid ((Go.below_drewN (Below.refl _ w) nq).trans hb1)
        clear hb1
        go_wp2
        go_ret
        exact ⟨ret_str (by rw [R3.out, HQ.out]), HB1.out⟩
      · have t2 : y.toList = ((⟨#[53]⟩ : ByteArray) ++ ofL (zs m)).toList := by rw [hHl, hyl]; exact r1
        have t3 : Op.bytesLess ((⟨#[53]⟩ : ByteArray) ++ ofL (zs m)).toList ((⟨#[53]⟩ : ByteArray) ++ ofL (zs m)).toList = false := less_self _
        have t1 : Op.bytesLess y.toList ((⟨#[53]⟩ : ByteArray) ++ ofL (zs m)).toList = false := by rw [t2]; exact less_self _
        have t4 : (((q[q.size - 1].toNat : Int) - 48) % 2 == 1) = true := by first | (rw [beq_iff_eq]; omega) | (rw [beq_eq_false_iff_ne]; omega)
        have R3 := Lib.hid r3
        clear hq hqb hlen htail hy hV hQ hlx f1 f2 hc h0 hm r1 r2 r3 hHl hyl HRC hql
        go_enter Tryz.func79, Tryz.ntmps79
        go_wp2_with fail
        go_quiet ((go_at_call 75; exact Calls.quiet_of_same (trimNat_any _ _)))
        rw [HTR.out, HQ.out, HY.out]
        go_wp2_with fail
        refine (repeat_zs m _ (by omega)).mono ?_
        rintro e w1 ⟨rfl, hb1⟩
        have HB1 := Lib.hid ((Go.below_drewN (Below.refl _ w) nq).trans hb1)
        clear hb1
        go_wp2_with fail
        refine (HADD.out _).mono ?_
        rintro e w2 ⟨rfl, hb2⟩
        have HB2 := Lib.hid (HB1.out.trans (hb2.mono HB1.out.size))
        clear hb2
        go_wp2
        go_ret
        exact ⟨ret_str (by rw [R3.out]), HB2.out⟩
      · have t2 : y.toList = ((⟨#[53]⟩ : ByteArray) ++ ofL (zs m)).toList := by rw [hHl, hyl]; exact r1
        have t3 : Op.bytesLess ((⟨#[53]⟩ : ByteArray) ++ ofL (zs m)).toList ((⟨#[53]⟩ : ByteArray) ++ ofL (zs m)).toList = false := less_self _
        have t1 : Op.bytesLess y.toList ((⟨#[53]⟩ : ByteArray) ++ ofL (zs m)).toList = false := by rw [t2]; exact less_self _
        have t4 : (((q[q.size - 1].toNat : Int) - 48) % 2 == 1) = false := by first | (rw [beq_iff_eq]; omega) | (rw [beq_eq_false_iff_ne]; omega)
        have R3 := Lib.hid r3
        clear hq hqb hlen htail hy hV hQ hlx f1 f2 hc h0 hm r1 r2 r3 hHl hyl HRC hql
        go_enter Tryz.func79, Tryz.ntmps79
        go_wp2_with fail
        go_quiet ((go_at_call 75; exact Calls.quiet_of_same (trimNat_any _ _)))
        rw [HTR.out, HQ.out, HY.out]
        go_wp2_with fail
        refine (repeat_zs m _ (by omega)).mono ?_
        rintro e w1 ⟨rfl, hb1⟩
        have HB1 := Lib.hid ((Go.below_drewN (Below.refl _ w) nq).trans hb1)
        clear hb1
        go_wp2
        go_ret
        exact ⟨ret_str (by rw [R3.out, HQ.out]), HB1.out⟩
end Go.Proofs.YtjjpdoabagnmoaaGreatDoor
/-
  The contract of impl.normal: formV of the digits' value. Conditions: digits, at most 2 to the 30 of them, an exponent of at most 2 to the 40.
-/
namespace Go.Proofs.YtjjpdoabagnmoaaGreatDoor
open Go.RowKit
set_option linter.unusedVariables false
set_option linter.unusedSimpArgs false

theorem dec_size (v : Nat) : ∃ q : ByteArray, ofL (dec v) = q ∧ bs q = dec v ∧ q.size = (dec v).length := ⟨_, rfl, rfl, size_ofL _⟩
theorem numV_eq {n m : Bool} {l k : List UInt8} {x y c d : Int} (h1 : n = m) (h2 : l = k) (h3 : x = y) (h4 : c = d) : numV n l x c = numV m k y d := by rw [h1, h2, h3, h4]

theorem one_laid (w : World) (n : Bool) (s : ByteArray) (x : Int) :
    ∃ w0, w.alloc (Obj.cells #[.bool n, .string s, .int .i64 x] 23) = w0 ∧ w.heap.size < w0.heap.size ∧ Below w.heap.size w w0 ∧
      (w0.cell? ⟨w.heap.size, 0, none⟩ = some (.bool n) ∧ w0.cell? ⟨w.heap.size, 1, none⟩ = some (.string s) ∧ w0.cell? ⟨w.heap.size, 2, none⟩ = some (.int .i64 x)) ∧ (w0.frozen? ⟨w.heap.size, 0, none⟩ = false ∧ w0.frozen? ⟨w.heap.size, 1, none⟩ = false ∧ w0.frozen? ⟨w.heap.size, 2, none⟩ = false) := by
  refine ⟨_, rfl, by simp, (Below.refl _ w).alloc (Nat.le_refl _) _, ?_⟩
  simp

theorem one_kept {w w1 : World} {p : Nat} {n : Bool} {s : ByteArray} {x : Int} (hb : Below w.heap.size w w1) (hp : p < w.heap.size)
    (h : w.cell? ⟨p, 0, none⟩ = some (.bool n) ∧ w.cell? ⟨p, 1, none⟩ = some (.string s) ∧ w.cell? ⟨p, 2, none⟩ = some (.int .i64 x))
    (h' : w.frozen? ⟨p, 0, none⟩ = false ∧ w.frozen? ⟨p, 1, none⟩ = false ∧ w.frozen? ⟨p, 2, none⟩ = false) :
    p < w1.heap.size ∧ (w1.cell? ⟨p, 0, none⟩ = some (.bool n) ∧ w1.cell? ⟨p, 1, none⟩ = some (.string s) ∧ w1.cell? ⟨p, 2, none⟩ = some (.int .i64 x)) ∧
      (w1.frozen? ⟨p, 0, none⟩ = false ∧ w1.frozen? ⟨p, 1, none⟩ = false ∧ w1.frozen? ⟨p, 2, none⟩ = false) := by
  obtain ⟨c, f⟩ := bcell hb
  rw [c p 0 hp, c p 1 hp, c p 2 hp, f p 0 hp, f p 1 hp, f p 2 hp]
  exact ⟨Nat.lt_of_lt_of_le hp hb.size, h, h'⟩

set_option maxRecDepth 10000 in
set_option maxHeartbeats 1000000 in
theorem normal_any (n : Bool) (s : ByteArray) (x : Int) (w : World) (hd : (bs s).all isDig = true) (hs : s.size ≤ 1073741824) (hx : -1099511627776 ≤ x) (hx2 : x ≤ 1099511627776) :
    Calls Tryz.prog 47 #[.bool n, .string s, .int .i64 x] w fun e w' => e = .returned (formV n (val (bs s)) x) ∧ Below w.heap.size w w' := by
  have htl := trimZ_len (bs s)
  have htr := trimZ_dec (bs s) hd
  rw [htr, bs_length] at htl
  have HTR := Lib.hid htr
  obtain ⟨v, hv⟩ : ∃ v, val (bs s) = v := ⟨_, rfl⟩
  rw [hv] at htl HTR ⊢
  clear htr hv hd
  obtain ⟨q, hq, hqb, hqs⟩ := dec_size v
  have HQ := Lib.hid hq
  have hl1 := dec_len v
  obtain ⟨r, hr, hrb, hrs⟩ := dec_size (fR v)
  have HR := Lib.hid hr
  have hft := fT_len v
  have htl2 := fT_len_le v
  have hts := size_ofL (fT v)
  obtain ⟨t, ht⟩ : ∃ t, ofL (fT v) = t := ⟨_, rfl⟩
  have HTM := Lib.hid (show (⟨(Lib.trimRightB r.data.toList 48).toArray⟩ : ByteArray) = t by rw [← hr, ← ht]; rfl)
  have HT := Lib.hid ht
  rw [ht] at hts
  have hfr : (dec (fR v)).length ≤ 21 := dec_len_le 21 _ (by omega) (by have := fR_le v; omega)
  by_cases h0 : v = 0
  · have e1 : formV n v x = numV false [] 0 0 := by unfold formV; rw [if_pos h0]
    have hsz : q.size = 1 := by rw [hqs, h0, dec_zero]; rfl
    have HTM0 := Lib.hid (show (⟨(Lib.trimRightB q.data.toList 48).toArray⟩ : ByteArray) = ⟨#[]⟩ by rw [← hq, h0, dec_zero]; rfl)
    have hcs : ∀ u : World, Calls Tryz.prog 80 #[.string q, .string ⟨#[48]⟩] u fun e w' => e = .returned (.string ⟨#[]⟩) ∧ w' = u := fun u => by
      have := Tryz.strings_TrimRight_one q 48 (by decide) u (by omega)
      rw [HTM0.out] at this
      exact this
    have HCS := Lib.hid hcs
    rw [e1]
    clear e1 h0 hcs hft htl2 hts ht hfr hr hrb hrs hq hqb hqs hl1
    go_enter Tryz.func47, Tryz.ntmps47
    go_wp2_with fail
    refine (trimNat_any _ _).mono ?_
    rintro e w1 ⟨rfl, hw1⟩
    subst hw1
    obtain ⟨w0, hw0, hz0, hb0, hc0, hf0⟩ := one_laid w false ⟨#[]⟩ 0
    rw [hw0, HTR.out, HQ.out]
    clear hw0
    have hqs : (q.size : Int) = 1 := by omega
    go_wp2_with fail
    refine (HCS.out _).mono ?_
    rintro e w1 ⟨rfl, hw1⟩
    obtain rfl : w0 = w1 := hw1.symm
    clear hw1
    go_wp2
    refine bodyPost_ret (v := .tuple #[.agg #[.bool false, .string ⟨#[]⟩, .int .i64 0], .int .i64 0]) (by simp [results, Tryz.results47, go_sem, *]) rfl ⟨rfl, ?_⟩
    exact ((hb0.setCell (Nat.le_refl _) _).setCell (Nat.le_refl _) _).setCell (Nat.le_refl _) _
  · have hrT : ∀ u : World, Calls Tryz.prog 80 #[.string r, .string ⟨#[48]⟩] u fun e w' => e = .returned (.string t) ∧ w' = u := fun u => by
      have := Tryz.strings_TrimRight_one r 48 (by decide) u (by omega)
      rw [HTM.out] at this
      exact this
    have HCS := Lib.hid hrT
    have hne : 0 < t.size := by
      rw [hts]; exact List.length_pos_iff.2 (fT_ne h0)
    have hemp := isEmpty_no hne
    have hfe : fE v x = x + (fM v : Int) + (r.size : Int) - (t.size : Int) := by unfold fE fK; omega
    have hfm : fM v = q.size - 20 := by unfold fM; rw [hqs]
    have hfh : fH v x = fE v x + (t.size : Int) - 1 := by unfold fH; rw [hts]
    have hrt : t.size ≤ r.size := by omega
    have hr21 : r.size ≤ 21 := by omega
    obtain ⟨E, hE⟩ : ∃ E, fE v x = E := ⟨_, rfl⟩
    rw [hE] at hfe hfh
    have HEND : Hid (formV n v x = if 99 < E + (t.size : Int) - 1 then numV false [] 0 1 else if E + (t.size : Int) - 1 < -99 then numV false [] 0 0 else numV n (fT v) E 0) := Lib.hid (by unfold formV; rw [if_neg h0, hfh, hE])
    have hqb2 : q.size ≤ 1073741825 := by omega
    have HCAN := Lib.hid (show Canon (bs q) by rw [hqb]; exact dec_canon v)
    have HVAL := Lib.hid (show val (bs q) = v by rw [hqb, val_dec])
    clear hrT h0 hft htl2 hts ht hfr hr hrb hrs hq hqb hqs hl1 hfh hE
    by_cases hbig : 20 < q.size
    · obtain ⟨m, hm⟩ : ∃ m : Nat, q.size = 20 + m := ⟨q.size - 20, by omega⟩
      have hmi : (q.size : Int) - 20 = (m : Int) := by omega
      have hfm' : fM v = m := by omega
      have HRO := Lib.hid (fun u : World => by
        have := natRound_any q m u HCAN.out (by omega) (by omega)
        rw [HVAL.out, ← hfm', show roundV v (fM v) = fR v from rfl, HR.out] at this
        rw [← hfm']
        exact this : ∀ u : World, Calls Tryz.prog 79 #[.string q, .int .i64 (m : Int)] u fun e w' => e = .returned (.string r) ∧ Below u.heap.size u w')
      rw [hfm'] at hfe
      have hqb3 : m ≤ 1073741825 := by omega
      clear hfm hfm' hm
      go_enter Tryz.func47, Tryz.ntmps47
      go_wp2_with fail
      refine (trimNat_any _ _).mono ?_
      rintro e w1 ⟨rfl, hw1⟩
      subst hw1
      obtain ⟨w0, hw0, hz0, hb0, hc0, hf0⟩ := one_laid w false ⟨#[]⟩ 0
      rw [hw0, HTR.out, HQ.out]
      clear hw0
      go_wp2_with fail
      refine (HRO.out _).mono ?_
      rintro e w1 ⟨rfl, hb1⟩
      have HB1 := Lib.hid hb1
      clear hb1
      go_wp2_with fail
      refine (HCS.out _).mono ?_
      rintro e w2 ⟨rfl, hw2⟩
      obtain rfl : w1 = w2 := hw2.symm
      clear hw2
      obtain ⟨hz1, hc1, hf1⟩ := one_kept HB1.out hz0 hc0 hf0
      have HBW := Lib.hid (hb0.trans (HB1.out.mono hb0.size))
      clear hz0 hc0 hf0 hb0
      have hE1 : x + (m : Int) + ((r.size : Int) - (t.size : Int)) = E := by omega
      have hEb : -3298534883328 ≤ E ∧ E ≤ 3298534883328 := by omega
      obtain ⟨hEb1, hEb2⟩ := hEb
      have hts20 : t.size ≤ 21 := by omega
      clear hfe
      by_cases e1 : 99 < E + (t.size : Int) - 1
      · go_wp2
        refine bodyPost_ret (v := .tuple #[.agg #[.bool false, .string ⟨#[]⟩, .int .i64 0], .int .i64 1]) (by simp [results, Tryz.results47, go_sem, *]) rfl ?_
        exact ⟨by rw [HEND.out, if_pos (show 99 < E + (t.size : Int) - 1 by omega)]; rfl, ((HBW.out.setCell (Nat.le_refl _) _).setCell (Nat.le_refl _) _).setCell (Nat.le_refl _) _⟩
      · by_cases e2 : E + (t.size : Int) - 1 < -99
        · go_wp2
          refine bodyPost_ret (v := .tuple #[.agg #[.bool false, .string ⟨#[]⟩, .int .i64 0], .int .i64 0]) (by simp [results, Tryz.results47, go_sem, *]) rfl ?_
          exact ⟨by rw [HEND.out, if_neg (show ¬ 99 < E + (t.size : Int) - 1 by omega), if_pos (show E + (t.size : Int) - 1 < -99 by omega)]; rfl, ((HBW.out.setCell (Nat.le_refl _) _).setCell (Nat.le_refl _) _).setCell (Nat.le_refl _) _⟩
        · go_wp2
          refine bodyPost_ret (v := .tuple #[.agg #[.bool n, .string t, .int .i64 E], .int .i64 0]) (by simp [results, Tryz.results47, go_sem, *]) rfl ?_
          exact ⟨by rw [HEND.out, if_neg (show ¬ 99 < E + (t.size : Int) - 1 by omega), if_neg (show ¬ E + (t.size : Int) - 1 < -99 by omega)]; unfold numV; rw [HT.out], ((HBW.out.setCell (Nat.le_refl _) _).setCell (Nat.le_refl _) _).setCell (Nat.le_refl _) _⟩
    · have hfR : fR v = v := by rw [← HVAL.out]; exact (fM_small (v := val (bs q)) (by rw [HVAL.out, show (dec v).length = q.size by rw [← HQ.out, size_ofL]]; omega)).2
      have hqr : q = r := by rw [← HQ.out, ← HR.out, hfR]
      have hfm0 : fM v = 0 := by omega
      have hqb4 : q.size ≤ 20 := by omega
      rw [hfm0] at hfe
      subst hqr
      clear hfm hfm0 hfR
      go_enter Tryz.func47, Tryz.ntmps47
      go_wp2_with fail
      refine (trimNat_any _ _).mono ?_
      rintro e w1 ⟨rfl, hw1⟩
      subst hw1
      obtain ⟨w0, hw0, hz0, hb0, hc0, hf0⟩ := one_laid w false ⟨#[]⟩ 0
      rw [hw0, HTR.out, HQ.out]
      clear hw0
      go_wp2_with fail
      refine (HCS.out _).mono ?_
      rintro e w2 ⟨rfl, hw2⟩
      obtain rfl : w0 = w2 := hw2.symm
      clear hw2
      have HBW := Lib.hid hb0
      clear hb0
      have hE1 : x + ((q.size : Int) - (t.size : Int)) = E := by omega
      have hEb : -3298534883328 ≤ E ∧ E ≤ 3298534883328 := by omega
      obtain ⟨hEb1, hEb2⟩ := hEb
      have hts20 : t.size ≤ 21 := by omega
      clear hfe
      by_cases e1 : 99 < E + (t.size : Int) - 1
      · go_wp2
        refine bodyPost_ret (v := .tuple #[.agg #[.bool false, .string ⟨#[]⟩, .int .i64 0], .int .i64 1]) (by simp [results, Tryz.results47, go_sem, *]) rfl ?_
        exact ⟨by rw [HEND.out, if_pos (show 99 < E + (t.size : Int) - 1 by omega)]; rfl, ((HBW.out.setCell (Nat.le_refl _) _).setCell (Nat.le_refl _) _).setCell (Nat.le_refl _) _⟩
      · by_cases e2 : E + (t.size : Int) - 1 < -99
        · go_wp2
          refine bodyPost_ret (v := .tuple #[.agg #[.bool false, .string ⟨#[]⟩, .int .i64 0], .int .i64 0]) (by simp [results, Tryz.results47, go_sem, *]) rfl ?_
          exact ⟨by rw [HEND.out, if_neg (show ¬ 99 < E + (t.size : Int) - 1 by omega), if_pos (show E + (t.size : Int) - 1 < -99 by omega)]; rfl, ((HBW.out.setCell (Nat.le_refl _) _).setCell (Nat.le_refl _) _).setCell (Nat.le_refl _) _⟩
        · go_wp2
          refine bodyPost_ret (v := .tuple #[.agg #[.bool n, .string t, .int .i64 E], .int .i64 0]) (by simp [results, Tryz.results47, go_sem, *]) rfl ?_
          exact ⟨by rw [HEND.out, if_neg (show ¬ 99 < E + (t.size : Int) - 1 by omega), if_neg (show ¬ E + (t.size : Int) - 1 < -99 by omega)]; unfold numV; rw [HT.out], ((HBW.out.setCell (Nat.le_refl _) _).setCell (Nat.le_refl _) _).setCell (Nat.le_refl _) _⟩
end Go.Proofs.YtjjpdoabagnmoaaGreatDoor
