/-
  The contracts of the small helpers on naturals: a digit at a place, trimming, comparing; the reference's and the program's. Conditions: rows of digits; no longer than 2 to the 40.
-/
import Derived.Test.YtjjpdoabagnmoaaDoorVal
import Derived.Test.YtjjpdoabagnmoaaDoorShelf
import Derived.WalkKit
import Derived.WalkLawsBesides
import Derived.WalkSpells
import Derived.BigQuiet
import Derived.Deep.Light
import Derived.Deep.QuietTactic
import Derived.WalkSmall
namespace Go.Proofs.YtjjpdoabagnmoaaDoor
open Go.RowKit
set_option linter.unusedVariables false
set_option linter.unusedSimpArgs false

theorem digitAt_any (s : ByteArray) (i : Nat) (w : World) (hd : (bs s).all isDig = true) (hs : s.size ≤ 1099511627776) (hi : i ≤ 1099511627776) :
    Calls Tryd.prog 98 #[.string s, .int .i64 (i : Int)] w fun e w' => e = .returned (.int .i64 (dgt (val (bs s)) i : Nat)) ∧ w' = w := by
  by_cases hlt : i < s.size
  · have hg := dgt_val (bs s) hd i (by rw [bs_length]; exact hlt)
    have hb : s.size - 1 - i < s.size := by omega
    have e1 : (bs s)[(bs s).length - 1 - i]'(by rw [bs_length]; omega) = s[s.size - 1 - i] := by
      rw [← bs_get s (s.size - 1 - i) hb]
      congr 1
      try rw [bs_length]
    rw [e1] at hg
    have hdg : isDig s[s.size - 1 - i] = true := by
      rw [List.all_eq_true] at hd
      exact hd _ (bs_mem s _ hb)
    have h48 := isDig_le hdg
    have HG := Lib.hid hg
    clear hg hd hdg e1
    have k1 : ¬ ((s.size : Int) ≤ (i : Int)) := by omega
    have k2 : 0 ≤ (s.size : Int) - 1 - (i : Int) := by omega
    have k3 : (s.size : Int) - 1 - (i : Int) < (s.size : Int) := by omega
    have k4 : ((s.size : Int) - 1 - (i : Int)).toNat = s.size - 1 - i := by omega
    have k5 : (48 : Int) ≤ (s[s.size - 1 - i].toNat : Int) := by omega
    have k6 : (s[s.size - 1 - i].toNat : Int) ≤ 57 := by omega
    go_enter Tryd.func98, Tryd.ntmps98
    go_wp2
    go_ret
    refine ⟨ret_int ?_, rfl⟩
    rw [HG.out]
    omega
  · have hz : dgt (val (bs s)) i = 0 := by
      apply dgt_over
      have h1 := val_lt (bs s) hd
      have h2 : 10 ^ (bs s).length ≤ 10 ^ i := Nat.pow_le_pow_right (by omega) (by rw [bs_length]; omega)
      omega
    rw [hz]
    have k1 : (s.size : Int) ≤ (i : Int) := by omega
    clear hd hz
    go_enter Tryd.func98, Tryd.ntmps98
    go_wp2
    go_ret
    exact ⟨rfl, rfl⟩

theorem l02Digit_any (s : ByteArray) (i : Nat) (w : World) (hd : (bs s).all isDig = true) (hs : s.size ≤ 1099511627776) (hi : i ≤ 1099511627776) :
    Calls Tryd.prog 81 #[.string s, .int .i64 (i : Int)] w fun e w' => e = .returned (.int .i64 (dgt (val (bs s)) i : Nat)) ∧ w' = w := by
  by_cases hlt : i < s.size
  · have hg := dgt_val (bs s) hd i (by rw [bs_length]; exact hlt)
    have hb : s.size - 1 - i < s.size := by omega
    have e1 : (bs s)[(bs s).length - 1 - i]'(by rw [bs_length]; omega) = s[s.size - 1 - i] := by
      rw [← bs_get s (s.size - 1 - i) hb]
      congr 1
      try rw [bs_length]
    rw [e1] at hg
    have hdg : isDig s[s.size - 1 - i] = true := by
      rw [List.all_eq_true] at hd
      exact hd _ (bs_mem s _ hb)
    have h48 := isDig_le hdg
    have HG := Lib.hid hg
    clear hg hd hdg e1
    have k1 : ¬ ((s.size : Int) ≤ (i : Int)) := by omega
    have k2 : 0 ≤ (s.size : Int) - 1 - (i : Int) := by omega
    have k3 : (s.size : Int) - 1 - (i : Int) < (s.size : Int) := by omega
    have k4 : ((s.size : Int) - 1 - (i : Int)).toNat = s.size - 1 - i := by omega
    have k5 : (48 : Int) ≤ (s[s.size - 1 - i].toNat : Int) := by omega
    have k6 : (s[s.size - 1 - i].toNat : Int) ≤ 57 := by omega
    go_enter Tryd.func81, Tryd.ntmps81
    go_wp2
    go_ret
    refine ⟨ret_int ?_, rfl⟩
    rw [HG.out]
    omega
  · have hz : dgt (val (bs s)) i = 0 := by
      apply dgt_over
      have h1 := val_lt (bs s) hd
      have h2 : 10 ^ (bs s).length ≤ 10 ^ i := Nat.pow_le_pow_right (by omega) (by rw [bs_length]; omega)
      omega
    rw [hz]
    have k1 : (s.size : Int) ≤ (i : Int) := by omega
    clear hd hz
    go_enter Tryd.func81, Tryd.ntmps81
    go_wp2
    go_ret
    exact ⟨rfl, rfl⟩

theorem toList_bs (s : ByteArray) : s.toList = bs s := Lib.toList_data s
theorem isEmpty_bs (s : ByteArray) : s.toList.isEmpty = (bs s).isEmpty := by rw [toList_bs]

theorem trimNat_any (s : ByteArray) (w : World) :
    Calls Tryd.prog 51 #[.string s] w fun e w' => e = .returned (.string (ofL (trimZ (bs s)))) ∧ w' = w := by
  have hz := trimZ_drop (bs s)
  have HZ := Lib.hid hz
  clear hz
  go_enter Tryd.func51, Tryd.ntmps51
  go_wp2_with fail
  refine (Tryd.strings_TrimLeft_one s 48 (by decide) _).mono ?_
  rintro e w1 ⟨rfl, rfl⟩
  have ht : Lib.trimLeftB s.data.toList 48 = (bs s).dropWhile (· == 48) := rfl
  rw [ht]
  obtain ⟨r, hr⟩ : ∃ r, (bs s).dropWhile (· == 48) = r := ⟨_, rfl⟩
  have HF := HZ.out
  rw [hr] at HF ⊢
  have hof : (⟨r.toArray⟩ : ByteArray) = ofL r := rfl
  rw [hof]
  have HF' := Lib.hid HF
  clear HF hr ht hof
  cases r with
  | nil =>
    have hemp : (ofL ([] : List UInt8)).toList.isEmpty = true := by rw [isEmpty_bs, bs_ofL]; rfl
    go_wp2
    go_ret
    exact ⟨by rw [← HF'.out]; rfl, rfl⟩
  | cons c r =>
    have hemp : (ofL (c :: r)).toList.isEmpty = false := by rw [isEmpty_bs, bs_ofL]; rfl
    go_wp2
    go_ret
    exact ⟨by rw [← HF'.out]; rfl, rfl⟩

theorem bs_ext (t : ByteArray) (k : Nat) : bs (t.extract k t.size) = (bs t).drop k := by
  show (t.extract k t.size).data.toList = _
  rw [Lib.extract_data, List.take_of_length_le (by rw [List.length_drop, show t.data.toList = bs t from rfl, bs_length]; exact Nat.le_refl _)]
theorem ext_size (t : ByteArray) (k : Nat) : (t.extract k t.size).size = t.size - k := by
  rw [← bs_length, bs_ext, List.length_drop, bs_length]
theorem trimZ_tail {s : ByteArray} (h0 : 0 < s.size) (h : (s[0].toNat : Int) = 48) : trimZ ((bs s).drop 1) = trimZ (bs s) := by
  have e := bs_drop s 0 h0
  rw [List.drop_zero] at e
  conv => rhs; rw [e]
  unfold trimZ
  rw [if_pos (u8_48 h)]
  cases (bs s).drop (0 + 1) <;> rfl
theorem trimZ_stop {s : ByteArray} (h0 : 0 < s.size) (h : ¬ (s[0].toNat : Int) = 48) : trimZ (bs s) = bs s := by
  have e := bs_drop s 0 h0
  rw [List.drop_zero] at e
  rw [e]
  unfold trimZ
  rw [if_neg (u8_n48 h)]
theorem trimZ_one {s : ByteArray} (h0 : s.size = 1) : trimZ (bs s) = bs s := by
  have e := bs_drop s 0 (by omega)
  rw [List.drop_zero, List.drop_of_length_le (by rw [bs_length]; omega)] at e
  rw [e]
  unfold trimZ
  by_cases h : s[0] = 48
  · rw [if_pos h, h]; rfl
  · rw [if_neg h]

theorem l02Trim_any (s : ByteArray) (w : World) (hs : s.size ≤ 1099511627776) :
    Calls Tryd.prog 77 #[.string s] w fun e w' => e = .returned (.string (ofL (trimZ (bs s)))) ∧ w' = w := by
  go_enter Tryd.func77, Tryd.ntmps77
  go_wp2
  go_loop [0] (fun v => ∃ t : ByteArray, t.size ≤ 1099511627776 ∧ v = .string t ∧ trimZ (bs t) = trimZ (bs s)) (fun v => match v with | .string t => t.size | _ => 0)
  case atStart => exact ⟨s, hs, rfl, rfl⟩
  case round =>
    obtain ⟨t, ht, rfl, hz⟩ := hrel
    have HZ := Lib.hid hz
    clear hz
    by_cases h1 : 1 < t.size
    · have h1' : (1 : Int) < (t.size : Int) := by omega
      have h0 : 0 < t.size := by omega
      by_cases hc : (t[0].toNat : Int) = 48
      · have hcb : ((t[0].toNat : Int) == 48) = true := by rw [hc]; rfl
        have HC := Lib.hid hc
        clear hc
        go_wp2
        refine ⟨⟨t.extract 1 t.size, by rw [ext_size]; omega, rfl, by rw [bs_ext, trimZ_tail h0 HC.out, HZ.out]⟩, ?_⟩
        show (t.extract 1 t.size).size < t.size
        rw [ext_size]; omega
      · have hcb : ((t[0].toNat : Int) == 48) = false := by rw [beq_eq_false_iff_ne]; exact hc
        have HC := Lib.hid hc
        clear hc
        have hemp := isEmpty_no h0
        go_wp2
        go_ret
        refine ⟨?_, rfl⟩
        rw [← HZ.out, trimZ_stop h0 HC.out]; rfl
    · have h1' : (t.size : Int) ≤ 1 := by omega
      by_cases h0 : 0 < t.size
      · have hemp := isEmpty_no h0
        go_wp2
        go_ret
        refine ⟨?_, rfl⟩
        rw [← HZ.out, trimZ_one (by omega)]; rfl
      · have hemp := isEmpty_yes (s := t) (by omega)
        go_wp2
        go_ret
        refine ⟨?_, rfl⟩
        rw [← HZ.out, bs_empty (by omega)]; rfl

theorem compareInt_cmpN (a b : Nat) : Lib.compareInt a b = cmpN a b := by
  unfold Lib.compareInt cmpN
  by_cases h1 : a < b
  · rw [if_pos (by omega), if_pos h1]
  · rw [if_neg (by omega), if_neg h1]
    by_cases h2 : a = b
    · rw [if_neg (by omega), if_pos h2]
    · rw [if_pos (by omega), if_neg h2]
theorem cmpN_cases (a b : Nat) : (a < b ∧ cmpN a b = -1) ∨ (a = b ∧ cmpN a b = 0) ∨ (b < a ∧ cmpN a b = 1) := by
  unfold cmpN
  by_cases h1 : a < b
  · left; rw [if_pos h1]; exact ⟨h1, rfl⟩
  · right
    by_cases h2 : a = b
    · left; rw [if_neg h1, if_pos h2]; exact ⟨h2, rfl⟩
    · right; rw [if_neg h1, if_neg h2]; exact ⟨by omega, rfl⟩

/-- the first number that is not 0 -/
def orZ : List Int → Int
  | [] => 0
  | x :: l => if x = 0 then orZ l else x
theorem cmp_val {l r : List UInt8} (hl : Canon l) (hr : Canon r) : orZ [cmpN l.length r.length, Lib.compareBytes l r] = cmpN (val l) (val r) := by
  rcases cmpN_cases l.length r.length with ⟨h, e⟩ | ⟨h, e⟩ | ⟨h, e⟩
  · have := canon_shorter hl hr h
    rw [e]; simp [orZ, cmpN, this]
  · rw [e, compare_val l r hl.dig hr.dig h]; simp [orZ]
    intro h0; exact h0.symm
  · have := canon_shorter hr hl h
    rw [e]
    have a : ¬ val l < val r := by omega
    have b : ¬ val l = val r := by omega
    simp [orZ, cmpN, a, b]

theorem cmpOr_two (x y : Int) (b : Nat) (w : World) (h0 : w.cell? ⟨b, 0, none⟩ = some (.int .i64 x)) (h1 : w.cell? ⟨b, 1, none⟩ = some (.int .i64 y)) :
    Calls Tryd.prog 99 #[.slice (some ⟨b, 0, none⟩) 2 2] w fun e w' => e = .returned (.int .i64 (orZ [x, y])) ∧ w' = w := by
  have HF := Lib.hid (show orZ [x, y] = if x = 0 then (if y = 0 then 0 else y) else x by simp [orZ])
  go_enter Tryd.func99, Tryd.ntmps99
  go_wp2
  go_loop [8] (fun i => (i = .int .i64 0) ∨ (i = .int .i64 1 ∧ x = 0) ∨ (i = .int .i64 2 ∧ x = 0 ∧ y = 0)) (fun i => 2 - (intOf i).toNat)
  case atStart => exact .inl rfl
  case round =>
    rcases hrel with rfl | ⟨rfl, hx⟩ | ⟨rfl, hx, hy⟩
    · by_cases hx : x = 0
      · have hxb : (x != 0) = false := by rw [hx]; rfl
        have HX := Lib.hid hx
        clear hx
        go_wp2
        exact ⟨.inr (.inl ⟨rfl, HX.out⟩), by simp [intOf]⟩
      · have hxb : (x != 0) = true := by rw [bne_iff_ne]; exact hx
        have HX := Lib.hid hx
        clear hx
        go_wp2
        go_ret
        refine ⟨?_, rfl⟩
        rw [HF.out, if_neg HX.out]; rfl
    · have HX := Lib.hid hx
      clear hx
      by_cases hy : y = 0
      · have hyb : (y != 0) = false := by rw [hy]; rfl
        have HY := Lib.hid hy
        clear hy
        go_wp2
        exact ⟨.inr (.inr ⟨rfl, HX.out, HY.out⟩), by simp [intOf]⟩
      · have hyb : (y != 0) = true := by rw [bne_iff_ne]; exact hy
        have HY := Lib.hid hy
        clear hy
        go_wp2
        go_ret
        refine ⟨?_, rfl⟩
        rw [HF.out, if_pos HX.out, if_neg HY.out]; rfl
    · have HX := Lib.hid hx
      have HY := Lib.hid hy
      clear hx hy
      go_wp2
      go_ret
      refine ⟨?_, rfl⟩
      rw [HF.out, if_pos HX.out, if_pos HY.out]; rfl

theorem natCmp_any (s t : ByteArray) (w : World) (hs : Canon (bs s)) (ht : Canon (bs t)) (hs' : s.size ≤ 1099511627776) (ht' : t.size ≤ 1099511627776) :
    Calls Tryd.prog 71 #[.string s, .string t] w fun e w' => e = .returned (.int .i64 (cmpN (val (bs s)) (val (bs t)))) ∧ Below w.heap.size w w' := by
  have hv := cmp_val hs ht
  rw [bs_length, bs_length] at hv
  rw [← hv]
  clear hv hs ht
  go_enter Tryd.func71, Tryd.ntmps71
  go_wp2_with fail
  refine (Tryd.cmp_Compare_int _ _ _).mono ?_
  rintro e w1 ⟨rfl, hw1⟩
  obtain rfl : w = w1 := hw1.symm
  rw [compareInt_cmpN]
  go_wp2_with fail
  refine (Tryd.strings_Compare _ _ _).mono ?_
  rintro e w2 ⟨rfl, hw2⟩
  obtain rfl : w = w2 := hw2.symm
  have hbb : Lib.compareBytes s.data.toList t.data.toList = Lib.compareBytes (bs s) (bs t) := rfl
  rw [hbb]
  obtain ⟨y, hy⟩ : ∃ y, Lib.compareBytes (bs s) (bs t) = y := ⟨_, rfl⟩
  obtain ⟨x, hx⟩ : ∃ x, cmpN s.size t.size = x := ⟨_, rfl⟩
  rw [hy, hx]
  have HX := Lib.hid hx
  have HY := Lib.hid hy
  clear hbb hx hy
  go_wp2_with fail
  refine (cmpOr_two x y _ _ (by simp) (by simp)).mono ?_
  rintro e w3 ⟨rfl, rfl⟩
  go_wp2
  go_ret
  refine ⟨by rw [HX.out, HY.out]; rfl, ?_⟩
  (repeat (first | exact Below.refl _ _ | assumption | refine Below.drew ?_ | refine below_drewN ?_ _ | (refine Below.alloc ?_ (by first | exact Nat.le_refl _ | (simp; done) | (simp; omega) | (simp at *; omega)) _) | (refine Below.setCell ?_ (by first | exact Nat.le_refl _ | (simp; done) | (simp; omega)) _) | (refine Below.trans ?_ (Below.mono (by assumption) (by first | exact Nat.le_refl _ | (simp; done) | (simp; omega) | (simp at *; omega))))))

theorem less_cases {l r : List UInt8} (hl : Canon l) (hr : Canon r) : cmpN (val l) (val r) = if (l.length < r.length ∨ (l.length = r.length ∧ Op.bytesLess l r = true)) then -1 else if l = r then 0 else 1 := by
  rcases cmpN_cases l.length r.length with ⟨h, e⟩ | ⟨h, e⟩ | ⟨h, e⟩
  · have := canon_shorter hl hr h
    rw [if_pos (.inl h)]; simp [cmpN, this]
  · rw [less_val l r hl.dig hr.dig h]
    rcases cmpN_cases (val l) (val r) with ⟨h2, e2⟩ | ⟨h2, e2⟩ | ⟨h2, e2⟩
    · rw [e2, if_pos (.inr ⟨h, decide_eq_true h2⟩)]
    · rw [e2, if_neg (by rw [decide_eq_false (p := val l < val r) (by omega)]; simp; omega), if_pos (canon_inj hl hr h2)]
    · rw [e2, if_neg (by rw [decide_eq_false (p := val l < val r) (by omega)]; simp; omega), if_neg (fun e => by rw [e] at h2; omega)]
  · have := canon_shorter hr hl h
    rcases cmpN_cases (val l) (val r) with ⟨h2, e2⟩ | ⟨h2, e2⟩ | ⟨h2, e2⟩
    · omega
    · omega
    · rw [e2, if_neg (by omega), if_neg (fun e => by rw [e] at h; omega)]

theorem l02Cmp_any (s t : ByteArray) (w : World) (hs : (bs s).all isDig = true) (ht : (bs t).all isDig = true) (hs' : s.size ≤ 549755813888) (ht' : t.size ≤ 549755813888) :
    Calls Tryd.prog 75 #[.string s, .string t] w fun e w' => e = .returned (.int .i64 (cmpN (val (bs s)) (val (bs t)))) ∧ w' = w := by
  have hv := less_cases (trimZ_canon hs) (trimZ_canon ht)
  rw [val_trimZ hs, val_trimZ ht] at hv
  have HV := Lib.hid hv
  have l1 := trimZ_len (bs s)
  have l2 := trimZ_len (bs t)
  rw [bs_length] at l1 l2
  clear hv hs ht
  go_enter Tryd.func75, Tryd.ntmps75
  go_wp2_with fail
  refine (l02Trim_any _ _ (by omega)).mono ?_
  rintro e w1 ⟨rfl, hw1⟩
  obtain rfl : w = w1 := hw1.symm
  go_wp2_with fail
  refine (l02Trim_any _ _ (by omega)).mono ?_
  rintro e w2 ⟨rfl, hw2⟩
  obtain rfl : w = w2 := hw2.symm
  obtain ⟨x, hx⟩ : ∃ x, trimZ (bs s) = x := ⟨_, rfl⟩
  obtain ⟨y, hy⟩ : ∃ y, trimZ (bs t) = y := ⟨_, rfl⟩
  have HZ' := HV.out
  rw [hx, hy] at HZ' ⊢
  rw [hx] at l1
  rw [hy] at l2
  have HZ := Lib.hid HZ'
  clear HZ' hw1 hw2 hx hy
  have sx := size_ofL x
  have sy := size_ofL y
  have tx : (ofL x).toList = x := toList_bs _
  have ty : (ofL y).toList = y := toList_bs _
  rcases (by omega : x.length < y.length ∨ x.length = y.length ∨ y.length < x.length) with h | h | h
  · have hb : decide (x.length < y.length) = true := decide_eq_true (by omega)
    have HZ2 := Lib.hid (show cmpN (val (bs s)) (val (bs t)) = -1 by rw [HZ.out, if_pos (.inl h)])
    go_wp2
    go_ret
    exact ⟨ret_int HZ2.out.symm, rfl⟩
  · have hb : decide (x.length < y.length) = false := decide_eq_false (by omega)
    have hb2 : ((x.length : Int) == (y.length : Int)) = true := beq_iff_eq.2 (by omega)
    cases hl : Op.bytesLess x y
    · by_cases he : x = y
      · have HZ2 := Lib.hid (show cmpN (val (bs s)) (val (bs t)) = 0 by rw [HZ.out, if_neg (by rw [hl]; simp; omega), if_pos he])
        have hb3 : (x == y) = true := beq_iff_eq.2 he
        clear he h
        go_wp2
        go_ret
        exact ⟨ret_int HZ2.out.symm, rfl⟩
      · have HZ2 := Lib.hid (show cmpN (val (bs s)) (val (bs t)) = 1 by rw [HZ.out, if_neg (by rw [hl]; simp; omega), if_neg he])
        have hb3 : (x == y) = false := beq_eq_false_iff_ne.2 he
        clear he h
        go_wp2
        go_ret
        exact ⟨ret_int HZ2.out.symm, rfl⟩
    · have HZ2 := Lib.hid (show cmpN (val (bs s)) (val (bs t)) = -1 by rw [HZ.out, if_pos (.inr ⟨h, hl⟩)])
      clear h
      go_wp2
      go_ret
      exact ⟨ret_int HZ2.out.symm, rfl⟩
  · have hb : decide (x.length < y.length) = false := decide_eq_false (by omega)
    have hb2 : ((x.length : Int) == (y.length : Int)) = false := beq_eq_false_iff_ne.2 (by omega)
    have hne : x ≠ y := fun e => by rw [e] at h; omega
    have hb3 : (x == y) = false := beq_eq_false_iff_ne.2 hne
    have HZ2 := Lib.hid (show cmpN (val (bs s)) (val (bs t)) = 1 by rw [HZ.out, if_neg (by omega), if_neg hne])
    clear hne
    go_wp2
    go_ret
    exact ⟨ret_int HZ2.out.symm, rfl⟩
end Go.Proofs.YtjjpdoabagnmoaaDoor
