/-
  Texts of this claim in one file, in build order: ScanS. Each says ahead what it proves and under which conditions.
-/
import Derived.Test.YtjjpdoabagnmoaaGreatDoorQ11
/-
  The contract of spec.l03Scan: how far from a place a number's text goes. Conditions: a string no longer than 2 to the 40; a place within it or behind it.
-/
namespace Go.Proofs.YtjjpdoabagnmoaaGreatDoor
open Go.RowKit
set_option linter.unusedVariables false
set_option linter.unusedSimpArgs false

theorem l03Digit_to (x : Int) (c : UInt8) (b : Bool) (w : World) (hx : x = (c.toNat : Int)) (h : isDig c = b) :
    Calls Tryz.prog 58 #[.int .u8 x] w fun e w' => e = .returned (.bool b) ∧ w' = w := by
  subst hx h; exact l03Digit_any c w
theorem run_at {s : ByteArray} {k E D N : Nat} {p : Bool} (h : k < s.size) (hd : isDig s[k] = true) (h1 : k + (runM p ((bs s).drop k)).1 = E) (h2 : D + (runM p ((bs s).drop k)).2 = N) :
    k + 1 + (runM p ((bs s).drop (k + 1))).1 = E ∧ D + 1 + (runM p ((bs s).drop (k + 1))).2 = N := by
  rw [bs_drop s k h, runM_dig hd] at h1 h2
  simp only at h1 h2
  omega
theorem run_pt {s : ByteArray} {k E D N : Nat} (h : k < s.size) (hc : (s[k].toNat : Int) = 46) (h1 : k + (runM false ((bs s).drop k)).1 = E) (h2 : D + (runM false ((bs s).drop k)).2 = N) :
    k + 1 + (runM true ((bs s).drop (k + 1))).1 = E ∧ D + (runM true ((bs s).drop (k + 1))).2 = N := by
  rw [dot_at h hc, runM_point] at h1 h2
  simp only at h1 h2
  omega
theorem run_end {s : ByteArray} {k E D N : Nat} {p : Bool} (h : ¬ k < s.size) (h1 : k + (runM p ((bs s).drop k)).1 = E) (h2 : D + (runM p ((bs s).drop k)).2 = N) : k = E ∧ D = N := by
  rw [drop_over h, runM] at h1 h2
  exact ⟨h1, h2⟩
theorem run_out {s : ByteArray} {k E D N : Nat} {p : Bool} (h : k < s.size) (hd : isDig s[k] = false) (hc : ¬ (s[k].toNat : Int) = 46 ∨ p = true) (h1 : k + (runM p ((bs s).drop k)).1 = E) (h2 : D + (runM p ((bs s).drop k)).2 = N) : k = E ∧ D = N := by
  rw [bs_drop s k h, runM_stop hd (hc.imp (fun e e2 => e (by rw [e2]; rfl)) id)] at h1 h2
  exact ⟨h1, h2⟩
theorem expN_46 (l : List UInt8) : expN (46 :: l) = 0 := by rw [expN, if_neg (by decide)]
theorem tw_at {s : ByteArray} {j L : Nat} (h : j < s.size) (hd : isDig s[j] = true) (h1 : j + tw ((bs s).drop j) = L) : j + 1 + tw ((bs s).drop (j + 1)) = L := by
  rw [bs_drop s j h, tw_dig hd] at h1
  omega
theorem tw_out {s : ByteArray} {j L : Nat} (h : j < s.size) (hd : isDig s[j] = false) (h1 : j + tw ((bs s).drop j) = L) : j = L := by
  rw [bs_drop s j h, tw_stop hd] at h1
  exact h1
theorem tw_over {s : ByteArray} {j L : Nat} (h : ¬ j < s.size) (h1 : j + tw ((bs s).drop j) = L) : j = L := by
  rw [drop_over h] at h1
  exact h1
theorem sg_cases {s : ByteArray} {k : Nat} {b : Bool} (hb : sgB ((bs s).drop k) = b) (hk : k ≤ s.size) :
    (b = false ∧ ¬ k < s.size) ∨ (b = false ∧ ∃ h : k < s.size, ((s[k].toNat : Int) == 43) = false ∧ ((s[k].toNat : Int) == 45) = false) ∨ (b = true ∧ ∃ h : k < s.size, (s[k].toNat : Int) = 43) ∨ (b = true ∧ ∃ h : k < s.size, (s[k].toNat : Int) = 45) := by
  by_cases h : k < s.size
  · rw [sgB_at h] at hb
    by_cases h1 : (s[k].toNat : Int) = 43
    · rw [decide_eq_true h1, Bool.true_or] at hb
      exact .inr (.inr (.inl ⟨hb.symm, h, h1⟩))
    · by_cases h2 : (s[k].toNat : Int) = 45
      · rw [decide_eq_true h2, Bool.or_true] at hb
        exact .inr (.inr (.inr ⟨hb.symm, h, h2⟩))
      · rw [decide_eq_false h1, decide_eq_false h2] at hb
        exact .inr (.inl ⟨hb.symm, h, beq_eq_false_iff_ne.2 h1, beq_eq_false_iff_ne.2 h2⟩)
  · rw [drop_over h] at hb
    exact .inl ⟨hb.symm, h⟩

set_option maxHeartbeats 4000000 in
set_option maxRecDepth 10000 in
theorem l03Scan_n (s : ByteArray) (k0 K E N : Nat) (w : World) (hs : s.size ≤ 1099511627776) (hk : k0 < s.size) (hb1 : ((s[k0].toNat : Int) == 43) = false) (hb2 : ((s[k0].toNat : Int) == 45) = false) (h1 : k0 + (runM false ((bs s).drop (k0))).1 = E) (h2 : (runM false ((bs s).drop (k0))).2 = N) (hK : (if N = 0 then k0 else E + expN ((bs s).drop E)) = K) :
    Calls Tryz.prog 57 #[.string s, .int .i64 (k0 : Int)] w fun e w' => e = .returned (.int .i64 (K : Int)) ∧ w' = w := by
  have H12 := Lib.hid (And.intro h1 h2)
  have HK := Lib.hid hK
  clear h1 h2 hK
  go_enter Tryz.func57, Tryz.ntmps57
  go_wp2
  go_loop [5, 6, 7] (fun u v q => ∃ (k D : Nat) (p : Bool) (pt : Int), k ≤ s.size ∧ D ≤ k ∧ u = .int .i64 (k : Int) ∧ v = .int .i64 (D : Int) ∧ q = .int .i64 pt ∧ ((p = false ∧ pt = 0) ∨ (p = true ∧ pt = 1)) ∧ k + (runM p ((bs s).drop k)).1 = E ∧ D + (runM p ((bs s).drop k)).2 = N) (fun u _ _ => s.size - (intOf u).toNat)
  case atStart => exact ⟨k0, 0, false, 0, by omega, by omega, by go_num, rfl, rfl, .inl ⟨rfl, rfl⟩, H12.out.1, by rw [Nat.zero_add]; exact H12.out.2⟩
  case round =>
    obtain ⟨k, D, p, pt, hks, hDk, rfl, rfl, rfl, hpt, hr1, hr2⟩ := hrel
    have HR := Lib.hid (And.intro hr1 hr2)
    clear hr1 hr2
    by_cases hlt : k < s.size
    · cases hd : isDig s[k]
      · by_cases hc : (s[k].toNat : Int) = 46
        · rcases hpt with ⟨rfl, rfl⟩ | ⟨rfl, rfl⟩
          · go_wp2_with (go_at_call 58; refine (l03Digit_to _ s[k] _ _ (by omega) hd).mono ?_; rintro e w1 ⟨rfl, rfl⟩)
            go_round
            case rel => exact ⟨k + 1, D, true, 1, by omega, by omega, by go_num, rfl, by go_num, .inr ⟨rfl, rfl⟩, (run_pt hlt hc HR.out.1 HR.out.2).1, (run_pt hlt hc HR.out.1 HR.out.2).2⟩
            case measure => simp [intOf]; omega
          · obtain ⟨rfl, rfl⟩ := run_out hlt hd (.inr rfl) HR.out.1 HR.out.2
            have hKK := HK.out
            rw [dot_at hlt hc, expN_46] at hKK
            by_cases hD : D = 0
            · go_wp2_with (go_at_call 58; refine (l03Digit_to _ s[k] _ _ (by omega) hd).mono ?_; rintro e w1 ⟨rfl, rfl⟩)
              all_goals go_ret
              all_goals refine ⟨ret_int ?_, rfl⟩
              all_goals first | omega | (split at hKK <;> omega)
            · go_wp2_with (go_at_call 58; refine (l03Digit_to _ s[k] _ _ (by omega) hd).mono ?_; rintro e w1 ⟨rfl, rfl⟩)
              all_goals go_ret
              all_goals refine ⟨ret_int ?_, rfl⟩
              all_goals first | omega | (split at hKK <;> omega)
        · obtain ⟨rfl, rfl⟩ := run_out hlt hd (.inl hc) HR.out.1 HR.out.2
          have hc' : ((s[k].toNat : Int) == 46) = false := beq_eq_false_iff_ne.2 hc
          by_cases hD : D = 0
          · have hKK := HK.out
            rw [if_pos hD] at hKK
            go_wp2_with (go_at_call 58; refine (l03Digit_to _ s[k] _ _ (by omega) hd).mono ?_; rintro e w1 ⟨rfl, rfl⟩)
            all_goals go_ret
            all_goals refine ⟨ret_int ?_, rfl⟩
            all_goals first | omega | (split at hKK <;> omega)
          · have hD' : ((D : Int) == 0) = false := beq_eq_false_iff_ne.2 (by omega)
            rcases scan_tail k D (by omega) HK.out with ⟨hx, -⟩ | ⟨h1, h2, h3, hK'⟩ | ⟨b2, F, L, h1, h2, h3, h4, h5, h6, hK'⟩
            · exact absurd hlt hx
            · have hy2 : ((s[k].toNat : Int) == 101) = false := beq_eq_false_iff_ne.2 h2
              have hy3 : ((s[k].toNat : Int) == 69) = false := beq_eq_false_iff_ne.2 h3
              have hKK := hK'
              go_wp2_with (go_at_call 58; refine (l03Digit_to _ s[k] _ _ (by omega) hd).mono ?_; rintro e w1 ⟨rfl, rfl⟩)
              all_goals go_ret
              all_goals refine ⟨ret_int ?_, rfl⟩
              all_goals first | omega | (split at hKK <;> omega)
            · have HL := Lib.hid h6
              have hKK := hK'
              rw [if_neg hD] at hKK
              have HKK := Lib.hid hKK
              clear h6 hK' hKK
              have hg := sg_cases h3 (by omega)
              rcases h2 with h2 | h2
              all_goals rcases hg with ⟨rfl, hg⟩ | ⟨rfl, hg, hg1, hg2⟩ | ⟨rfl, hg, hg1⟩ | ⟨rfl, hg, hg1⟩
              all_goals simp only [if_true, if_false, Bool.false_eq_true] at h4
              all_goals
                go_wp2_with (go_at_call 58; refine (l03Digit_to _ s[k] _ _ (by omega) hd).mono ?_; rintro e w1 ⟨rfl, rfl⟩)
                go_loop [5] (fun u => ∃ j : Nat, F ≤ j ∧ j ≤ s.size ∧ u = .int .i64 (j : Int) ∧ j + tw ((bs s).drop j) = L) (fun u => s.size - (intOf u).toNat)
                case atStart => exact ⟨F, by omega, by omega, by go_num, HL.out⟩
                case round =>
                  obtain ⟨j, hj1, hj2, rfl, hj3⟩ := hrel
                  have HJ := Lib.hid hj3
                  clear hj3
                  by_cases hl2 : j < s.size
                  · cases hd2 : isDig s[j]
                    · obtain rfl := tw_out hl2 hd2 HJ.out
                      go_wp2_with (go_at_call 58; refine (l03Digit_to _ s[j] _ _ (by omega) hd2).mono ?_; rintro e w1 ⟨rfl, rfl⟩)
                      all_goals go_ret
                      all_goals refine ⟨ret_int ?_, rfl⟩
                      all_goals (have hKK := HKK.out; split at hKK <;> omega)
                    · go_wp2_with (go_at_call 58; refine (l03Digit_to _ s[j] _ _ (by omega) hd2).mono ?_; rintro e w1 ⟨rfl, rfl⟩)
                      go_round
                      case rel => exact ⟨j + 1, by omega, by omega, by go_num, tw_at hl2 hd2 HJ.out⟩
                      case measure => simp [intOf]; omega
                  · obtain rfl := tw_over hl2 HJ.out
                    go_wp2
                    all_goals go_ret
                    all_goals refine ⟨ret_int ?_, rfl⟩
                    all_goals (have hKK := HKK.out; split at hKK <;> omega)
      · have hne : ((s[k].toNat : Int) == 46) = false := beq_eq_false_iff_ne.2 (by have := (isDig_iff _).1 hd; omega)
        go_wp2_with (go_at_call 58; refine (l03Digit_to _ s[k] _ _ (by omega) hd).mono ?_; rintro e w1 ⟨rfl, rfl⟩)
        go_round
        case rel => exact ⟨k + 1, D + 1, p, pt, by omega, by omega, by go_num, by go_num, rfl, hpt, (run_at hlt hd HR.out.1 HR.out.2).1, (run_at hlt hd HR.out.1 HR.out.2).2⟩
        case measure => simp [intOf]; omega
    · obtain ⟨rfl, rfl⟩ := run_end hlt HR.out.1 HR.out.2
      have hKK := HK.out
      rw [drop_over hlt, expN] at hKK
      by_cases hD : D = 0
      · go_wp2
        all_goals go_ret
        all_goals refine ⟨ret_int ?_, rfl⟩
        all_goals first | omega | (split at hKK <;> omega)
      · have hD' : ((D : Int) == 0) = false := beq_eq_false_iff_ne.2 (by omega)
        go_wp2
        all_goals go_ret
        all_goals refine ⟨ret_int ?_, rfl⟩
        all_goals first | omega | (split at hKK <;> omega)
set_option maxHeartbeats 4000000 in
set_option maxRecDepth 10000 in
theorem l03Scan_p (s : ByteArray) (k0 K E N : Nat) (w : World) (hs : s.size ≤ 1099511627776) (hk : k0 < s.size) (hb1 : (s[k0].toNat : Int) = 43) (h1 : k0 + 1 + (runM false ((bs s).drop (k0 + 1))).1 = E) (h2 : (runM false ((bs s).drop (k0 + 1))).2 = N) (hK : (if N = 0 then k0 else E + expN ((bs s).drop E)) = K) :
    Calls Tryz.prog 57 #[.string s, .int .i64 (k0 : Int)] w fun e w' => e = .returned (.int .i64 (K : Int)) ∧ w' = w := by
  have H12 := Lib.hid (And.intro h1 h2)
  have HK := Lib.hid hK
  clear h1 h2 hK
  go_enter Tryz.func57, Tryz.ntmps57
  go_wp2
  go_loop [5, 6, 7] (fun u v q => ∃ (k D : Nat) (p : Bool) (pt : Int), k ≤ s.size ∧ D ≤ k ∧ u = .int .i64 (k : Int) ∧ v = .int .i64 (D : Int) ∧ q = .int .i64 pt ∧ ((p = false ∧ pt = 0) ∨ (p = true ∧ pt = 1)) ∧ k + (runM p ((bs s).drop k)).1 = E ∧ D + (runM p ((bs s).drop k)).2 = N) (fun u _ _ => s.size - (intOf u).toNat)
  case atStart => exact ⟨k0 + 1, 0, false, 0, by omega, by omega, by go_num, rfl, rfl, .inl ⟨rfl, rfl⟩, H12.out.1, by rw [Nat.zero_add]; exact H12.out.2⟩
  case round =>
    obtain ⟨k, D, p, pt, hks, hDk, rfl, rfl, rfl, hpt, hr1, hr2⟩ := hrel
    have HR := Lib.hid (And.intro hr1 hr2)
    clear hr1 hr2
    by_cases hlt : k < s.size
    · cases hd : isDig s[k]
      · by_cases hc : (s[k].toNat : Int) = 46
        · rcases hpt with ⟨rfl, rfl⟩ | ⟨rfl, rfl⟩
          · go_wp2_with (go_at_call 58; refine (l03Digit_to _ s[k] _ _ (by omega) hd).mono ?_; rintro e w1 ⟨rfl, rfl⟩)
            go_round
            case rel => exact ⟨k + 1, D, true, 1, by omega, by omega, by go_num, rfl, by go_num, .inr ⟨rfl, rfl⟩, (run_pt hlt hc HR.out.1 HR.out.2).1, (run_pt hlt hc HR.out.1 HR.out.2).2⟩
            case measure => simp [intOf]; omega
          · obtain ⟨rfl, rfl⟩ := run_out hlt hd (.inr rfl) HR.out.1 HR.out.2
            have hKK := HK.out
            rw [dot_at hlt hc, expN_46] at hKK
            by_cases hD : D = 0
            · go_wp2_with (go_at_call 58; refine (l03Digit_to _ s[k] _ _ (by omega) hd).mono ?_; rintro e w1 ⟨rfl, rfl⟩)
              all_goals go_ret
              all_goals refine ⟨ret_int ?_, rfl⟩
              all_goals first | omega | (split at hKK <;> omega)
            · go_wp2_with (go_at_call 58; refine (l03Digit_to _ s[k] _ _ (by omega) hd).mono ?_; rintro e w1 ⟨rfl, rfl⟩)
              all_goals go_ret
              all_goals refine ⟨ret_int ?_, rfl⟩
              all_goals first | omega | (split at hKK <;> omega)
        · obtain ⟨rfl, rfl⟩ := run_out hlt hd (.inl hc) HR.out.1 HR.out.2
          have hc' : ((s[k].toNat : Int) == 46) = false := beq_eq_false_iff_ne.2 hc
          by_cases hD : D = 0
          · have hKK := HK.out
            rw [if_pos hD] at hKK
            go_wp2_with (go_at_call 58; refine (l03Digit_to _ s[k] _ _ (by omega) hd).mono ?_; rintro e w1 ⟨rfl, rfl⟩)
            all_goals go_ret
            all_goals refine ⟨ret_int ?_, rfl⟩
            all_goals first | omega | (split at hKK <;> omega)
          · have hD' : ((D : Int) == 0) = false := beq_eq_false_iff_ne.2 (by omega)
            rcases scan_tail k D (by omega) HK.out with ⟨hx, -⟩ | ⟨h1, h2, h3, hK'⟩ | ⟨b2, F, L, h1, h2, h3, h4, h5, h6, hK'⟩
            · exact absurd hlt hx
            · have hy2 : ((s[k].toNat : Int) == 101) = false := beq_eq_false_iff_ne.2 h2
              have hy3 : ((s[k].toNat : Int) == 69) = false := beq_eq_false_iff_ne.2 h3
              have hKK := hK'
              go_wp2_with (go_at_call 58; refine (l03Digit_to _ s[k] _ _ (by omega) hd).mono ?_; rintro e w1 ⟨rfl, rfl⟩)
              all_goals go_ret
              all_goals refine ⟨ret_int ?_, rfl⟩
              all_goals first | omega | (split at hKK <;> omega)
            · have HL := Lib.hid h6
              have hKK := hK'
              rw [if_neg hD] at hKK
              have HKK := Lib.hid hKK
              clear h6 hK' hKK
              have hg := sg_cases h3 (by omega)
              rcases h2 with h2 | h2
              all_goals rcases hg with ⟨rfl, hg⟩ | ⟨rfl, hg, hg1, hg2⟩ | ⟨rfl, hg, hg1⟩ | ⟨rfl, hg, hg1⟩
              all_goals simp only [if_true, if_false, Bool.false_eq_true] at h4
              all_goals
                go_wp2_with (go_at_call 58; refine (l03Digit_to _ s[k] _ _ (by omega) hd).mono ?_; rintro e w1 ⟨rfl, rfl⟩)
                go_loop [5] (fun u => ∃ j : Nat, F ≤ j ∧ j ≤ s.size ∧ u = .int .i64 (j : Int) ∧ j + tw ((bs s).drop j) = L) (fun u => s.size - (intOf u).toNat)
                case atStart => exact ⟨F, by omega, by omega, by go_num, HL.out⟩
                case round =>
                  obtain ⟨j, hj1, hj2, rfl, hj3⟩ := hrel
                  have HJ := Lib.hid hj3
                  clear hj3
                  by_cases hl2 : j < s.size
                  · cases hd2 : isDig s[j]
                    · obtain rfl := tw_out hl2 hd2 HJ.out
                      go_wp2_with (go_at_call 58; refine (l03Digit_to _ s[j] _ _ (by omega) hd2).mono ?_; rintro e w1 ⟨rfl, rfl⟩)
                      all_goals go_ret
                      all_goals refine ⟨ret_int ?_, rfl⟩
                      all_goals (have hKK := HKK.out; split at hKK <;> omega)
                    · go_wp2_with (go_at_call 58; refine (l03Digit_to _ s[j] _ _ (by omega) hd2).mono ?_; rintro e w1 ⟨rfl, rfl⟩)
                      go_round
                      case rel => exact ⟨j + 1, by omega, by omega, by go_num, tw_at hl2 hd2 HJ.out⟩
                      case measure => simp [intOf]; omega
                  · obtain rfl := tw_over hl2 HJ.out
                    go_wp2
                    all_goals go_ret
                    all_goals refine ⟨ret_int ?_, rfl⟩
                    all_goals (have hKK := HKK.out; split at hKK <;> omega)
      · have hne : ((s[k].toNat : Int) == 46) = false := beq_eq_false_iff_ne.2 (by have := (isDig_iff _).1 hd; omega)
        go_wp2_with (go_at_call 58; refine (l03Digit_to _ s[k] _ _ (by omega) hd).mono ?_; rintro e w1 ⟨rfl, rfl⟩)
        go_round
        case rel => exact ⟨k + 1, D + 1, p, pt, by omega, by omega, by go_num, by go_num, rfl, hpt, (run_at hlt hd HR.out.1 HR.out.2).1, (run_at hlt hd HR.out.1 HR.out.2).2⟩
        case measure => simp [intOf]; omega
    · obtain ⟨rfl, rfl⟩ := run_end hlt HR.out.1 HR.out.2
      have hKK := HK.out
      rw [drop_over hlt, expN] at hKK
      by_cases hD : D = 0
      · go_wp2
        all_goals go_ret
        all_goals refine ⟨ret_int ?_, rfl⟩
        all_goals first | omega | (split at hKK <;> omega)
      · have hD' : ((D : Int) == 0) = false := beq_eq_false_iff_ne.2 (by omega)
        go_wp2
        all_goals go_ret
        all_goals refine ⟨ret_int ?_, rfl⟩
        all_goals first | omega | (split at hKK <;> omega)
set_option maxHeartbeats 4000000 in
set_option maxRecDepth 10000 in
theorem l03Scan_m (s : ByteArray) (k0 K E N : Nat) (w : World) (hs : s.size ≤ 1099511627776) (hk : k0 < s.size) (hb1 : (s[k0].toNat : Int) = 45) (h1 : k0 + 1 + (runM false ((bs s).drop (k0 + 1))).1 = E) (h2 : (runM false ((bs s).drop (k0 + 1))).2 = N) (hK : (if N = 0 then k0 else E + expN ((bs s).drop E)) = K) :
    Calls Tryz.prog 57 #[.string s, .int .i64 (k0 : Int)] w fun e w' => e = .returned (.int .i64 (K : Int)) ∧ w' = w := by
  have H12 := Lib.hid (And.intro h1 h2)
  have HK := Lib.hid hK
  clear h1 h2 hK
  go_enter Tryz.func57, Tryz.ntmps57
  go_wp2
  go_loop [5, 6, 7] (fun u v q => ∃ (k D : Nat) (p : Bool) (pt : Int), k ≤ s.size ∧ D ≤ k ∧ u = .int .i64 (k : Int) ∧ v = .int .i64 (D : Int) ∧ q = .int .i64 pt ∧ ((p = false ∧ pt = 0) ∨ (p = true ∧ pt = 1)) ∧ k + (runM p ((bs s).drop k)).1 = E ∧ D + (runM p ((bs s).drop k)).2 = N) (fun u _ _ => s.size - (intOf u).toNat)
  case atStart => exact ⟨k0 + 1, 0, false, 0, by omega, by omega, by go_num, rfl, rfl, .inl ⟨rfl, rfl⟩, H12.out.1, by rw [Nat.zero_add]; exact H12.out.2⟩
  case round =>
    obtain ⟨k, D, p, pt, hks, hDk, rfl, rfl, rfl, hpt, hr1, hr2⟩ := hrel
    have HR := Lib.hid (And.intro hr1 hr2)
    clear hr1 hr2
    by_cases hlt : k < s.size
    · cases hd : isDig s[k]
      · by_cases hc : (s[k].toNat : Int) = 46
        · rcases hpt with ⟨rfl, rfl⟩ | ⟨rfl, rfl⟩
          · go_wp2_with (go_at_call 58; refine (l03Digit_to _ s[k] _ _ (by omega) hd).mono ?_; rintro e w1 ⟨rfl, rfl⟩)
            go_round
            case rel => exact ⟨k + 1, D, true, 1, by omega, by omega, by go_num, rfl, by go_num, .inr ⟨rfl, rfl⟩, (run_pt hlt hc HR.out.1 HR.out.2).1, (run_pt hlt hc HR.out.1 HR.out.2).2⟩
            case measure => simp [intOf]; omega
          · obtain ⟨rfl, rfl⟩ := run_out hlt hd (.inr rfl) HR.out.1 HR.out.2
            have hKK := HK.out
            rw [dot_at hlt hc, expN_46] at hKK
            by_cases hD : D = 0
            · go_wp2_with (go_at_call 58; refine (l03Digit_to _ s[k] _ _ (by omega) hd).mono ?_; rintro e w1 ⟨rfl, rfl⟩)
              all_goals go_ret
              all_goals refine ⟨ret_int ?_, rfl⟩
              all_goals first | omega | (split at hKK <;> omega)
            · go_wp2_with (go_at_call 58; refine (l03Digit_to _ s[k] _ _ (by omega) hd).mono ?_; rintro e w1 ⟨rfl, rfl⟩)
              all_goals go_ret
              all_goals refine ⟨ret_int ?_, rfl⟩
              all_goals first | omega | (split at hKK <;> omega)
        · obtain ⟨rfl, rfl⟩ := run_out hlt hd (.inl hc) HR.out.1 HR.out.2
          have hc' : ((s[k].toNat : Int) == 46) = false := beq_eq_false_iff_ne.2 hc
          by_cases hD : D = 0
          · have hKK := HK.out
            rw [if_pos hD] at hKK
            go_wp2_with (go_at_call 58; refine (l03Digit_to _ s[k] _ _ (by omega) hd).mono ?_; rintro e w1 ⟨rfl, rfl⟩)
            all_goals go_ret
            all_goals refine ⟨ret_int ?_, rfl⟩
            all_goals first | omega | (split at hKK <;> omega)
          · have hD' : ((D : Int) == 0) = false := beq_eq_false_iff_ne.2 (by omega)
            rcases scan_tail k D (by omega) HK.out with ⟨hx, -⟩ | ⟨h1, h2, h3, hK'⟩ | ⟨b2, F, L, h1, h2, h3, h4, h5, h6, hK'⟩
            · exact absurd hlt hx
            · have hy2 : ((s[k].toNat : Int) == 101) = false := beq_eq_false_iff_ne.2 h2
              have hy3 : ((s[k].toNat : Int) == 69) = false := beq_eq_false_iff_ne.2 h3
              have hKK := hK'
              go_wp2_with (go_at_call 58; refine (l03Digit_to _ s[k] _ _ (by omega) hd).mono ?_; rintro e w1 ⟨rfl, rfl⟩)
              all_goals go_ret
              all_goals refine ⟨ret_int ?_, rfl⟩
              all_goals first | omega | (split at hKK <;> omega)
            · have HL := Lib.hid h6
              have hKK := hK'
              rw [if_neg hD] at hKK
              have HKK := Lib.hid hKK
              clear h6 hK' hKK
              have hg := sg_cases h3 (by omega)
              rcases h2 with h2 | h2
              all_goals rcases hg with ⟨rfl, hg⟩ | ⟨rfl, hg, hg1, hg2⟩ | ⟨rfl, hg, hg1⟩ | ⟨rfl, hg, hg1⟩
              all_goals simp only [if_true, if_false, Bool.false_eq_true] at h4
              all_goals
                go_wp2_with (go_at_call 58; refine (l03Digit_to _ s[k] _ _ (by omega) hd).mono ?_; rintro e w1 ⟨rfl, rfl⟩)
                go_loop [5] (fun u => ∃ j : Nat, F ≤ j ∧ j ≤ s.size ∧ u = .int .i64 (j : Int) ∧ j + tw ((bs s).drop j) = L) (fun u => s.size - (intOf u).toNat)
                case atStart => exact ⟨F, by omega, by omega, by go_num, HL.out⟩
                case round =>
                  obtain ⟨j, hj1, hj2, rfl, hj3⟩ := hrel
                  have HJ := Lib.hid hj3
                  clear hj3
                  by_cases hl2 : j < s.size
                  · cases hd2 : isDig s[j]
                    · obtain rfl := tw_out hl2 hd2 HJ.out
                      go_wp2_with (go_at_call 58; refine (l03Digit_to _ s[j] _ _ (by omega) hd2).mono ?_; rintro e w1 ⟨rfl, rfl⟩)
                      all_goals go_ret
                      all_goals refine ⟨ret_int ?_, rfl⟩
                      all_goals (have hKK := HKK.out; split at hKK <;> omega)
                    · go_wp2_with (go_at_call 58; refine (l03Digit_to _ s[j] _ _ (by omega) hd2).mono ?_; rintro e w1 ⟨rfl, rfl⟩)
                      go_round
                      case rel => exact ⟨j + 1, by omega, by omega, by go_num, tw_at hl2 hd2 HJ.out⟩
                      case measure => simp [intOf]; omega
                  · obtain rfl := tw_over hl2 HJ.out
                    go_wp2
                    all_goals go_ret
                    all_goals refine ⟨ret_int ?_, rfl⟩
                    all_goals (have hKK := HKK.out; split at hKK <;> omega)
      · have hne : ((s[k].toNat : Int) == 46) = false := beq_eq_false_iff_ne.2 (by have := (isDig_iff _).1 hd; omega)
        go_wp2_with (go_at_call 58; refine (l03Digit_to _ s[k] _ _ (by omega) hd).mono ?_; rintro e w1 ⟨rfl, rfl⟩)
        go_round
        case rel => exact ⟨k + 1, D + 1, p, pt, by omega, by omega, by go_num, by go_num, rfl, hpt, (run_at hlt hd HR.out.1 HR.out.2).1, (run_at hlt hd HR.out.1 HR.out.2).2⟩
        case measure => simp [intOf]; omega
    · obtain ⟨rfl, rfl⟩ := run_end hlt HR.out.1 HR.out.2
      have hKK := HK.out
      rw [drop_over hlt, expN] at hKK
      by_cases hD : D = 0
      · go_wp2
        all_goals go_ret
        all_goals refine ⟨ret_int ?_, rfl⟩
        all_goals first | omega | (split at hKK <;> omega)
      · have hD' : ((D : Int) == 0) = false := beq_eq_false_iff_ne.2 (by omega)
        go_wp2
        all_goals go_ret
        all_goals refine ⟨ret_int ?_, rfl⟩
        all_goals first | omega | (split at hKK <;> omega)
theorem l03Scan_any (s : ByteArray) (k0 : Nat) (w : World) (hs : s.size ≤ 1099511627776) (hat : k0 < s.size) :
    Calls Tryz.prog 57 #[.string s, .int .i64 (k0 : Int)] w fun e w' => e = .returned (.int .i64 ((k0 + scanN ((bs s).drop k0) : Nat) : Int)) ∧ w' = w := by
  obtain ⟨K, hK⟩ : ∃ K, k0 + scanN ((bs s).drop k0) = K := ⟨_, rfl⟩
  rw [hK]
  obtain ⟨b, hb⟩ : ∃ b, sgB ((bs s).drop k0) = b := ⟨_, rfl⟩
  obtain ⟨a, ha⟩ : ∃ a : Nat, k0 + sgN ((bs s).drop k0) = a := ⟨_, rfl⟩
  have hab := sgN_of hb
  obtain ⟨E, hE⟩ : ∃ E, a + (runM false ((bs s).drop a)).1 = E := ⟨_, rfl⟩
  obtain ⟨N, hN⟩ : ∃ N, (runM false ((bs s).drop a)).2 = N := ⟨_, rfl⟩
  have e1 : ((bs s).drop k0).drop (sgN ((bs s).drop k0)) = (bs s).drop a := by rw [List.drop_drop, ha]
  have e2 : ((bs s).drop k0).drop (sgN ((bs s).drop k0) + (runM false ((bs s).drop a)).1) = (bs s).drop E := by rw [List.drop_drop, ← Nat.add_assoc, ha, hE]
  have hK2 : (if N = 0 then k0 else E + expN ((bs s).drop E)) = K := by
    rw [← hK]
    unfold scanN
    rw [e1, e2, hN]
    split
    · rfl
    · omega
  rcases sg_cases hb (by omega) with ⟨-, h⟩ | ⟨rfl, h, h1, h2⟩ | ⟨rfl, h, h1⟩ | ⟨rfl, h, h1⟩
  · exact absurd hat h
  · obtain rfl : a = k0 := by rw [← ha, hab]; rfl
    exact l03Scan_n s a K E N w hs h h1 h2 hE hN hK2
  · obtain rfl : a = k0 + 1 := by rw [← ha, hab]; rfl
    exact l03Scan_p s k0 K E N w hs h h1 hE hN hK2
  · obtain rfl : a = k0 + 1 := by rw [← ha, hab]; rfl
    exact l03Scan_m s k0 K E N w hs h h1 hE hN hK2
end Go.Proofs.YtjjpdoabagnmoaaGreatDoor
