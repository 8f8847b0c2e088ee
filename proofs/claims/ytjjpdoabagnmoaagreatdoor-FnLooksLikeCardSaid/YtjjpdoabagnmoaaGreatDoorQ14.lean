/-
  Texts of this claim in one file, in build order: ReadS. Each says ahead what it proves and under which conditions.
-/
import Derived.Test.YtjjpdoabagnmoaaGreatDoorQ13
/-
  The contract of spec.l03Read: the number that a text tells. Conditions: the text has a number's parts, and is no longer than 2 to the 20.
-/
namespace Go.Proofs.YtjjpdoabagnmoaaGreatDoor
open Go.RowKit
set_option linter.unusedVariables false
set_option linter.unusedSimpArgs false

set_option maxRecDepth 10000 in
set_option maxHeartbeats 4000000 in
theorem l03Read_any (s : ByteArray) (sg b d1 d2 ex sg2 d3 : List UInt8) (w : World) (hs : s.size ≤ 1048576) (hl : bs s = sg ++ (b ++ ex)) (h1 : IsSg sg) (h2 : IsBody b d1 d2) (h3 : IsEx ex sg2 d3) :
    Calls Tryz.prog 29 #[.string s] w fun e w' => e = .returned (readV sg d1 d2 sg2 d3) ∧ Below w.heap.size w w' := by
  obtain ⟨n', u, y', c, hV, -, -, -⟩ := formV_lit (decide (sg = [45])) (val (d1 ++ d2)) (exV sg2 d3 - (d2.length : Int))
  have hlen := congrArg List.length hl
  rw [bs_length, List.length_append, List.length_append] at hlen
  obtain ⟨hda, hdn, hdl⟩ := body_digs h2
  have hdl2 : d2.length ≤ (d1 ++ d2).length := by rw [List.length_append]; omega
  have hex := exV_bound sg2 d3
  obtain ⟨neg, hneg⟩ : ∃ neg, decide (sg = [45]) = neg := ⟨_, rfl⟩
  have hN := Lib.hid (fun (w : World) (t : ByteArray) (x : Int) (ht : bs t = d1 ++ d2) (hx : x = exV sg2 d3 - (d2.length : Int)) => by
    have hts : t.size ≤ 1073741824 := by rw [← bs_length, ht]; omega
    have := l03Form_any (decide (sg = [45])) t x w (by rw [ht]; exact hda) hts (by omega) (by omega)
    rw [ht, hx, hV, hneg, ← hx] at this
    exact this : ∀ (w : World) (t : ByteArray) (x : Int), bs t = d1 ++ d2 → x = exV sg2 d3 - (d2.length : Int) → Calls Tryz.prog 59 #[.bool neg, .string t, .int .i64 x, .bool false] w fun e w' => e = .returned (.tuple #[.agg #[.bool n', .string u, .int .i64 y'], .int .i64 c]) ∧ Below w.heap.size w w')
  obtain ⟨i0, hi0⟩ : ∃ i0, sg.length = i0 := ⟨_, rfl⟩
  have hA := Lib.hid (show readA ((bs s).drop i0) false [] 0 = (d1 ++ d2, -(d2.length : Int), ex) by
    rw [← hi0, hl, List.drop_left]; exact readA_body h2 h3)
  obtain ⟨h0, hfb⟩ := first_byte hl h1 h2
  have hi0s : i0 ≤ s.size := by omega
  unfold readV
  rw [hV]
  have H3 := Lib.hid h3
  have HEX := Lib.hid (show ex = [] → exV sg2 d3 = 0 from fun e => by
    rcases h3 with ⟨-, rfl, rfl⟩ | ⟨c, -, h, -⟩
    · rfl
    · rw [e] at h; cases h)
  have H4 := Lib.hid (fun (c : UInt8) (r : List UInt8) (e : ex = c :: r) => by
    rcases h3 with ⟨h, -⟩ | ⟨c', -, h, hs2, hd3, -⟩
    · rw [e] at h; cases h
    · rw [e] at h
      cases h
      exact readB_ex hs2 hd3 : ∀ (c : UInt8) (r : List UInt8), ex = c :: r → exV sg2 d3 = (if (readB r false 0).1 then -((min 9999 (readB r false 0).2 : Nat) : Int) else ((min 9999 (readB r false 0).2 : Nat) : Int)))
  have hsgc : (i0 = 0 ∧ neg = false ∧ ((s[0].toNat : Int) == 43) = false ∧ ((s[0].toNat : Int) == 45) = false) ∨ (i0 = 1 ∧ neg = false ∧ (s[0].toNat : Int) = 43) ∨ (i0 = 1 ∧ neg = true ∧ (s[0].toNat : Int) = 45) := by
    rw [← hi0, ← hneg]
    rcases hfb with ⟨rfl, a, b⟩ | ⟨rfl, a⟩ | ⟨rfl, a⟩
    · exact .inl ⟨rfl, rfl, a, b⟩
    · exact .inr (.inl ⟨rfl, rfl, a⟩)
    · exact .inr (.inr ⟨rfl, rfl, a⟩)
  clear hV hlen hda hdn hdl hneg hi0 hfb h3 hl h1 h2
  rcases hsgc with ⟨rfl, rfl, hb1, hb2⟩ | ⟨rfl, rfl, hb1⟩ | ⟨rfl, rfl, hb1⟩
  all_goals
    go_enter Tryz.func29, Tryz.ntmps29
    go_wp2
    obtain ⟨w0, hw0, hz0, hb0, hc0, hf0⟩ := one_laid w false ⟨#[]⟩ 0
    rw [hw0]
    clear hw0
    go_loopw [5, 6, 7, 8] (fun t x p i wr => ∃ (T : ByteArray) (X : Int) (P : Bool) (k : Nat), t = .string T ∧ x = .int .i64 X ∧ p = .bool P ∧ i = .int .i64 (k : Int) ∧ k ≤ s.size ∧ T.size ≤ k ∧ -(k : Int) ≤ X ∧ X ≤ 0 ∧ readA ((bs s).drop k) P (bs T) X = (d1 ++ d2, -(d2.length : Int), ex) ∧ Below w0.heap.size w0 wr) (fun _ _ _ i _ => s.size - (intOf i).toNat)
    case atStart => exact ⟨⟨#[]⟩, 0, false, _, rfl, rfl, rfl, rfl, hi0s, Nat.zero_le _, by omega, by omega, hA.out, Below.refl _ _⟩
    case round =>
      obtain ⟨T, X, P, k, rfl, rfl, rfl, rfl, hks, hTk, hX1, hX2, hR, hbw⟩ := hrel
      have HR := Lib.hid hR
      have HBW := Lib.hid hbw
      clear hR hbw
      by_cases hlt : k < s.size
      · by_cases he : (s[k].toNat : Int) = 101 ∨ (s[k].toNat : Int) = 69
        · have heu : s[k] = 101 ∨ s[k] = 69 := he.imp (fun h => u8_eq (d := 101) h) (fun h => u8_eq (d := 69) h)
          have hr := HR.out
          rw [bs_drop s k hlt, readA_e heu] at hr
          simp only [Prod.mk.injEq] at hr
          obtain ⟨r1, r2, r3⟩ := hr
          have HE := Lib.hid (H4.out _ _ r3.symm)
          obtain ⟨M, hM⟩ : ∃ M, (readB ((bs s).drop (k + 1)) false 0).1 = M := ⟨_, rfl⟩
          obtain ⟨Q, hQ⟩ : ∃ Q, (readB ((bs s).drop (k + 1)) false 0).2 = Q := ⟨_, rfl⟩
          have HMQ := Lib.hid (show readB ((bs s).drop (k + 1)) false 0 = (M, Q) by rw [← hM, ← hQ])
          have HEV := Lib.hid (show exV sg2 d3 = if M then -((min 9999 Q : Nat) : Int) else ((min 9999 Q : Nat) : Int) by rw [HE.out, hM, hQ])
          have HT := Lib.hid r1
          have HX := Lib.hid r2
          clear r1 r2 r3 hM hQ HE heu
          rcases he with he | he
          all_goals
            go_wp2
            go_loop [8, 9, 10] (fun i n m => ∃ (j N : Nat) (mb : Bool), i = .int .i64 (j : Int) ∧ n = .int .i64 (N : Int) ∧ m = .bool mb ∧ j ≤ s.size ∧ N ≤ 100100 ∧ readB ((bs s).drop j) mb N = (M, Q)) (fun i _ _ => s.size - (intOf i).toNat)
            case atStart => exact ⟨k + 1, 0, false, by go_num, rfl, rfl, by omega, by omega, HMQ.out⟩
            case round =>
              obtain ⟨j, N, mb, rfl, rfl, rfl, hj, hNb, hB⟩ := hrel
              have HB := Lib.hid hB
              clear hB
              by_cases hlj : j < s.size
              · by_cases h45 : (s[j].toNat : Int) = 45
                · have hdg : isDig s[j] = false := isDig_no (by omega)
                  have hst := HB.out
                  rw [bs_drop s j hlj, readB_nodig hdg, u8_eq (d := 45) h45] at hst
                  have HST := Lib.hid hst
                  clear hst
                  go_wp2_with (go_at_call 58; refine (l03Digit_at _ s[j] _ _ (by omega) hdg).mono ?_; rintro e w1 ⟨rfl, rfl⟩)
                  go_round
                  case rel => exact ⟨j + 1, N, true, by go_num, rfl, rfl, by omega, hNb, by have := HST.out; cases mb <;> exact this⟩
                  case measure => simp [intOf]; omega
                · have h45' : ((s[j].toNat : Int) == 45) = false := beq_eq_false_iff_ne.2 h45
                  cases hdg : isDig s[j]
                  · have hst := HB.out
                    rw [bs_drop s j hlj, readB_nodig hdg, show decide (s[j] = 45) = false from decide_eq_false (fun e => h45 (by rw [e]; rfl)), Bool.or_false] at hst
                    have HST := Lib.hid hst
                    clear hst
                    go_wp2_with (go_at_call 58; refine (l03Digit_at _ s[j] _ _ (by omega) hdg).mono ?_; rintro e w1 ⟨rfl, rfl⟩)
                    go_round
                    case rel => exact ⟨j + 1, N, mb, by go_num, rfl, rfl, by omega, hNb, HST.out⟩
                    case measure => simp [intOf]; omega
                  · have hq := (isDig_iff _).1 hdg
                    have hq3 : 48 ≤ (s[j].toNat : Int) := hq.1
                    have hq4 : (s[j].toNat : Int) ≤ 57 := hq.2
                    have hst := HB.out
                    rw [bs_drop s j hlj, readB_cons, show decide (s[j] = 45) = false from decide_eq_false (fun e => h45 (by rw [e]; rfl)), Bool.or_false] at hst
                    by_cases hN1 : N < 10000
                    · have hN1' : (N : Int) < 10000 := by omega
                      rw [if_pos ⟨hdg, hN1⟩] at hst
                      have HST := Lib.hid hst
                      clear hst hq
                      go_wp2_with (go_at_call 58; refine (l03Digit_at _ s[j] _ _ (by omega) hdg).mono ?_; rintro e w1 ⟨rfl, rfl⟩)
                      go_round
                      case rel => exact ⟨j + 1, 10 * N + (s[j].toNat - 48), mb, by go_num, by congr 1; omega, rfl, by omega, by omega, HST.out⟩
                      case measure => simp [intOf]; omega
                    · have hN1' : ¬ (N : Int) < 10000 := by omega
                      have hN1b : decide ((N : Int) < 10000) = false := decide_eq_false hN1'
                      rw [if_neg (fun e => hN1 e.2)] at hst
                      have HST := Lib.hid hst
                      clear hst hq
                      go_wp2_with (go_at_call 58; refine (l03Digit_at _ s[j] _ _ (by omega) hdg).mono ?_; rintro e w1 ⟨rfl, rfl⟩)
                      go_round
                      case rel => exact ⟨j + 1, N, mb, by go_num, rfl, rfl, by omega, hNb, HST.out⟩
                      case measure => simp [intOf]; omega
              · have hst := HB.out
                rw [drop_over hlj, readB_nil] at hst
                simp only [Prod.mk.injEq] at hst
                obtain ⟨rfl, rfl⟩ := hst
                have hev := HEV.out
                have hx2 := HX.out
                obtain ⟨hz1, hc1, hf1⟩ := one_kept HBW.out hz0 hc0 hf0
                have hv1 := hb0.trans (HBW.out.mono hb0.size)
                by_cases h99 : N ≤ 9999
                · rw [Nat.min_eq_right h99] at hev
                  have h99' : ¬ (9999 < (N : Int)) := by omega
                  cases mb
                  all_goals
                    simp only [if_true, if_false, Bool.false_eq_true] at hev
                    have HXX := Lib.hid (And.intro hev hx2)
                    clear hev hx2
                    go_wp2_with fail
                    refine (hN.out _ _ _ HT.out (by have := HXX.out.1; have := HXX.out.2; omega)).mono ?_
                    rintro e w2 ⟨rfl, hb2⟩
                    obtain ⟨hz2, hc2, hf2⟩ := one_kept hb2 hz1 hc1 hf1
                    have hv2 := hv1.trans (hb2.mono hv1.size)
                    clear hz1 hc1 hf1 hv1 hb2
                    go_wp2
                    refine bodyPost_ret (v := .tuple #[.agg #[.bool n', .string u, .int .i64 y'], .int .i64 c]) (by simp [results, Tryz.results29, go_sem, *]) rfl ⟨rfl, ?_⟩
                    exact set_three hv2 (Nat.le_refl w.heap.size) _ _ _
                · rw [Nat.min_eq_left (by omega)] at hev
                  have h99' : 9999 < (N : Int) := by omega
                  cases mb
                  all_goals
                    simp only [if_true, if_false, Bool.false_eq_true] at hev
                    have HXX := Lib.hid (And.intro hev hx2)
                    clear hev hx2
                    go_wp2_with fail
                    refine (hN.out _ _ _ HT.out (by have := HXX.out.1; have := HXX.out.2; omega)).mono ?_
                    rintro e w2 ⟨rfl, hb2⟩
                    obtain ⟨hz2, hc2, hf2⟩ := one_kept hb2 hz1 hc1 hf1
                    have hv2 := hv1.trans (hb2.mono hv1.size)
                    clear hz1 hc1 hf1 hv1 hb2
                    go_wp2
                    refine bodyPost_ret (v := .tuple #[.agg #[.bool n', .string u, .int .i64 y'], .int .i64 c]) (by simp [results, Tryz.results29, go_sem, *]) rfl ⟨rfl, ?_⟩
                    exact set_three hv2 (Nat.le_refl w.heap.size) _ _ _
        · have he1 : ((s[k].toNat : Int) == 101) = false := beq_eq_false_iff_ne.2 (fun e => he (.inl e))
          have he2 : ((s[k].toNat : Int) == 69) = false := beq_eq_false_iff_ne.2 (fun e => he (.inr e))
          have he3 : ((s[k].toNat : Int) != 101) = true := by unfold bne; rw [he1]; rfl
          have he4 : ((s[k].toNat : Int) != 69) = true := by unfold bne; rw [he2]; rfl
          have heu : ¬ (s[k] = 101 ∨ s[k] = 69) := fun h => he (h.imp (fun e => by rw [e]; rfl) (fun e => by rw [e]; rfl))
          by_cases hc : (s[k].toNat : Int) = 46
          · have hr := HR.out
            rw [show (bs s).drop k = 46 :: (bs s).drop (k + 1) by rw [bs_drop s k hlt, u8_eq (d := 46) hc], readA_dot] at hr
            have HR2 := Lib.hid hr
            clear hr he he1 he2 he3 he4
            go_wp2
            go_roundw
            case rel => exact ⟨T, X, true, k + 1, rfl, rfl, rfl, by go_num, by omega, by omega, by omega, by omega, HR2.out, HBW.out⟩
            case measure => simp [intOf]; omega
          · have hc' : ((s[k].toNat : Int) == 46) = false := beq_eq_false_iff_ne.2 hc
            have hr := HR.out
            rw [bs_drop s k hlt, readA_dig heu (fun e => hc (by rw [e]; rfl)), ← bs_one' s k hlt, ← bs_app] at hr
            have HR2 := Lib.hid hr
            have hone : (s.extract k (k + 1)).size = 1 := by rw [← bs_length, bs_one' s k hlt]; rfl
            have hts : (T ++ s.extract k (k + 1)).size = T.size + 1 := by rw [ByteArray.size_append, hone]
            have hno : ¬ (9223372036854775807 < T.size + (min (k + 1) s.size - k)) := by omega
            clear hr
            cases P
            · go_wp2
              go_roundw
              case rel => exact ⟨T ++ s.extract k (k + 1), X, false, k + 1, rfl, rfl, rfl, by go_num, by omega, by omega, by omega, by omega, HR2.out, by have := HBW.out; (repeat (first | exact Below.refl _ _ | assumption | refine Below.drew ?_ | refine Go.below_drewN ?_ _ | (refine Below.alloc ?_ (by first | exact Nat.le_refl _ | (simp; done) | (simp; omega) | (simp at *; omega)) _) | (refine Below.setCell ?_ (by first | exact Nat.le_refl _ | (simp; done) | (simp; omega)) _) | (refine Below.trans ?_ (Below.mono (by assumption) (by first | exact Nat.le_refl _ | (simp; done) | (simp; omega) | (simp at *; omega))))))⟩
              case measure => simp [intOf]; omega
            · go_wp2
              go_roundw
              case rel => exact ⟨T ++ s.extract k (k + 1), X - 1, true, k + 1, rfl, rfl, rfl, by go_num, by omega, by omega, by omega, by omega, HR2.out, by have := HBW.out; (repeat (first | exact Below.refl _ _ | assumption | refine Below.drew ?_ | refine Go.below_drewN ?_ _ | (refine Below.alloc ?_ (by first | exact Nat.le_refl _ | (simp; done) | (simp; omega) | (simp at *; omega)) _) | (refine Below.setCell ?_ (by first | exact Nat.le_refl _ | (simp; done) | (simp; omega)) _) | (refine Below.trans ?_ (Below.mono (by assumption) (by first | exact Nat.le_refl _ | (simp; done) | (simp; omega) | (simp at *; omega))))))⟩
              case measure => simp [intOf]; omega
      · have hr := HR.out
        rw [drop_over hlt, readA_nil] at hr
        simp only [Prod.mk.injEq] at hr
        obtain ⟨r1, r2, r3⟩ := hr
        have hev := HEX.out r3.symm
        have HT := Lib.hid r1
        obtain ⟨hz1, hc1, hf1⟩ := one_kept HBW.out hz0 hc0 hf0
        have hv1 := hb0.trans (HBW.out.mono hb0.size)
        have HX := Lib.hid (show X = exV sg2 d3 - (d2.length : Int) by omega)
        clear r1 r2 r3 hev
        go_wp2_with fail
        refine (hN.out _ _ _ HT.out (by have := HX.out; omega)).mono ?_
        rintro e w2 ⟨rfl, hb2⟩
        obtain ⟨hz2, hc2, hf2⟩ := one_kept hb2 hz1 hc1 hf1
        have hv2 := hv1.trans (hb2.mono hv1.size)
        clear hz1 hc1 hf1 hv1 hb2
        go_wp2
        refine bodyPost_ret (v := .tuple #[.agg #[.bool n', .string u, .int .i64 y'], .int .i64 c]) (by simp [results, Tryz.results29, go_sem, *]) rfl ⟨rfl, ?_⟩
        exact set_three hv2 (Nat.le_refl w.heap.size) _ _ _
end Go.Proofs.YtjjpdoabagnmoaaGreatDoor
