/-
  The walk of FnNatNearest, out of the contracts. No condition.
-/
import Derived.Test.YtbaldkpkloohkaaDoorDrawRound
import Derived.Test.YtbaldkpkloohkaaDoorNatSumsWalk
namespace Go.Proofs.YtbaldkpkloohkaaDoor
open Go.RowKit
set_option linter.unusedVariables false
set_option linter.unusedSimpArgs false

/-- what is rounded and scaled again is off by at most half of the step, and where by half, the rounded number is even -/
theorem nearest (v n : Nat) : ∃ d : Nat, ((roundV v n * 10 ^ n ≤ v ∧ d = v - roundV v n * 10 ^ n) ∨ (v < roundV v n * 10 ^ n ∧ d = roundV v n * 10 ^ n - v)) ∧ (d + d < 10 ^ n ∨ (d + d = 10 ^ n ∧ roundV v n % 2 = 0)) := by
  have hp : 0 < 10 ^ n := Nat.pow_pos (by omega)
  have hm := Nat.mod_lt v hp
  have hd := Nat.div_add_mod v (10 ^ n)
  have hs : (v / 10 ^ n + 1) * 10 ^ n = 10 ^ n * (v / 10 ^ n) + 10 ^ n := by rw [Nat.add_mul, Nat.mul_comm, Nat.one_mul]
  have hc : v / 10 ^ n * 10 ^ n = 10 ^ n * (v / 10 ^ n) := Nat.mul_comm _ _
  unfold roundV
  generalize hP : 10 ^ n = P at *
  generalize hQ : v / P = Q at *
  generalize hM : v % P = M at *
  generalize hPQ : P * Q = PQ at *
  split
  · rename_i h
    rw [hs]
    refine ⟨PQ + P - v, .inr ⟨by omega, rfl⟩, ?_⟩
    rcases h with h | ⟨h, h2⟩
    · exact .inl (by omega)
    · exact .inr ⟨by omega, by omega⟩
  · rename_i h
    rw [hc]
    refine ⟨v - PQ, .inl ⟨by omega, rfl⟩, ?_⟩
    by_cases h3 : 2 * M = P
    · exact .inr ⟨by omega, by have := fun h2 => h (.inr ⟨h3, h2⟩); omega⟩
    · exact .inl (by have := fun h2 => h (.inl h2); omega)

theorem ten_lt {a b K : Nat} (h : a < 10 ^ K) (h2 : b ≤ 10 ^ K) : a + b < 10 ^ (K + 1) := by
  rw [Nat.pow_succ]; omega

/-- what the calls return -/
theorem nearest_calls (s : ByteArray) (n : Nat) (hs : s.size ≤ maxLen) (ha : natOk (bs s) = true) (hn : n ≤ 600) :
    ∃ (r : ByteArray) (f : Bool), (∀ w, Calls Tryd.prog 20 #[.string s, .int .i64 (n : Int)] w fun e w' => e = .returned (.tuple #[.string r, .bool f]) ∧ Below w.heap.size w w') ∧
      (∀ w, Calls Tryd.prog 19 #[.string s, .int .i64 (n : Int)] w fun e w' => e = .returned (.tuple #[.string r, .bool f]) ∧ Below w.heap.size w w') ∧
      (f = true → n ≤ 300 → s.size ≤ 290 → ∃ (back step d twice : ByteArray) (c : Int),
        (∀ w, Calls Tryd.prog 26 #[.string r, .int .i64 (n : Int)] w fun e w' => e = .returned (.tuple #[.string back, .bool true]) ∧ Below w.heap.size w w') ∧
        (∀ w, Calls Tryd.prog 26 #[.string ⟨#[49]⟩, .int .i64 (n : Int)] w fun e w' => e = .returned (.tuple #[.string step, .bool true]) ∧ Below w.heap.size w w') ∧
        ((∀ w, Calls Tryd.prog 15 #[.string s, .string back] w fun e w' => e = .returned (.tuple #[.string d, .bool true]) ∧ Below w.heap.size w w') ∨
          ((∀ w, Calls Tryd.prog 15 #[.string s, .string back] w fun e w' => e = .returned (.tuple #[.string ⟨#[]⟩, .bool false]) ∧ Below w.heap.size w w') ∧
            (∀ w, Calls Tryd.prog 15 #[.string back, .string s] w fun e w' => e = .returned (.tuple #[.string d, .bool true]) ∧ Below w.heap.size w w'))) ∧
        (∀ w, Calls Tryd.prog 11 #[.string d, .string d] w fun e w' => e = .returned (.tuple #[.string twice, .bool true]) ∧ Below w.heap.size w w') ∧
        (∀ w, Calls Tryd.prog 27 #[.string twice, .string step] w fun e w' => e = .returned (.int .i64 c) ∧ Below w.heap.size w w') ∧
        (c = -1 ∨ (c = 0 ∧ r.size ≤ 600 ∧ ∃ h : 0 < r.size, (48 : Int) ≤ r[r.size - 1].toNat ∧ (r[r.size - 1].toNat : Int) ≤ 57 ∧ ((r[r.size - 1].toNat : Int) - 48) % 2 = 0))) := by
  have hb : betw (n : Int) 0 600 = true := by simp [betw]; omega
  refine ⟨fitS (dec (roundV (val (bs s)) n)), fitB (dec (roundV (val (bs s)) n)), fun w => implNatRound_yes s n w hs ha hb hn, fun w => specNatRound_yes s n w hs ha hb hn, fun hf hn3 hs3 => ?_⟩
  obtain ⟨c1, l1⟩ := natOk_canon ha
  have hA := val_lt (bs s) c1.dig
  rw [bs_length] at hA
  have hsd := same_val ha
  obtain ⟨A, eA⟩ : ∃ A, val (bs s) = A := ⟨_, rfl⟩
  rw [eA] at hA hsd hf ⊢
  obtain ⟨d, hd, he⟩ := nearest A n
  obtain ⟨R, eR⟩ : ∃ R, roundV A n = R := ⟨_, rfl⟩
  rw [eR] at hd he hf ⊢
  obtain ⟨P, eP⟩ : ∃ P, 10 ^ n = P := ⟨_, rfl⟩
  rw [eP] at hd he
  have hp : 0 < P := by rw [← eP]; exact Nat.pow_pos (by omega)
  obtain ⟨K, hK⟩ : ∃ K : Nat, K = 300 := ⟨_, rfl⟩
  have hP3 : P ≤ 10 ^ K := by rw [← eP]; exact Nat.pow_le_pow_right (by decide) (by omega)
  have hA2 : A < 10 ^ K := Nat.lt_of_lt_of_le hA (Nat.pow_le_pow_right (by decide) (by omega))
  have hX := ten_lt hA2 hP3
  have h0 : R ≤ R * P := Nat.le_mul_of_pos_right R hp
  have hB : R * P ≤ A + P := by omega
  have hdl : d + d ≤ A + P := by omega
  have hl := fitB_len hf
  have er : fitS (dec R) = ofL (dec R) := fitS_yes hl
  rw [er]
  have okR : natOk (bs (ofL (dec R))) = true := natOk_dec (x := R) (A := A + P) (by omega) hX (by omega)
  have szR : (ofL (dec R)).size ≤ maxLen := size_dec (x := R) (A := A + P) (by omega) hX (by omega)
  have okB : natOk (bs (ofL (dec (R * P)))) = true := natOk_dec hB hX (by omega)
  have szB : (ofL (dec (R * P))).size ≤ maxLen := size_dec hB hX (by omega)
  have okP : natOk (bs (ofL (dec P))) = true := natOk_dec (x := P) (A := A + P) (by omega) hX (by omega)
  have szP : (ofL (dec P)).size ≤ maxLen := size_dec (x := P) (A := A + P) (by omega) hX (by omega)
  have okD : natOk (bs (ofL (dec d))) = true := natOk_dec (x := d) (A := A + P) (by omega) hX (by omega)
  have szD : (ofL (dec d)).size ≤ maxLen := size_dec (x := d) (A := A + P) (by omega) hX (by omega)
  have okT : natOk (bs (ofL (dec (d + d)))) = true := natOk_dec hdl hX (by omega)
  have szT : (ofL (dec (d + d))).size ≤ maxLen := size_dec hdl hX (by omega)
  have lB := (natOk_canon okB).2
  have lP := (natOk_canon okP).2
  have lT := (natOk_canon okT).2
  rw [bs_ofL] at lB lP lT
  refine ⟨ofL (dec (R * P)), ofL (dec P), ofL (dec d), ofL (dec (d + d)), cmpN (d + d) P, fun w => ?_, fun w => ?_, ?_, fun w => ?_, fun w => ?_, ?_⟩
  · have h := specNatShift_yes (ofL (dec R)) n w szR okR hb hn
    rw [bs_ofL, val_dec, eP, fitS_yes lB, fitB_yes lB] at h
    exact h
  · have h := specNatShift_yes ⟨#[49]⟩ n w (by decide) (by decide) hb hn
    rw [show val (bs ⟨#[49]⟩) = 1 from by decide, eP, Nat.one_mul, fitS_yes lP, fitB_yes lP] at h
    exact h
  · rcases hd with ⟨h1, h2⟩ | ⟨h1, h2⟩
    · refine .inl fun w => ?_
      have h := specNatSub_yes s (ofL (dec (R * P))) w hs szB ha okB (by rw [bs_ofL, val_dec, eA]; exact h1)
      rw [bs_ofL, val_dec, eA, ← h2] at h
      exact h
    · refine .inr ⟨fun w => ?_, fun w => ?_⟩
      · exact specNatSub_less s (ofL (dec (R * P))) w hs szB ha okB (by rw [bs_ofL, val_dec, eA]; exact h1)
      · have h := specNatSub_yes (ofL (dec (R * P))) s w szB hs okB ha (by rw [bs_ofL, val_dec, eA]; omega)
        rw [bs_ofL, val_dec, eA, ← h2] at h
        exact h
  · have h := specNatAdd_yes (ofL (dec d)) (ofL (dec d)) w szD szD okD okD
    rw [bs_ofL, val_dec, fitS_yes lT, fitB_yes lT] at h
    exact h
  · have h := specNatCmp_yes (ofL (dec (d + d))) (ofL (dec P)) w szT szP okT okP
    rw [bs_ofL, bs_ofL, val_dec, val_dec] at h
    exact h
  · rcases he with h1 | ⟨h1, h2⟩
    · exact .inl (by unfold cmpN; rw [if_pos h1])
    · refine .inr ⟨by unfold cmpN; rw [if_neg (by omega), if_pos h1], by rw [size_ofL]; exact hl, ?_⟩
      obtain ⟨q, hq, -, hq0, hql⟩ := last_dec R
      rw [hq]
      have : R % 10 < 10 := Nat.mod_lt _ (by omega)
      exact ⟨hq0, by omega, by omega, by omega⟩

theorem fnNatNearest_walk (a : Option Addr) (len cap : Nat) (z : List Int) (w : World) (hr : IsRow .u8 w a len cap z) :
    Calls Tryd.prog 9 #[.slice a len cap] w fun e w' => e = .returned (.bool true) ∧ Below w.heap.size w w' := by
  have hm := (isRow_row hr).2.2.1
  have HR := Lib.hid hr
  have HM := Lib.hid hm
  clear hr hm
  by_cases hbig : 1048576 < len
  · have hd : decide (1048576 < len) = true := decide_eq_true hbig
    go_enter Tryd.func9, Tryd.ntmps9
    go_wp2_with fail
    refine (big_any a len cap _ HM.out).mono ?_
    rintro e w1 ⟨rfl, rfl⟩
    rw [hd]
    go_wp2
    go_ret
    exact ⟨rfl, Below.refl _ _⟩
  · have hd : decide (1048576 < len) = false := decide_eq_false hbig
    go_enter Tryd.func9, Tryd.ntmps9
    go_wp2_with fail
    refine (big_any a len cap _ HM.out).mono ?_
    rintro e w1 ⟨rfl, hw1⟩
    obtain rfl : w = w1 := hw1.symm
    rw [hd]
    go_wp2_with fail
    refine (drawNatRound_any a len cap z _ HR.out (by omega)).mono ?_
    rintro e w1 ⟨s, x, rfl, hs, hb1⟩
    have HB1 := Lib.hid hb1
    clear hb1
    have HS := Lib.hid (show s.size ≤ maxLen by unfold maxLen; omega)
    by_cases hno : natOk (bs s) = false ∨ betw x 0 600 = false
    · have HNO := Lib.hid hno
      clear hno
      go_wp2_with fail
      refine (implNatRound_no s x _ HS.out HNO.out).mono ?_
      rintro e w2 ⟨rfl, hb2⟩
      have HB2 := Lib.hid (HB1.out.trans (hb2.mono HB1.out.size))
      clear hb2
      go_wp2_with fail
      refine (specNatRound_no s x _ HS.out HNO.out).mono ?_
      rintro e w3 ⟨rfl, hb3⟩
      have HB3 := Lib.hid (HB2.out.trans (hb3.mono HB2.out.size))
      clear hb3
      go_wp2
      go_ret
      exact ⟨rfl, HB3.out⟩
    · have h1 : natOk (bs s) = true := by cases e : natOk (bs s) with | true => rfl | false => exact absurd (.inl e) hno
      have h2 : betw x 0 600 = true := by cases e : betw x 0 600 with | true => rfl | false => exact absurd (.inr e) hno
      obtain ⟨n, rfl, hn⟩ := betw_nat h2
      obtain ⟨r, f, k1, k2, k3⟩ := nearest_calls s n HS.out h1 hn
      have K1 := Lib.hid k1
      have K2 := Lib.hid k2
      have K3 := Lib.hid k3
      clear k1 k2 k3 hno h1 h2
      cases f
      · go_wp2_with fail
        refine (K1.out _).mono ?_
        rintro e w2 ⟨rfl, hb2⟩
        have HB2 := Lib.hid (HB1.out.trans (hb2.mono HB1.out.size))
        clear hb2
        go_wp2_with fail
        refine (K2.out _).mono ?_
        rintro e w3 ⟨rfl, hb3⟩
        have HB3 := Lib.hid (HB2.out.trans (hb3.mono HB2.out.size))
        clear hb3
        go_wp2
        go_ret
        exact ⟨rfl, HB3.out⟩
      · by_cases hn3 : 300 < n
        · go_wp2_with fail
          refine (K1.out _).mono ?_
          rintro e w2 ⟨rfl, hb2⟩
          have HB2 := Lib.hid (HB1.out.trans (hb2.mono HB1.out.size))
          clear hb2
          go_wp2_with fail
          refine (K2.out _).mono ?_
          rintro e w3 ⟨rfl, hb3⟩
          have HB3 := Lib.hid (HB2.out.trans (hb3.mono HB2.out.size))
          clear hb3
          go_wp2
          go_ret
          exact ⟨rfl, HB3.out⟩
        · by_cases hs3 : 290 < s.size
          · go_wp2_with fail
            refine (K1.out _).mono ?_
            rintro e w2 ⟨rfl, hb2⟩
            have HB2 := Lib.hid (HB1.out.trans (hb2.mono HB1.out.size))
            clear hb2
            go_wp2_with fail
            refine (K2.out _).mono ?_
            rintro e w3 ⟨rfl, hb3⟩
            have HB3 := Lib.hid (HB2.out.trans (hb3.mono HB2.out.size))
            clear hb3
            go_wp2
            go_ret
            exact ⟨rfl, HB3.out⟩
          · obtain ⟨back, step, d, twice, c, k4, k5, k6, k7, k8, k9⟩ := K3.out rfl (by omega) (by omega)
            have K4 := Lib.hid k4
            have K5 := Lib.hid k5
            have K7 := Lib.hid k7
            have K8 := Lib.hid k8
            clear k4 k5 k7 k8
            rcases k6 with k6 | ⟨k6, k6'⟩
            · have K6 := Lib.hid k6
              clear k6
              rcases k9 with rfl | ⟨rfl, hl, h0, hq3, hq4, hq5⟩
              · go_wp2_with fail
                refine (K1.out _).mono ?_
                rintro e w2 ⟨rfl, hb2⟩
                have HB2 := Lib.hid (HB1.out.trans (hb2.mono HB1.out.size))
                clear hb2
                go_wp2_with fail
                refine (K2.out _).mono ?_
                rintro e w3 ⟨rfl, hb3⟩
                have HB3 := Lib.hid (HB2.out.trans (hb3.mono HB2.out.size))
                clear hb3
                go_wp2_with fail
                refine (K4.out _).mono ?_
                rintro e w4 ⟨rfl, hb4⟩
                have HB4 := Lib.hid (HB3.out.trans (hb4.mono HB3.out.size))
                clear hb4
                go_wp2_with fail
                refine (K5.out _).mono ?_
                rintro e w5 ⟨rfl, hb5⟩
                have HB5 := Lib.hid (HB4.out.trans (hb5.mono HB4.out.size))
                clear hb5
                go_wp2_with fail
                refine (K6.out _).mono ?_
                rintro e w6 ⟨rfl, hb6⟩
                have HB6 := Lib.hid (HB5.out.trans (hb6.mono HB5.out.size))
                clear hb6
                go_wp2_with fail
                refine (K7.out _).mono ?_
                rintro e w7 ⟨rfl, hb7⟩
                have HB7 := Lib.hid (HB6.out.trans (hb7.mono HB6.out.size))
                clear hb7
                go_wp2_with fail
                refine (K8.out _).mono ?_
                rintro e w8 ⟨rfl, hb8⟩
                have HB8 := Lib.hid (HB7.out.trans (hb8.mono HB7.out.size))
                clear hb8
                go_wp2
                go_ret
                exact ⟨rfl, HB8.out⟩
              · have hqw : wrap64 ((r.size : Int) - 1) = (r.size : Int) - 1 := IntWalk.wrap64_in _ (by omega)
                have hqt : ((r.size : Int) - 1).toNat = r.size - 1 := by omega
                have hq1 : 0 ≤ (r.size : Int) - 1 := by omega
                have hq2 : (r.size : Int) - 1 < (r.size : Int) := by omega
                have t4 : (((r[r.size - 1].toNat : Int) - 48) % 2 == 0) = true := beq_iff_eq.2 hq5
                go_wp2_with fail
                refine (K1.out _).mono ?_
                rintro e w2 ⟨rfl, hb2⟩
                have HB2 := Lib.hid (HB1.out.trans (hb2.mono HB1.out.size))
                clear hb2
                go_wp2_with fail
                refine (K2.out _).mono ?_
                rintro e w3 ⟨rfl, hb3⟩
                have HB3 := Lib.hid (HB2.out.trans (hb3.mono HB2.out.size))
                clear hb3
                go_wp2_with fail
                refine (K4.out _).mono ?_
                rintro e w4 ⟨rfl, hb4⟩
                have HB4 := Lib.hid (HB3.out.trans (hb4.mono HB3.out.size))
                clear hb4
                go_wp2_with fail
                refine (K5.out _).mono ?_
                rintro e w5 ⟨rfl, hb5⟩
                have HB5 := Lib.hid (HB4.out.trans (hb5.mono HB4.out.size))
                clear hb5
                go_wp2_with fail
                refine (K6.out _).mono ?_
                rintro e w6 ⟨rfl, hb6⟩
                have HB6 := Lib.hid (HB5.out.trans (hb6.mono HB5.out.size))
                clear hb6
                go_wp2_with fail
                refine (K7.out _).mono ?_
                rintro e w7 ⟨rfl, hb7⟩
                have HB7 := Lib.hid (HB6.out.trans (hb7.mono HB6.out.size))
                clear hb7
                go_wp2_with fail
                refine (K8.out _).mono ?_
                rintro e w8 ⟨rfl, hb8⟩
                have HB8 := Lib.hid (HB7.out.trans (hb8.mono HB7.out.size))
                clear hb8
                go_wp2
                go_ret
                exact ⟨rfl, HB8.out⟩
            · have K6 := Lib.hid k6
              have K9 := Lib.hid k6'
              clear k6 k6'
              rcases k9 with rfl | ⟨rfl, hl, h0, hq3, hq4, hq5⟩
              · go_wp2_with fail
                refine (K1.out _).mono ?_
                rintro e w2 ⟨rfl, hb2⟩
                have HB2 := Lib.hid (HB1.out.trans (hb2.mono HB1.out.size))
                clear hb2
                go_wp2_with fail
                refine (K2.out _).mono ?_
                rintro e w3 ⟨rfl, hb3⟩
                have HB3 := Lib.hid (HB2.out.trans (hb3.mono HB2.out.size))
                clear hb3
                go_wp2_with fail
                refine (K4.out _).mono ?_
                rintro e w4 ⟨rfl, hb4⟩
                have HB4 := Lib.hid (HB3.out.trans (hb4.mono HB3.out.size))
                clear hb4
                go_wp2_with fail
                refine (K5.out _).mono ?_
                rintro e w5 ⟨rfl, hb5⟩
                have HB5 := Lib.hid (HB4.out.trans (hb5.mono HB4.out.size))
                clear hb5
                go_wp2_with fail
                refine (K6.out _).mono ?_
                rintro e w6 ⟨rfl, hb6⟩
                have HB6 := Lib.hid (HB5.out.trans (hb6.mono HB5.out.size))
                clear hb6
                go_wp2_with fail
                refine (K9.out _).mono ?_
                rintro e w7 ⟨rfl, hb7⟩
                have HB7 := Lib.hid (HB6.out.trans (hb7.mono HB6.out.size))
                clear hb7
                go_wp2_with fail
                refine (K7.out _).mono ?_
                rintro e w8 ⟨rfl, hb8⟩
                have HB8 := Lib.hid (HB7.out.trans (hb8.mono HB7.out.size))
                clear hb8
                go_wp2_with fail
                refine (K8.out _).mono ?_
                rintro e w9 ⟨rfl, hb9⟩
                have HB9 := Lib.hid (HB8.out.trans (hb9.mono HB8.out.size))
                clear hb9
                go_wp2
                go_ret
                exact ⟨rfl, HB9.out⟩
              · have hqw : wrap64 ((r.size : Int) - 1) = (r.size : Int) - 1 := IntWalk.wrap64_in _ (by omega)
                have hqt : ((r.size : Int) - 1).toNat = r.size - 1 := by omega
                have hq1 : 0 ≤ (r.size : Int) - 1 := by omega
                have hq2 : (r.size : Int) - 1 < (r.size : Int) := by omega
                have t4 : (((r[r.size - 1].toNat : Int) - 48) % 2 == 0) = true := beq_iff_eq.2 hq5
                go_wp2_with fail
                refine (K1.out _).mono ?_
                rintro e w2 ⟨rfl, hb2⟩
                have HB2 := Lib.hid (HB1.out.trans (hb2.mono HB1.out.size))
                clear hb2
                go_wp2_with fail
                refine (K2.out _).mono ?_
                rintro e w3 ⟨rfl, hb3⟩
                have HB3 := Lib.hid (HB2.out.trans (hb3.mono HB2.out.size))
                clear hb3
                go_wp2_with fail
                refine (K4.out _).mono ?_
                rintro e w4 ⟨rfl, hb4⟩
                have HB4 := Lib.hid (HB3.out.trans (hb4.mono HB3.out.size))
                clear hb4
                go_wp2_with fail
                refine (K5.out _).mono ?_
                rintro e w5 ⟨rfl, hb5⟩
                have HB5 := Lib.hid (HB4.out.trans (hb5.mono HB4.out.size))
                clear hb5
                go_wp2_with fail
                refine (K6.out _).mono ?_
                rintro e w6 ⟨rfl, hb6⟩
                have HB6 := Lib.hid (HB5.out.trans (hb6.mono HB5.out.size))
                clear hb6
                go_wp2_with fail
                refine (K9.out _).mono ?_
                rintro e w7 ⟨rfl, hb7⟩
                have HB7 := Lib.hid (HB6.out.trans (hb7.mono HB6.out.size))
                clear hb7
                go_wp2_with fail
                refine (K7.out _).mono ?_
                rintro e w8 ⟨rfl, hb8⟩
                have HB8 := Lib.hid (HB7.out.trans (hb8.mono HB7.out.size))
                clear hb8
                go_wp2_with fail
                refine (K8.out _).mono ?_
                rintro e w9 ⟨rfl, hb9⟩
                have HB9 := Lib.hid (HB8.out.trans (hb9.mono HB8.out.size))
                clear hb9
                go_wp2
                go_ret
                exact ⟨rfl, HB9.out⟩
end Go.Proofs.YtbaldkpkloohkaaDoor
