/-
  What sums, comparisons and quotients of numbers mean, and that the two roads to a quotient are one. No program. No condition.
-/
import Derived.Test.YtjjpdoabagnmoaaDoorForm
namespace Go.Proofs.YtjjpdoabagnmoaaDoor
open Go.RowKit
set_option linter.unusedVariables false
set_option linter.unusedSimpArgs false

/-- the sum of two numbers on one level -/
def sumV (n : Bool) (X : Nat) (m : Bool) (Y : Nat) (z : Int) : Value :=
  if n = m then formV n (X + Y) z else if Y ≤ X then formV n (X - Y) z else formV m (Y - X) z
/-- the sign of the sum -/
def sumN (n : Bool) (X : Nat) (m : Bool) (Y : Nat) : Bool × Nat := if n = m then (n, X + Y) else if Y ≤ X then (n, X - Y) else (m, Y - X)
def sgnV (n : Bool) (X : Nat) (m : Bool) (Y : Nat) : Int := if (sumN n X m Y).2 = 0 then 0 else if (sumN n X m Y).1 then -1 else 1
theorem sumV_N (n : Bool) (X : Nat) (m : Bool) (Y : Nat) (z : Int) : sumV n X m Y z = formV (sumN n X m Y).1 (sumN n X m Y).2 z := by
  unfold sumV sumN
  split
  · rfl
  · split <;> rfl
/-- the order of two numbers on one level -/
def cmpS (n : Bool) (X : Nat) (m : Bool) (Y : Nat) : Int := if n then (if m then cmpN Y X else -1) else if m then 1 else cmpN X Y
theorem cmpS_sgn (n : Bool) (X : Nat) (m : Bool) (Y : Nat) (h1 : n = true → 0 < X) (h2 : m = true → 0 < Y) : sgnV n X (if Y = 0 then m else !m) Y = cmpS n X m Y := by
  by_cases hY : Y = 0
  · have hm : m = false := by cases m with | false => rfl | true => exact absurd (h2 rfl) (by omega)
    subst hm
    cases n with
    | false =>
      by_cases hX : X = 0
      · simp [sgnV, sumN, cmpS, cmpN, hX, hY]
      · simp [sgnV, sumN, cmpS, cmpN, hX, hY]
    | true =>
      have := h1 rfl
      have hX : X ≠ 0 := by omega
      simp [sgnV, sumN, cmpS, cmpN, hX, hY]
  · rw [if_neg hY]
    have d : X - Y = 0 ↔ X ≤ Y := by omega
    have d2 : Y - X = 0 ↔ Y ≤ X := by omega
    cases n <;> cases m <;> simp only [sgnV, sumN, cmpS, cmpN] <;> simp
    · by_cases h : Y ≤ X
      · by_cases e : X = Y
        · simp [e]
        · have : ¬ X < Y := by omega
          have : ¬ X ≤ Y := by omega
          simp [*]
      · have : X < Y := by omega
        have : ¬ Y - X = 0 := by omega
        simp [*]
    · omega
    · omega
    · by_cases h : Y ≤ X
      · by_cases e : X = Y
        · simp [e]
        · have : Y < X := by omega
          have : ¬ X ≤ Y := by omega
          simp [*]
      · have : ¬ Y < X := by omega
        have : ¬ Y = X := by omega
        have : ¬ Y - X = 0 := by omega
        simp [*]

theorem thousand (q : Nat) : (10 * q + 1) * 10 ^ 3 = 10000 * q + 1000 := by omega
theorem tenth (q c : Nat) : (1000 * q + c) * 10 ^ 1 = 10000 * q + 10 * c := by omega
/-- the quotient by 45 noughts is the quotient by 42 -/
theorem div_same (n : Bool) (A B : Nat) (e : Int) (hB : 0 < B) (hB2 : B < 10 ^ 20) :
    (if A * 10 ^ 45 % B = 0 then formV n (A * 10 ^ 45 / B) (e - 45) else formV n (10 * (A * 10 ^ 45 / B) + 1) (e - 46))
      = (if A * 10 ^ 42 % B = 0 then formV n (A * 10 ^ 42 / B) (e - 42) else formV n (10 * (A * 10 ^ 42 / B) + 1) (e - 43)) := by
  obtain ⟨N, hN⟩ : ∃ N, A * 10 ^ 42 = N := ⟨_, rfl⟩
  have hN3 : A * 10 ^ 45 = N * 1000 := by rw [← hN, show (10 : Nat) ^ 45 = 10 ^ 42 * 1000 by rw [show (45 : Nat) = 42 + 3 by omega, Nat.pow_add], Nat.mul_assoc]
  obtain ⟨q, hq⟩ : ∃ q, N / B = q := ⟨_, rfl⟩
  obtain ⟨r, hr⟩ : ∃ r, N % B = r := ⟨_, rfl⟩
  have hdm := Nat.div_add_mod N B
  rw [hq, hr] at hdm
  have hrB : r < B := by rw [← hr]; exact Nat.mod_lt _ hB
  have h3 : N * 1000 = B * (1000 * q) + 1000 * r := by
    rw [← hdm, Nat.add_mul, Nat.mul_assoc, Nat.mul_comm q 1000, Nat.mul_comm r 1000]
  have hq3 : N * 1000 / B = 1000 * q + 1000 * r / B := by rw [h3, Nat.mul_add_div hB]
  have hr3 : N * 1000 % B = 1000 * r % B := by rw [h3, Nat.mul_add_mod]
  rw [hN3, hN, hq3, hr3, hq, hr]
  by_cases h0 : r = 0
  · have e2 := formV_tens n q (e - 42) 3
    rw [h0, if_pos (by rw [Nat.mul_zero]; exact Nat.zero_mod B), if_pos rfl, Nat.mul_zero, Nat.zero_div, Nat.add_zero, ← e2]
    congr 1
    · rw [Nat.mul_comm]
    · omega
  · have hc : 1000 * r / B < 1000 := by rw [Nat.div_lt_iff_lt_mul hB]; omega
    have hcd := Nat.div_add_mod (1000 * r) B
    have hA : A ≠ 0 := by
      intro hA
      rw [hA, Nat.zero_mul] at hN
      rw [← hN, Nat.zero_mod] at hr
      exact h0 hr.symm
    have hq22 : 10 ^ 21 ≤ q := by
      rw [← hq, Nat.le_div_iff_mul_le hB, ← hN]
      have h1 : 10 ^ 21 * B ≤ 10 ^ 21 * 10 ^ 20 := Nat.mul_le_mul_left _ (Nat.le_of_lt hB2)
      have h2 : (10 : Nat) ^ 21 * 10 ^ 20 = 10 ^ 41 := (Nat.pow_add 10 21 20).symm
      rw [h2] at h1
      exact Nat.le_trans h1 (Nat.le_trans (Nat.pow_le_pow_right (by decide) (by decide)) (Nat.le_mul_of_pos_left _ (Nat.pos_of_ne_zero hA)))
    have e1 := formV_tens n (10 * q + 1) (e - 43) 3
    have e1' := thousand q
    have e1'' : e - 43 - ((3 : Nat) : Int) = e - 46 := by omega
    rw [e1', e1'', formV_sticky n q 1000 (e - 46) (by omega) (by omega) hq22] at e1
    rw [if_neg h0, ← e1]
    by_cases hd : 1000 * r % B = 0
    · rw [if_pos hd]
      have hcp : 0 < 1000 * r / B := by
        rcases Nat.eq_zero_or_pos (1000 * r / B) with h | h
        · rw [h, hd] at hcd; omega
        · exact h
      have e2 := formV_tens n (1000 * q + 1000 * r / B) (e - 45) 1
      have e2' := tenth q (1000 * r / B)
      have e2'' : e - 45 - ((1 : Nat) : Int) = e - 46 := by omega
      rw [e2', e2'', formV_sticky n q _ (e - 46) (by omega) (by omega) hq22] at e2
      exact e2.symm
    · rw [if_neg hd]
      have e2' : 10 * (1000 * q + 1000 * r / B) + 1 = 10000 * q + (10 * (1000 * r / B) + 1) := by omega
      rw [e2']
      exact formV_sticky n q _ (e - 46) (by omega) (by omega) hq22
end Go.Proofs.YtjjpdoabagnmoaaDoor
