/-
  Plain facts on multiplying column by column. No program here. No condition.
-/
import Derived.Test.YtjjpdoabagnmoaaDoorSums
namespace Go.Proofs.YtjjpdoabagnmoaaDoor

/-- the number of the first columns -/
def sumP (f : Nat → Nat) : Nat → Nat
  | 0 => 0
  | k + 1 => sumP f k + f k * 10 ^ k
/-- what they carry -/
def carF (f : Nat → Nat) (k : Nat) : Nat := sumP f k / 10 ^ k
theorem carF_zero (f : Nat → Nat) : carF f 0 = 0 := by simp [carF, sumP]
theorem carF_add (f : Nat → Nat) (k : Nat) : carF f k + f k = sumP f (k + 1) / 10 ^ k := by
  unfold carF; rw [sumP, Nat.add_mul_div_right _ _ (pow_pos' k)]
theorem carF_succ (f : Nat → Nat) (k : Nat) : (carF f k + f k) / 10 = carF f (k + 1) := by
  rw [carF_add, Nat.div_div_eq_div_mul, ← Nat.pow_succ]; rfl
theorem sumP_more (f : Nat → Nat) (k : Nat) : ∀ m, ∃ q, sumP f (k + m) = sumP f k + 10 ^ k * q
  | 0 => ⟨0, by simp⟩
  | m + 1 => by
    obtain ⟨q, hq⟩ := sumP_more f k m
    refine ⟨q + f (k + m) * 10 ^ m, ?_⟩
    rw [← Nat.add_assoc, sumP, hq, Nat.mul_add, Nat.pow_add, Nat.add_assoc]
    congr 2
    rw [← Nat.mul_assoc, ← Nat.mul_assoc, Nat.mul_comm (f (k + m))]
theorem carF_dgt {f : Nat → Nat} {k n : Nat} (h : k < n) : (carF f k + f k) % 10 = dgt (sumP f n) k := by
  rw [carF_add]
  show dgt (sumP f (k + 1)) k = _
  obtain ⟨q, hq⟩ := sumP_more f (k + 1) (n - (k + 1))
  rw [show k + 1 + (n - (k + 1)) = n by omega] at hq
  exact dgt_mod _ _ _ (by rw [hq, Nat.add_mul_mod_self_left])
theorem carF_le {f : Nat → Nat} {F : Nat} (h : ∀ j, f j ≤ F) : ∀ k, carF f k ≤ F
  | 0 => by rw [carF_zero]; omega
  | k + 1 => by
    have h1 := carF_le h k
    have h2 := h k
    rw [← carF_succ]
    omega
theorem sumP_add (f g : Nat → Nat) : ∀ n, sumP (fun j => f j + g j) n = sumP f n + sumP g n
  | 0 => rfl
  | n + 1 => by
    rw [sumP, sumP, sumP, sumP_add f g n, Nat.add_mul]; omega
theorem sumP_nil : ∀ n, sumP (fun _ => 0) n = 0
  | 0 => rfl
  | n + 1 => by rw [sumP, sumP_nil n]; simp

/-- the sum of the products of digits whose places add up to j, the first i places of a taken -/
def col (a b : Nat) : Nat → Nat → Nat
  | 0, _ => 0
  | i + 1, j => col a b i j + (if i ≤ j then dgt a i * dgt b (j - i) else 0)

theorem col_succ (a b i j : Nat) : col a b (i + 1) j = col a b i j + (if i ≤ j then dgt a i * dgt b (j - i) else 0) := rfl
theorem sumP_shift (x b i : Nat) : ∀ n, sumP (fun j => if i ≤ j then x * dgt b (j - i) else 0) n = if i ≤ n then x * 10 ^ i * (b % 10 ^ (n - i)) else 0
  | 0 => by
    by_cases h : i ≤ 0
    · rw [if_pos h]; simp [sumP, Nat.mod_one]
    · rw [if_neg h]; rfl
  | n + 1 => by
    rw [sumP, sumP_shift x b i n]
    by_cases h : i ≤ n
    · rw [if_pos h, if_pos h, if_pos (by omega), show n + 1 - i = (n - i) + 1 by omega, mod_succ]
      have e : 10 ^ n = 10 ^ i * 10 ^ (n - i) := by rw [← Nat.pow_add]; congr 1; omega
      rw [e, Nat.mul_add]
      congr 1
      rw [Nat.mul_assoc, Nat.mul_assoc, Nat.mul_comm (dgt b (n - i)), Nat.mul_assoc]
    · rw [if_neg h, if_neg h]
      by_cases h2 : i ≤ n + 1
      · rw [if_pos h2, show n + 1 - i = 0 by omega]; simp [Nat.mod_one]
      · rw [if_neg h2]; simp
theorem sumP_col {a b n lb : Nat} (hb : b < 10 ^ lb) : ∀ i, i + lb ≤ n → sumP (col a b i) n = (a % 10 ^ i) * b
  | 0, _ => by
    have e : col a b 0 = fun _ => 0 := rfl
    rw [e, sumP_nil]; simp [Nat.mod_one]
  | i + 1, h => by
    have e : col a b (i + 1) = fun j => col a b i j + (if i ≤ j then dgt a i * dgt b (j - i) else 0) := rfl
    have hb' : b < 10 ^ (n - i) := Nat.lt_of_lt_of_le hb (Nat.pow_le_pow_right (by omega) (by omega))
    rw [e, sumP_add, sumP_col hb i (by omega), sumP_shift, if_pos (by omega), Nat.mod_eq_of_lt hb', mod_succ, Nat.add_mul, Nat.mul_comm (dgt a i)]
theorem sumP_all {a b n la lb : Nat} (ha : a < 10 ^ la) (hb : b < 10 ^ lb) (h : la + lb ≤ n) : sumP (col a b la) n = a * b := by
  rw [sumP_col hb la h, Nat.mod_eq_of_lt ha]
theorem dgt_mul_le (a b i j : Nat) : dgt a i * dgt b j ≤ 81 := by
  have h1 := dgt_lt a i
  have h2 := dgt_lt b j
  exact Nat.le_trans (Nat.mul_le_mul (show _ ≤ 9 by omega) (show _ ≤ 9 by omega)) (by omega)
theorem col_le (a b : Nat) : ∀ i j, col a b i j ≤ 81 * i
  | 0, _ => Nat.le_refl _
  | i + 1, j => by
    have h := col_le a b i j
    have h2 := dgt_mul_le a b i (j - i)
    unfold col
    split <;> omega

/-- .. and k places of b of the next place of a -/
def colK (a b i k j : Nat) : Nat := col a b i j + (if i ≤ j ∧ j < i + k then dgt a i * dgt b (j - i) else 0)
theorem colK_zero (a b i j : Nat) : colK a b i 0 j = col a b i j := by
  unfold colK; rw [if_neg (by omega)]; rfl
theorem colK_at (a b i k : Nat) : colK a b i k (i + k) + dgt a i * dgt b k = colK a b i (k + 1) (i + k) := by
  unfold colK
  rw [if_neg (by omega), if_pos (by omega), show i + k - i = k by omega]; omega
theorem colK_off {a b i k j : Nat} (h : j ≠ i + k) : colK a b i k j = colK a b i (k + 1) j := by
  unfold colK
  by_cases h1 : i ≤ j ∧ j < i + k
  · rw [if_pos h1, if_pos (by omega)]
  · rw [if_neg h1, if_neg (by omega)]
theorem colK_end {a b i lb j : Nat} (hb : b < 10 ^ lb) : colK a b i lb j = col a b (i + 1) j := by
  rw [col_succ]
  unfold colK
  by_cases h : i ≤ j
  · rw [if_pos h]
    by_cases h2 : j < i + lb
    · rw [if_pos ⟨h, h2⟩]
    · rw [if_neg (by omega), dgt_over (v := b) (i := j - i) (Nat.lt_of_lt_of_le hb (Nat.pow_le_pow_right (by omega) (by omega)))]; simp
  · rw [if_neg (by omega), if_neg h]
theorem colK_le (a b i k j : Nat) : colK a b i k j ≤ 81 * (i + 1) := by
  have h := col_le a b i j
  have h2 := dgt_mul_le a b i (j - i)
  unfold colK
  split <;> omega
theorem mul_lt_pow {a b la lb n : Nat} (ha : a < 10 ^ la) (hb : b < 10 ^ lb) (h : la + lb ≤ n) : a * b < 10 ^ n := by
  have h1 : a * b < 10 ^ la * 10 ^ lb := Nat.mul_lt_mul'' ha hb
  rw [← Nat.pow_add] at h1
  exact Nat.lt_of_lt_of_le h1 (Nat.pow_le_pow_right (by omega) h)
end Go.Proofs.YtjjpdoabagnmoaaDoor
