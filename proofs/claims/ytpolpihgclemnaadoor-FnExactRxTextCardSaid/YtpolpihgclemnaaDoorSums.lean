/-
  Plain facts on adding, taking away and multiplying place by place. No program here. No condition.
-/
import Derived.Test.YtpolpihgclemnaaDoorVal
namespace Go.Proofs.YtpolpihgclemnaaDoor

theorem mod_succ (a i : Nat) : a % 10 ^ (i + 1) = a % 10 ^ i + 10 ^ i * dgt a i := by
  rw [Nat.pow_succ, Nat.mod_mul]; rfl
theorem pow_pos' (i : Nat) : 0 < 10 ^ i := Nat.pow_pos (by omega)
theorem dgt_div (v i : Nat) : v / 10 ^ (i + 1) = v / 10 ^ i / 10 := by rw [Nat.pow_succ, Nat.div_div_eq_div_mul]
theorem dgt_mod (x v i : Nat) (h : x % 10 ^ (i + 1) = v % 10 ^ (i + 1)) : dgt x i = dgt v i := by
  have h1 := mod_succ x i
  have h2 := mod_succ v i
  have h3 : x % 10 ^ i = v % 10 ^ i := by
    have := congrArg (· % 10 ^ i) h
    simpa [Nat.pow_succ, Nat.mod_mul_right_mod] using this
  rw [h, h2, h3] at h1
  have h4 : 10 ^ i * dgt v i = 10 ^ i * dgt x i := by omega
  exact (Nat.eq_of_mul_eq_mul_left (pow_pos' i) h4).symm

/-- what is carried behind i places -/
def car (a b i : Nat) : Nat := (a % 10 ^ i + b % 10 ^ i) / 10 ^ i
theorem car_zero (a b : Nat) : car a b 0 = 0 := by simp [car, Nat.mod_one]
theorem car_step (a b i : Nat) : car a b i + dgt a i + dgt b i = (a % 10 ^ (i + 1) + b % 10 ^ (i + 1)) / 10 ^ i := by
  rw [mod_succ a i, mod_succ b i]
  have e : a % 10 ^ i + 10 ^ i * dgt a i + (b % 10 ^ i + 10 ^ i * dgt b i) = (a % 10 ^ i + b % 10 ^ i) + 10 ^ i * (dgt a i + dgt b i) := by rw [Nat.mul_add]; omega
  rw [e, Nat.add_mul_div_left _ _ (pow_pos' i)]
  unfold car; omega
theorem car_succ (a b i : Nat) : (car a b i + dgt a i + dgt b i) / 10 = car a b (i + 1) := by
  rw [car_step, Nat.div_div_eq_div_mul, ← Nat.pow_succ]; rfl
theorem car_dgt (a b i : Nat) : (car a b i + dgt a i + dgt b i) % 10 = dgt (a + b) i := by
  rw [car_step]
  show dgt (a % 10 ^ (i + 1) + b % 10 ^ (i + 1)) i = _
  exact dgt_mod _ _ _ (by rw [Nat.add_mod a b])
theorem car_le (a b i : Nat) : car a b i ≤ 1 := by
  unfold car
  have h1 := Nat.mod_lt a (pow_pos' i)
  have h2 := Nat.mod_lt b (pow_pos' i)
  have : (a % 10 ^ i + b % 10 ^ i) / 10 ^ i < 2 := by
    rw [Nat.div_lt_iff_lt_mul (pow_pos' i)]; omega
  omega
theorem car_end {a b i : Nat} (ha : a < 10 ^ i) (hb : b < 10 ^ i) (h : car a b i = 0) : a + b < 10 ^ i := by
  unfold car at h
  rw [Nat.mod_eq_of_lt ha, Nat.mod_eq_of_lt hb, Nat.div_eq_zero_iff] at h
  have := pow_pos' i
  omega

theorem car_over {a b n i : Nat} (ha : a < 10 ^ n) (hb : b < 10 ^ n) (h : n < i) : car a b i = 0 := by
  have h1 : 10 ^ (n + 1) ≤ 10 ^ i := Nat.pow_le_pow_right (by omega) h
  rw [Nat.pow_succ] at h1
  unfold car
  rw [Nat.div_eq_zero_iff]
  right
  rw [Nat.mod_eq_of_lt (by omega), Nat.mod_eq_of_lt (by omega)]
  omega

/-- what is owed behind i places: what adding the difference carries -/
def owe (a b i : Nat) : Nat := car b (a - b) i
theorem owe_zero (a b : Nat) : owe a b 0 = 0 := car_zero _ _
theorem owe_le (a b i : Nat) : owe a b i ≤ 1 := car_le _ _ _
theorem owe_step (a b i : Nat) (h : b ≤ a) :
    (dgt b i + owe a b i ≤ dgt a i → owe a b (i + 1) = 0 ∧ dgt (a - b) i = dgt a i - dgt b i - owe a b i) ∧
    (dgt a i < dgt b i + owe a b i → owe a b (i + 1) = 1 ∧ dgt (a - b) i = dgt a i + 10 - dgt b i - owe a b i) := by
  have h1 := car_succ b (a - b) i
  have h2 := car_dgt b (a - b) i
  rw [show b + (a - b) = a from Nat.add_sub_cancel' h] at h2
  have d1 := dgt_lt (a - b) i
  have d2 := dgt_lt b i
  have d3 := car_le b (a - b) i
  unfold owe
  rw [← h1, ← h2]
  generalize car b (a - b) i = c at *
  generalize dgt b i = x at *
  generalize dgt (a - b) i = y at *
  omega

/-! ### a product's columns -/
/-- the sum of the products of the digits whose places add up to j, the first i places of a taken, of the next k places -/
def colTo (a b la : Nat) : Nat → Nat → Nat
  | 0, _ => 0
  | i + 1, j => colTo a b la i j + (if i ≤ j then dgt a i * dgt b (j - i) else 0)
end Go.Proofs.YtpolpihgclemnaaDoor
