/-
  Plain facts on dividing place by place. No program here. No condition.
-/
import Derived.Test.YtjjpdoabagnmoaaDoorSums
namespace Go.Proofs.YtjjpdoabagnmoaaDoor

theorem div_step {A B m : Nat} (hB : 0 < B) :
    (10 * (A / 10 ^ (m + 1) % B) + dgt A m) / B = dgt (A / B) m ∧ (10 * (A / 10 ^ (m + 1) % B) + dgt A m) % B = A / 10 ^ m % B ∧ 10 * (A / 10 ^ (m + 1) % B) + dgt A m < 10 * B := by
  have e0 : A / B / 10 ^ m = A / 10 ^ m / B := by rw [Nat.div_div_eq_div_mul, Nat.div_div_eq_div_mul, Nat.mul_comm]
  have e1 : dgt (A / B) m = A / 10 ^ m / B % 10 := by unfold dgt; rw [e0]
  have e2 : dgt A m = A / 10 ^ m % 10 := rfl
  rw [e1, e2, dgt_div]
  generalize A / 10 ^ m = X
  have h1 := Nat.mod_lt (X / 10) hB
  have h2 := Nat.div_add_mod (X / 10) B
  obtain ⟨q, hq⟩ : ∃ q, X / 10 / B = q := ⟨_, rfl⟩
  obtain ⟨r, hr⟩ : ∃ r, X / 10 % B = r := ⟨_, rfl⟩
  rw [hq, hr] at h2
  rw [hr] at h1 ⊢
  have h3 : X = (10 * r + X % 10) + B * (10 * q) := by
    have : B * (10 * q) = 10 * (B * q) := by rw [Nat.mul_left_comm]
    omega
  have h4 : 10 * r + X % 10 < 10 * B := by omega
  have h5 : (10 * r + X % 10) / B < 10 := by rw [Nat.div_lt_iff_lt_mul hB]; omega
  refine ⟨?_, ?_, h4⟩
  · have h6 : X / B = (10 * r + X % 10) / B + 10 * q := by
      conv => lhs; rw [h3]
      rw [Nat.add_mul_div_left _ _ hB]
    rw [h6]
    generalize (10 * r + X % 10) / B = u at h5
    omega
  · conv => rhs; rw [h3]
    rw [Nat.add_mul_mod_self_left]

theorem dec_len_lt {x B lb : Nat} (hB : B < 10 ^ lb) (h : x < 10 * B) : (dec x).length ≤ lb + 1 :=
  dec_len_le (lb + 1) x (by omega) (by rw [Nat.pow_succ]; omega)
theorem val_snoc_dec (r : Nat) (c : UInt8) : val (dec r ++ [c]) = 10 * r + (c.toNat - 48) := by rw [val_snoc, val_dec]
/-- the rest and one more digit, trimmed -/
theorem trim_snoc (r : Nat) (c : UInt8) (hc : isDig c = true) : trimZ (dec r ++ [c]) = dec (10 * r + (c.toNat - 48)) := by
  rw [trimZ_dec _ (by rw [List.all_append, dec_all, List.all_cons, hc]; rfl), val_snoc_dec]
/-- what is left behind d times -/
theorem left_div {R B d : Nat} (hB : 0 < B) (h : B * d ≤ R) (h2 : R - B * d < B) : d = R / B ∧ R - B * d = R % B := by
  have e : R = (R - B * d) + B * d := by omega
  constructor
  · conv => rhs; rw [e]
    rw [Nat.add_mul_div_left _ _ hB, Nat.div_eq_of_lt h2]; omega
  · conv => rhs; rw [e]
    rw [Nat.add_mul_mod_self_left, Nat.mod_eq_of_lt h2]
theorem left_more {R B d : Nat} (h : B * d ≤ R) (h2 : B ≤ R - B * d) : B * (d + 1) ≤ R ∧ R - B * d - B = R - B * (d + 1) := by
  rw [Nat.mul_succ]; omega
theorem left_nine {R B d : Nat} (h : R < 10 * B) (h1 : B * d ≤ R) : d ≤ 9 := by
  have h2 : B * d < B * 10 := by omega
  have := Nat.lt_of_mul_lt_mul_left h2
  omega
end Go.Proofs.YtjjpdoabagnmoaaDoor
