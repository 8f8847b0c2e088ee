/-
  Plain facts on noughts behind a row and on rounding half to even. No program here. No condition.
-/
import Derived.Test.YtpolpihgclemnaaDoorSums
import Derived.Lib.Repeat
import Derived.Lib.SmallJoins
namespace Go.Proofs.YtpolpihgclemnaaDoor

theorem bs_app (a b : ByteArray) : bs (a ++ b) = bs a ++ bs b := by
  show (a ++ b).data.toList = _
  exact Joins.data_append a b

/-- so many noughts -/
def zs (n : Nat) : List UInt8 := List.replicate n 48
theorem zs_succ (n : Nat) : zs (n + 1) = zs n ++ [48] := List.replicate_succ'
theorem zs_len (n : Nat) : (zs n).length = n := List.length_replicate
theorem zs_all (n : Nat) : (zs n).all isDig = true := by
  rw [List.all_eq_true]; intro c hc
  rw [List.eq_of_mem_replicate hc]; rfl
theorem zs_repeat : ∀ n, Lib.repeatL [48] n = zs n
  | 0 => rfl
  | n + 1 => by show [48] ++ Lib.repeatL [48] n = _; rw [zs_repeat n]; rfl
theorem val_zs (l : List UInt8) : ∀ n, val (l ++ zs n) = val l * 10 ^ n
  | 0 => by simp [zs]
  | n + 1 => by
    have h0 : (48 : UInt8).toNat - 48 = 0 := rfl
    rw [zs_succ, ← List.append_assoc, val_snoc, val_zs l n, h0, Nat.add_zero, Nat.pow_succ, Nat.mul_comm 10, Nat.mul_assoc]
theorem all_zs {l : List UInt8} (h : l.all isDig = true) (n : Nat) : (l ++ zs n).all isDig = true := by
  rw [List.all_append, h, zs_all]; rfl
theorem val_zs_ahead (l : List UInt8) (n : Nat) : val (zs n ++ l) = val l := by
  have h0 := val_zs [] n
  rw [List.nil_append, val_nil, Nat.zero_mul] at h0
  rw [val_append, h0, Nat.zero_mul, Nat.zero_add]
theorem dec_shift {l : List UInt8} (hc : Canon l) (h : 0 < val l) : ∀ n, l ++ zs n = dec (val l * 10 ^ n)
  | 0 => by rw [Nat.pow_zero, Nat.mul_one, canon_dec hc]; simp [zs]
  | n + 1 => by
    rw [zs_succ, ← List.append_assoc, ← val_zs, zs_succ, ← List.append_assoc, dec_val_snoc _ _ (by decide) (by rw [val_zs]; exact Nat.mul_pos h (pow_pos' n)), val_zs, ← dec_shift hc h n]

/-- a number by a power of ten, rounded half to even -/
def roundV (v n : Nat) : Nat := if 10 ^ n < 2 * (v % 10 ^ n) ∨ (2 * (v % 10 ^ n) = 10 ^ n ∧ v / 10 ^ n % 2 = 1) then v / 10 ^ n + 1 else v / 10 ^ n
theorem roundV_zero (v : Nat) : roundV v 0 = v := by
  unfold roundV
  rw [if_neg (by simp [Nat.mod_one])]; simp
theorem roundV_small {v n k : Nat} (h : v < 10 ^ k) (h2 : k < n) : roundV v n = 0 := by
  have h3 : 10 ^ (k + 1) ≤ 10 ^ n := Nat.pow_le_pow_right (by omega) h2
  rw [Nat.pow_succ] at h3
  unfold roundV
  rw [Nat.mod_eq_of_lt (by omega), Nat.div_eq_of_lt (by omega), if_neg (by omega)]
theorem val_front {l : List UInt8} (ha : l.all isDig = true) {n : Nat} (h : n ≤ l.length) :
    val (l.take (l.length - n)) = val l / 10 ^ n ∧ val (l.drop (l.length - n)) = val l % 10 ^ n := by
  have e := val_append (l.take (l.length - n)) (l.drop (l.length - n))
  rw [List.take_append_drop, List.length_drop, show l.length - (l.length - n) = n by omega] at e
  have hd : (l.drop (l.length - n)).all isDig = true := by
    rw [List.all_eq_true] at ha ⊢
    exact fun c hc => ha c (List.mem_of_mem_drop hc)
  have hlt := val_lt _ hd
  rw [List.length_drop, show l.length - (l.length - n) = n by omega] at hlt
  generalize val (l.drop (l.length - n)) = r at *
  generalize val (l.take (l.length - n)) = q at *
  rw [e, Nat.mul_comm]
  constructor
  · rw [Nat.mul_add_div (pow_pos' n), Nat.div_eq_of_lt hlt]; omega
  · rw [Nat.mul_add_mod, Nat.mod_eq_of_lt hlt]
/-- the half of a power of ten -/
theorem val_half (n : Nat) : 2 * val (53 :: zs n) = 10 ^ (n + 1) := by
  have h0 := val_zs [] n
  rw [List.nil_append, val_nil, Nat.zero_mul] at h0
  rw [val_cons, h0, zs_len, Nat.pow_succ]
  have : (53 : UInt8).toNat - 48 = 5 := rfl
  rw [this]; omega
theorem half_all (n : Nat) : (53 :: zs n).all isDig = true := by rw [List.all_cons, zs_all]; rfl
theorem dig_inj {c d : UInt8} (hc : isDig c = true) (hd : isDig d = true) (h : c.toNat - 48 = d.toNat - 48) : c = d := by
  have h1 := isDig_le hc
  have h2 := isDig_le hd
  exact UInt8.toNat_inj.1 (by omega)
theorem val_inj : ∀ (x y : List UInt8), x.all isDig = true → y.all isDig = true → x.length = y.length → val x = val y → x = y
  | [], [], _, _, _, _ => rfl
  | [], _ :: _, _, _, h, _ => by simp at h
  | _ :: _, [], _, _, h, _ => by simp at h
  | c :: x, d :: y, hx, hy, h, hv => by
    rw [List.all_cons, Bool.and_eq_true] at hx hy
    have hl : x.length = y.length := by simpa using h
    have h1 := val_lt x hx.2
    have h2 := val_lt y hy.2
    rw [val_cons, val_cons, hl] at hv
    rw [hl] at h1
    have e : c.toNat - 48 = d.toNat - 48 := by
      have e1 : ((c.toNat - 48) * 10 ^ y.length + val x) / 10 ^ y.length = c.toNat - 48 := by
        rw [Nat.mul_comm, Nat.mul_add_div (pow_pos' _), Nat.div_eq_of_lt h1]; omega
      have e2 : ((d.toNat - 48) * 10 ^ y.length + val y) / 10 ^ y.length = d.toNat - 48 := by
        rw [Nat.mul_comm, Nat.mul_add_div (pow_pos' _), Nat.div_eq_of_lt h2]; omega
      rw [← e1, ← e2, hv]
    rw [e] at hv
    rw [dig_inj hx.1 hy.1 e, val_inj x y hx.2 hy.2 hl (by omega)]
theorem dec_last (m : Nat) : (dec m)[(dec m).length - 1]'(by have := dec_len m; omega) = UInt8.ofNat (48 + m % 10) := by
  by_cases h : m < 10
  · have e := dec_small h
    simp only [e, List.length_singleton]
    rw [Nat.mod_eq_of_lt h]; rfl
  · have e := dec_big h
    simp only [e, List.length_append, List.length_singleton, Nat.add_sub_cancel]
    simp
/-- what the two tests of a rounding say -/
theorem round_cases {x : List UInt8} {v n : Nat} (hx : x.all isDig = true) (hl : x.length = n + 1) (hv : val x = v % 10 ^ (n + 1)) :
    (Op.bytesLess (53 :: zs n) x = true → roundV v (n + 1) = v / 10 ^ (n + 1) + 1) ∧
    (Op.bytesLess (53 :: zs n) x = false → (x == 53 :: zs n) = true → v / 10 ^ (n + 1) % 2 = 1 → roundV v (n + 1) = v / 10 ^ (n + 1) + 1) ∧
    (Op.bytesLess (53 :: zs n) x = false → (x == 53 :: zs n) = true → v / 10 ^ (n + 1) % 2 ≠ 1 → roundV v (n + 1) = v / 10 ^ (n + 1)) ∧
    (Op.bytesLess (53 :: zs n) x = false → (x == 53 :: zs n) = false → roundV v (n + 1) = v / 10 ^ (n + 1)) := by
  have hh := val_half n
  have hlen : (53 :: zs n).length = x.length := by rw [hl, List.length_cons, zs_len]
  rw [less_val _ _ (half_all n) hx hlen]
  have heq : (x == 53 :: zs n) = decide (val x = val (53 :: zs n)) := by
    by_cases e : val x = val (53 :: zs n)
    · rw [decide_eq_true e, val_inj _ _ hx (half_all n) hlen.symm e]; simp
    · rw [decide_eq_false e, beq_eq_false_iff_ne]; exact fun e' => e (by rw [e'])
  rw [heq]
  simp only [decide_eq_true_eq, decide_eq_false_iff_not]
  rw [hv] at *
  unfold roundV
  generalize v % 10 ^ (n + 1) = r at *
  generalize v / 10 ^ (n + 1) = q at *
  generalize val (53 :: zs n) = h at *
  refine ⟨fun a => ?_, fun a b c => ?_, fun a b c => ?_, fun a b => ?_⟩
  · rw [if_pos (by omega)]
  · rw [if_pos (by omega)]
  · rw [if_neg (by omega)]
  · rw [if_neg (by omega)]
/-- .. as the tests ask them -/
theorem round_three {x : List UInt8} {v n : Nat} (hx : x.all isDig = true) (hl : x.length = n + 1) (hv : val x = v % 10 ^ (n + 1)) :
    (Op.bytesLess x (53 :: zs n) = false ∧ x ≠ 53 :: zs n ∧ roundV v (n + 1) = v / 10 ^ (n + 1) + 1) ∨
    (Op.bytesLess x (53 :: zs n) = true ∧ x ≠ 53 :: zs n ∧ roundV v (n + 1) = v / 10 ^ (n + 1)) ∨
    (x = 53 :: zs n ∧ v / 10 ^ (n + 1) % 2 = 1 ∧ roundV v (n + 1) = v / 10 ^ (n + 1) + 1) ∨
    (x = 53 :: zs n ∧ v / 10 ^ (n + 1) % 2 = 0 ∧ roundV v (n + 1) = v / 10 ^ (n + 1)) := by
  obtain ⟨c1, c2, c3, c4⟩ := round_cases hx hl hv
  have hlen : (53 :: zs n).length = x.length := by rw [hl, List.length_cons, zs_len]
  have e1 := less_val _ _ (half_all n) hx hlen
  have e2 := less_val _ _ hx (half_all n) hlen.symm
  by_cases h : x = 53 :: zs n
  · have hb : (x == 53 :: zs n) = true := by rw [h]; simp
    have hf : Op.bytesLess (53 :: zs n) x = false := by rw [e1, h]; simp
    by_cases ho : v / 10 ^ (n + 1) % 2 = 1
    · exact .inr (.inr (.inl ⟨h, ho, c2 hf hb ho⟩))
    · exact .inr (.inr (.inr ⟨h, by omega, c3 hf hb ho⟩))
  · have hb : (x == 53 :: zs n) = false := beq_eq_false_iff_ne.2 h
    have hne : val x ≠ val (53 :: zs n) := fun e => h (val_inj _ _ hx (half_all n) hlen.symm e)
    by_cases hlt : val (53 :: zs n) < val x
    · exact .inl ⟨by rw [e2]; exact decide_eq_false (by omega), h, c1 (by rw [e1]; exact decide_eq_true hlt)⟩
    · exact .inr (.inl ⟨by rw [e2]; exact decide_eq_true (by omega), h, c4 (by rw [e1]; exact decide_eq_false hlt) hb⟩)
theorem less_self (l : List UInt8) : Op.bytesLess l l = false := by
  induction l with
  | nil => rfl
  | cons c l ih => unfold Op.bytesLess; simp [ih]
end Go.Proofs.YtpolpihgclemnaaDoor
