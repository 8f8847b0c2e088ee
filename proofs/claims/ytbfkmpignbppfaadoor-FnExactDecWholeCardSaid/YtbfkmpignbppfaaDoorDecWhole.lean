/-
  The contracts of both sides' DecWhole. Conditions: a number within the bounds of a walk.
-/
import Derived.Test.YtbfkmpignbppfaaDoorThree
import Derived.Lib.AtoiAllCases
import Derived.Lib.SmallJoins
namespace Go.Proofs.YtbfkmpignbppfaaDoor
open Go.RowKit
set_option linter.unusedVariables false
set_option linter.unusedSimpArgs false

theorem parse_val : ∀ (l : List UInt8) (acc : Nat), l.all isDig = true → acc * 10 ^ l.length + val l ≤ 1000000000000000000 → Lib.parseUint10 acc l = .ok (acc * 10 ^ l.length + val l)
  | [], acc, _, _ => by simp [Lib.parseUint10, val_nil]
  | c :: r, acc, ha, h => by
    rw [List.all_cons, Bool.and_eq_true] at ha
    have hc := isDig_le ha.1
    have hp : 0 < 10 ^ r.length := Nat.pow_pos (by decide)
    have e : acc * 10 ^ (c :: r).length + val (c :: r) = (acc * 10 + (c.toNat - 48)) * 10 ^ r.length + val r := by
      rw [val_cons, List.length_cons, Nat.pow_succ, Nat.add_mul, Nat.mul_assoc acc 10, Nat.mul_comm 10 (10 ^ r.length)]; omega
    rw [e] at h ⊢
    have h2 : acc * 10 + (c.toNat - 48) ≤ (acc * 10 + (c.toNat - 48)) * 10 ^ r.length := Nat.le_mul_of_pos_right _ hp
    unfold Lib.parseUint10
    rw [if_pos hc, if_neg (by omega), if_neg (by omega)]
    exact parse_val r _ ha.2 h
theorem atoi_dec (V : Nat) (h : V ≤ 1000000000000000000) : Lib.atoiAll (dec V) = .ok (V : Int) := by
  have hd := dec_all V
  have hv := val_dec V
  cases e : dec V with
  | nil => exact absurd e (dec_ne V)
  | cons c r =>
    rw [e] at hd hv
    have hp := parse_val (c :: r) 0 hd (by rw [hv]; omega)
    rw [hv, Nat.zero_mul, Nat.zero_add] at hp
    have hc := isDig_le (by rw [List.all_cons, Bool.and_eq_true] at hd; exact hd.1)
    rw [Lib.atoiAll_plain c r (by omega) (by omega)]
    unfold Lib.parseMag
    rw [if_neg (by simp), hp]
    unfold Lib.signless
    simp only
    rw [if_neg (by omega)]

/-- the int that a number is, and whether it is one -/
def wholeI (n : Bool) (V : Nat) : Int := if n then -(V : Int) else V
def isWhole (n : Bool) (s : ByteArray) (x : Int) : Prop := decOk n (bs s) x = true ∧ 0 ≤ x ∧ val (bs s) * 10 ^ x.toNat ≤ 1000000000000000000
theorem lit18 : (⟨#[49, 48, 48, 48, 48, 48, 48, 48, 48, 48, 48, 48, 48, 48, 48, 48, 48, 48, 48]⟩ : ByteArray) = ofL (dec 1000000000000000000) := by
  have e : dec 1000000000000000000 = [49] ++ zs 18 := by
    have := dec_tens (v := 1) (by decide) 18
    rw [show (1 : Nat) * 10 ^ 18 = 1000000000000000000 from by decide, dec_small (n := 1) (by decide)] at this
    exact this
  rw [e]; rfl
/-- a number's digits give its size -/
theorem whole_size {n : Bool} {s : ByteArray} {x : Int} (h : decOk n (bs s) x = true) (h0 : 0 < s.size) (k : Nat) : 10 ^ (s.size - 1 + k) ≤ val (bs s) * 10 ^ k ∧ val (bs s) * 10 ^ k < 10 ^ (s.size + k) := by
  obtain ⟨c, hv, -, -⟩ := form_same h (ne_nil h0)
  have h1 := val_lt (bs s) c.dig
  have h2 := dec_len_ge (val (bs s)) hv
  rw [canon_dec c, bs_length] at h2
  rw [bs_length] at h1
  have hp : 0 < 10 ^ k := Nat.pow_pos (by decide)
  rw [Nat.pow_add, Nat.pow_add]
  exact ⟨Nat.mul_le_mul_right _ h2, Nat.mul_lt_mul_of_pos_right h1 hp⟩
end Go.Proofs.YtbfkmpignbppfaaDoor
