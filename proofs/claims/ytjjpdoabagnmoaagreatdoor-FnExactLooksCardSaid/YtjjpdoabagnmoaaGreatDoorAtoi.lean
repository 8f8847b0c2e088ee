/-
  What strconv.Atoi reads out of a natural's digits. Condition: the natural is no more than ten to the eighteen.
-/
import Derived.Test.YtjjpdoabagnmoaaGreatDoorVal
import Derived.Test.YtjjpdoabagnmoaaGreatDoorShelf
import Derived.Lib.AtoiAllCases
import Derived.Lib.SmallJoins
namespace Go.Proofs.YtjjpdoabagnmoaaGreatDoor
open Go.RowKit
set_option linter.unusedVariables false
set_option linter.unusedSimpArgs false

theorem parse_val : ∀ (l : List UInt8) (acc : Nat), l.all isDig = true → acc * 10 ^ l.length + val l ≤ 1000000000000000000 → Lib.parseUint10 acc l = .ok (acc * 10 ^ l.length + val l)
  | [], acc, _, _ => by simp [Lib.parseUint10, val_nil]
  | c :: r, acc, ha, h => by
    rw [List.all_cons, Bool.and_eq_true] at ha
    have hc := isDig_le ha.1
    have hp : 0 < 10 ^ r.length := Nat.pow_pos (by decide)
    have e : acc * 10 ^ (c :: r).length + val (c :: r) = (acc * 10 + (c.toNat - 48)) * 10 ^ r.length + val r := by
      rw [val_cons, List.length_cons, Nat.pow_succ, Nat.add_mul, Nat.mul_assoc acc 10, Nat.mul_comm 10 (10 ^ r.length)]; omega
    rw [e] at h ⊢
    have h2 : acc * 10 + (c.toNat - 48) ≤ (acc * 10 + (c.toNat - 48)) * 10 ^ r.length := Nat.le_mul_of_pos_right _ hp
    unfold Lib.parseUint10
    rw [if_pos hc, if_neg (by omega), if_neg (by omega)]
    exact parse_val r _ ha.2 h
theorem atoi_dec (V : Nat) (h : V ≤ 1000000000000000000) : Lib.atoiAll (dec V) = .ok (V : Int) := by
  have hd := dec_all V
  have hv := val_dec V
  cases e : dec V with
  | nil => exact absurd e (dec_ne V)
  | cons c r =>
    rw [e] at hd hv
    have hp := parse_val (c :: r) 0 hd (by rw [hv]; omega)
    rw [hv, Nat.zero_mul, Nat.zero_add] at hp
    have hc := isDig_le (by rw [List.all_cons, Bool.and_eq_true] at hd; exact hd.1)
    rw [Lib.atoiAll_plain c r (by omega) (by omega)]
    unfold Lib.parseMag
    rw [if_neg (by simp), hp]
    unfold Lib.signless
    simp only
    rw [if_neg (by omega)]

theorem atoi_any (V : Nat) (w : World) (h : V ≤ 1000000000000000000) :
    Calls Tryz.prog 52 #[.string (ofL (dec V))] w fun e w' => e = .returned (.tuple #[.int .i64 (V : Int), .nilIface]) ∧ Below w.heap.size w w' := by
  have hl := dec_len_le 19 V (by decide) (by omega)
  have hs := size_ofL (dec V)
  refine (Tryz.strconv_Atoi_ok (ofL (dec V)) (by omega) (V : Int) (atoi_dec V h) w).mono ?_
  rintro e w' ⟨rfl, rfl | ⟨t, rfl⟩⟩
  · exact ⟨rfl, Below.refl _ _⟩
  · exact ⟨rfl, Go.Joins.below_bytesWorld _ _ _ _ (Nat.le_refl _)⟩
end Go.Proofs.YtjjpdoabagnmoaaGreatDoor
