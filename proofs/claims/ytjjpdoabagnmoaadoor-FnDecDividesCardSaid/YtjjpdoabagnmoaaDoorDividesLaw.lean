/-
  Plain: a product of two short numbers is exact, and divided by one factor is the other one. No condition but the numbers' bounds.
-/
import Derived.Test.YtjjpdoabagnmoaaDoorDecMul
import Derived.Test.YtjjpdoabagnmoaaDoorDecDiv
namespace Go.Proofs.YtjjpdoabagnmoaaDoor
open Go.RowKit
set_option linter.unusedVariables false
set_option linter.unusedSimpArgs false

theorem numV_tuple (n : Bool) (l : List UInt8) (x c : Int) : numV n l x c = .tuple #[.agg #[.bool n, .string (ofL l), .int .i64 x], .int .i64 c] := rfl
theorem xor_twice (n m : Bool) : ((n != m) != m) = n := by cases n <;> cases m <;> rfl
theorem divides_law {n m : Bool} {s t : ByteArray} {x y : Int} (h1 : decOk n (bs s) x = true) (h2 : decOk m (bs t) y = true) (hs : s.size ≤ 10) (ht : t.size ≤ 10) (ht0 : 0 < t.size) (hx1 : -40 ≤ x) (hx2 : x ≤ 30) (hy1 : -40 ≤ y) (hy2 : y ≤ 30) :
    ∃ (n2 : Bool) (u : ByteArray) (z : Int), mulV n s x m t y = .tuple #[.agg #[.bool n2, .string u, .int .i64 z], .int .i64 0] ∧ decOk n2 (bs u) z = true ∧ u.size ≤ 20 ∧ divV n2 u z m t y = .tuple #[.agg #[.bool n, .string s, .int .i64 x], .int .i64 0] := by
  obtain ⟨ct, hvt, -, -⟩ := form_same h2 (ne_nil ht0)
  have hBlt := val_lt (bs t) ct.dig
  rw [bs_length] at hBlt
  have hB10 : val (bs t) < 10 ^ 10 := Nat.lt_of_lt_of_le hBlt (Nat.pow_le_pow_right (by decide) ht)
  obtain ⟨B, hB⟩ : ∃ B, val (bs t) = B := ⟨_, rfl⟩
  by_cases hs0 : s.size = 0
  · obtain ⟨rfl, rfl, rfl⟩ := decOk_zero h1 hs0
    refine ⟨false, ⟨#[]⟩, 0, ?_, rfl, by decide, ?_⟩
    · unfold mulV formV
      rw [show val (bs ⟨#[]⟩) * val (bs t) = 0 from Nat.zero_mul _, if_pos rfl]
      rfl
    · unfold divV
      rw [if_neg (by omega), show val (bs ⟨#[]⟩) * 10 ^ 42 = 0 from Nat.zero_mul _, Nat.zero_mod, if_pos rfl, Nat.zero_div]
      unfold formV
      rw [if_pos rfl]
      rfl
  · obtain ⟨cs, hvs, -, hfs⟩ := form_same h1 (ne_nil (by omega))
    have hAlt := val_lt (bs s) cs.dig
    rw [bs_length] at hAlt
    have hA10 : val (bs s) < 10 ^ 10 := Nat.lt_of_lt_of_le hAlt (Nat.pow_le_pow_right (by decide) hs)
    obtain ⟨A, hA⟩ : ∃ A, val (bs s) = A := ⟨_, rfl⟩
    rw [hA] at hvs hA10 hfs
    rw [hB] at hvt hB10
    obtain ⟨P, hP⟩ : ∃ P, A * B = P := ⟨_, rfl⟩
    have hP0 : P ≠ 0 := by rw [← hP]; exact Nat.mul_ne_zero hvs hvt
    have hPlt : P < 10 ^ 20 := by
      rw [← hP]
      calc A * B < 10 ^ 10 * 10 ^ 10 := Nat.mul_lt_mul'' hA10 hB10
        _ = 10 ^ 20 := by decide
    have hdl := dec_len_le 20 P (by decide) hPlt
    have hdp := dec_len P
    obtain ⟨e1, e2⟩ := fM_small hdl
    obtain ⟨hsp, -⟩ := fT_split P
    have hfl := fT_len P
    rw [e2] at hsp hfl
    have hval : val (fT P) * 10 ^ fK P = P := by rw [← val_zs, ← hsp, val_dec]
    have hform : formV (n != m) P (x + y) = numV (n != m) (fT P) (x + y + fK P) 0 := by
      have hfe : fE P (x + y) = x + y + fK P := by unfold fE; rw [e1]; simp
      have hfh : fH P (x + y) = x + y + ((dec P).length : Int) - 1 := by unfold fH; rw [hfe]; omega
      unfold formV
      rw [if_neg hP0, hfh, if_neg (by omega), if_neg (by omega), hfe]
    obtain ⟨n2, u, z, c, hV, hok, hus, -⟩ := formV_lit (n != m) P (x + y)
    have heq := hV
    rw [hform, numV_tuple] at heq
    simp only [Value.tuple.injEq, Array.mk.injEq, List.cons.injEq, Value.agg.injEq, Value.bool.injEq, Value.string.injEq, Value.int.injEq, true_and, and_true] at heq
    obtain ⟨⟨q1, q2, q3⟩, q4⟩ := heq
    subst q1 q2 q3 q4
    refine ⟨n != m, ofL (fT P), x + y + fK P, ?_, hok, hus, ?_⟩
    · unfold mulV
      rw [hA, hB, hP]
      exact hV
    · have hU : val (bs (ofL (fT P))) * 10 ^ 42 = B * (A * 10 ^ (42 - fK P)) := by
        obtain ⟨k, hk⟩ : ∃ k, 42 - fK P = k := ⟨_, rfl⟩
        have h42 : (10 : Nat) ^ 42 = 10 ^ fK P * 10 ^ k := by
          rw [← Nat.pow_add, show fK P + k = 42 by omega]
        rw [bs_ofL, hk, h42, ← Nat.mul_assoc, hval, ← hP, Nat.mul_comm A B, Nat.mul_assoc]
      unfold divV
      rw [if_neg (by omega), hU, hB, Nat.mul_mod_right, if_pos rfl, Nat.mul_div_cancel_left _ (by omega), xor_twice]
      have ht := formV_tens n A x (42 - fK P)
      rw [show x + y + (fK P : Int) - y - 42 = x - ((42 - fK P : Nat) : Int) by omega, ht, hfs, numV_tuple, ofL_bs]
end Go.Proofs.YtjjpdoabagnmoaaDoor
