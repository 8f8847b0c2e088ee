/-
  Plain: sums and products go both ways, a number less itself is nought, of two numbers one is less or they are one. No condition but that the numbers are in form.
-/
import Derived.Test.YtjjpdoabagnmoaaDoorDecMul
import Derived.Test.YtjjpdoabagnmoaaDoorDecAdd
import Derived.Test.YtjjpdoabagnmoaaDoorDecNg
import Derived.Test.YtjjpdoabagnmoaaDoorDecCmp
namespace Go.Proofs.YtjjpdoabagnmoaaDoor
open Go.RowKit
set_option linter.unusedVariables false
set_option linter.unusedSimpArgs false

theorem formV_nought (n : Bool) (z : Int) : formV n 0 z = numV false [] 0 0 := by unfold formV; rw [if_pos rfl]
theorem sumV_comm (n : Bool) (X : Nat) (m : Bool) (Y : Nat) (z : Int) : sumV n X m Y z = sumV m Y n X z := by
  rw [sumV_N, sumV_N]
  unfold sumN
  by_cases h : n = m
  · subst h
    rw [if_pos rfl, if_pos rfl, Nat.add_comm]
  · have h' : ¬ m = n := fun e => h e.symm
    rw [if_neg h, if_neg h']
    by_cases h1 : Y ≤ X
    · by_cases h2 : X ≤ Y
      · obtain rfl : X = Y := Nat.le_antisymm h2 h1
        rw [if_pos h1, if_pos h2]
        simp only [Nat.sub_self, formV_nought]
      · rw [if_pos h1, if_neg h2]
    · rw [if_neg h1, if_pos (by omega)]
theorem mulV_comm (n : Bool) (s : ByteArray) (x : Int) (m : Bool) (t : ByteArray) (y : Int) : mulV n s x m t y = mulV m t y n s x := by
  unfold mulV
  rw [Nat.mul_comm, Int.add_comm, show (n != m) = (m != n) by cases n <;> cases m <;> rfl]
theorem sub_self (n : Bool) (s : ByteArray) (x z : Int) : sumV n (lvl s x x) (ng n s) (lvl s x x) z = numV false [] 0 0 := by
  rw [sumV_N]
  unfold ng sumN
  by_cases h : s.size = 0
  · rw [if_pos h, if_pos rfl]
    have : lvl s x x = 0 := by unfold lvl; rw [bs_empty h]; exact Nat.zero_mul _
    rw [this]
    exact formV_nought _ _
  · rw [if_neg h, if_neg (by cases n <;> simp), if_pos (Nat.le_refl _), Nat.sub_self]
    exact formV_nought _ _
theorem cmpN_anti (X Y : Nat) : cmpN X Y = -cmpN Y X := by
  unfold cmpN
  by_cases h1 : X < Y
  · rw [if_pos h1, if_neg (by omega), if_neg (by omega)]
  · by_cases h2 : Y < X
    · rw [if_neg h1, if_pos h2, if_neg (by omega)]; rfl
    · rw [if_neg h1, if_neg h2, if_pos (by omega), if_pos (by omega)]; rfl
theorem cmpS_anti (n : Bool) (X : Nat) (m : Bool) (Y : Nat) : cmpS m Y n X = -cmpS n X m Y := by
  unfold cmpS
  cases n <;> cases m
  · exact cmpN_anti _ _
  · rfl
  · rfl
  · exact cmpN_anti _ _
theorem cmpN_nought {X Y : Nat} (h : cmpN X Y = 0) : X = Y := by
  unfold cmpN at h
  by_cases h1 : X < Y
  · simp [h1] at h
  · by_cases h2 : Y < X
    · rw [if_neg h1, if_neg (by omega)] at h; cases h
    · omega
theorem lvl_form (n : Bool) (s : ByteArray) (x y : Int) : formV n (lvl s x y) (min x y) = formV n (val (bs s)) x := by
  have h := formV_tens n (val (bs s)) x (x - min x y).toNat
  rw [show x - ((x - min x y).toNat : Int) = min x y by omega] at h
  exact h
theorem cmp_same {n m : Bool} {s t : ByteArray} {x y : Int} (h1 : decOk n (bs s) x = true) (h2 : decOk m (bs t) y = true) (h : cmpS n (lvl s x y) m (lvl t y x) = 0) : n = m ∧ s = t ∧ x = y := by
  obtain ⟨-, -, -, -, -, -, -, -, p1⟩ := dec_facts h1
  obtain ⟨-, -, -, -, -, -, -, -, p2⟩ := dec_facts h2
  have hnm : n = m ∧ lvl s x y = lvl t y x := by
    unfold cmpS at h
    cases n <;> cases m
    · exact ⟨rfl, cmpN_nought (by simpa using h)⟩
    · simp at h
    · simp at h
    · exact ⟨rfl, (cmpN_nought (by simpa using h)).symm⟩
  obtain ⟨rfl, hX⟩ := hnm
  by_cases hs : 0 < s.size
  · by_cases ht : 0 < t.size
    · obtain ⟨-, -, -, f1⟩ := form_same h1 (ne_nil hs)
      obtain ⟨-, -, -, f2⟩ := form_same h2 (ne_nil ht)
      have e1 := lvl_form n s x y
      have e2 := lvl_form n t y x
      rw [hX, show min x y = min y x by omega, e2, f1, f2] at e1
      unfold numV at e1
      rw [ofL_bs, ofL_bs] at e1
      simp only [Value.tuple.injEq, Array.mk.injEq, List.cons.injEq, Value.agg.injEq, Value.bool.injEq, Value.string.injEq, Value.int.injEq, true_and, and_true] at e1
      exact ⟨rfl, e1.1.symm, e1.2.symm⟩
    · exfalso
      have a := p1 hs
      have : lvl t y x = 0 := by unfold lvl; rw [bs_empty (by omega)]; exact Nat.zero_mul _
      rw [this] at hX
      unfold lvl at hX
      have : 0 < val (bs s) * 10 ^ (x - min x y).toNat := Nat.mul_pos a (Nat.pow_pos (by decide))
      omega
  · by_cases ht : 0 < t.size
    · exfalso
      have a := p2 ht
      have : lvl s x y = 0 := by unfold lvl; rw [bs_empty (by omega)]; exact Nat.zero_mul _
      rw [this] at hX
      unfold lvl at hX
      have : 0 < val (bs t) * 10 ^ (y - min y x).toNat := Nat.mul_pos a (Nat.pow_pos (by decide))
      omega
    · obtain ⟨-, rfl, rfl⟩ := decOk_zero h1 (by omega)
      obtain ⟨-, rfl, rfl⟩ := decOk_zero h2 (by omega)
      exact ⟨rfl, rfl, rfl⟩
theorem cmp_self (n : Bool) (X : Nat) : cmpS n X n X = 0 := by
  have : cmpN X X = 0 := by unfold cmpN; simp
  unfold cmpS
  cases n
  · exact this
  · exact this
theorem ng_twice (n : Bool) (s : ByteArray) : ng (ng n s) s = n := by
  unfold ng
  by_cases h : s.size = 0
  · rw [if_pos h, if_pos h]
  · rw [if_neg h, if_neg h, Bool.not_not]
theorem sumV_lit (n : Bool) (X : Nat) (m : Bool) (Y : Nat) (z : Int) : ∃ (n' : Bool) (u : ByteArray) (y' c : Int), sumV n X m Y z = .tuple #[.agg #[.bool n', .string u, .int .i64 y'], .int .i64 c] := by
  obtain ⟨n', u, y', c, h, -⟩ := formV_lit (sumN n X m Y).1 (sumN n X m Y).2 z
  exact ⟨n', u, y', c, by rw [sumV_N]; exact h⟩
end Go.Proofs.YtjjpdoabagnmoaaDoor
