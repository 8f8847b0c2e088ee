/-
  Texts of this claim in one file, in build order: DecSums, Three, DecTwo, Pair, DecOf. Each says ahead what it proves and under which conditions.
-/
import Derived.Test.YtjjpdoabagnmoaaGreatDoorQ02
import Derived.Test.YtjjpdoabagnmoaaGreatDoorQ03
import Derived.Test.YtjjpdoabagnmoaaGreatDoorQ05
import Derived.Deep.CutRange
/-
  What sums, comparisons and quotients of numbers mean, and that the two roads to a quotient are one. No program. No condition.
-/
namespace Go.Proofs.YtjjpdoabagnmoaaGreatDoor
open Go.RowKit
set_option linter.unusedVariables false
set_option linter.unusedSimpArgs false

/-- the sum of two numbers on one level -/
def sumV (n : Bool) (X : Nat) (m : Bool) (Y : Nat) (z : Int) : Value :=
  if n = m then formV n (X + Y) z else if Y ≤ X then formV n (X - Y) z else formV m (Y - X) z
/-- the sign of the sum -/
def sumN (n : Bool) (X : Nat) (m : Bool) (Y : Nat) : Bool × Nat := if n = m then (n, X + Y) else if Y ≤ X then (n, X - Y) else (m, Y - X)
def sgnV (n : Bool) (X : Nat) (m : Bool) (Y : Nat) : Int := if (sumN n X m Y).2 = 0 then 0 else if (sumN n X m Y).1 then -1 else 1
theorem sumV_N (n : Bool) (X : Nat) (m : Bool) (Y : Nat) (z : Int) : sumV n X m Y z = formV (sumN n X m Y).1 (sumN n X m Y).2 z := by
  unfold sumV sumN
  split
  · rfl
  · split <;> rfl
/-- the order of two numbers on one level -/
def cmpS (n : Bool) (X : Nat) (m : Bool) (Y : Nat) : Int := if n then (if m then cmpN Y X else -1) else if m then 1 else cmpN X Y
theorem cmpS_sgn (n : Bool) (X : Nat) (m : Bool) (Y : Nat) (h1 : n = true → 0 < X) (h2 : m = true → 0 < Y) : sgnV n X (if Y = 0 then m else !m) Y = cmpS n X m Y := by
  by_cases hY : Y = 0
  · have hm : m = false := by cases m with | false => rfl | true => exact absurd (h2 rfl) (by omega)
    subst hm
    cases n with
    | false =>
      by_cases hX : X = 0
      · simp [sgnV, sumN, cmpS, cmpN, hX, hY]
      · simp [sgnV, sumN, cmpS, cmpN, hX, hY]
    | true =>
      have := h1 rfl
      have hX : X ≠ 0 := by omega
      simp [sgnV, sumN, cmpS, cmpN, hX, hY]
  · rw [if_neg hY]
    have d : X - Y = 0 ↔ X ≤ Y := by omega
    have d2 : Y - X = 0 ↔ Y ≤ X := by omega
    cases n <;> cases m <;> simp only [sgnV, sumN, cmpS, cmpN] <;> simp
    · by_cases h : Y ≤ X
      · by_cases e : X = Y
        · simp [e]
        · have : ¬ X < Y := by omega
          have : ¬ X ≤ Y := by omega
          simp [*]
      · have : X < Y := by omega
        have : ¬ Y - X = 0 := by omega
        simp [*]
    · omega
    · omega
    · by_cases h : Y ≤ X
      · by_cases e : X = Y
        · simp [e]
        · have : Y < X := by omega
          have : ¬ X ≤ Y := by omega
          simp [*]
      · have : ¬ Y < X := by omega
        have : ¬ Y = X := by omega
        have : ¬ Y - X = 0 := by omega
        simp [*]

theorem thousand (q : Nat) : (10 * q + 1) * 10 ^ 3 = 10000 * q + 1000 := by omega
theorem tenth (q c : Nat) : (1000 * q + c) * 10 ^ 1 = 10000 * q + 10 * c := by omega
/-- the quotient by 45 noughts is the quotient by 42 -/
theorem div_same (n : Bool) (A B : Nat) (e : Int) (hB : 0 < B) (hB2 : B < 10 ^ 20) :
    (if A * 10 ^ 45 % B = 0 then formV n (A * 10 ^ 45 / B) (e - 45) else formV n (10 * (A * 10 ^ 45 / B) + 1) (e - 46))
      = (if A * 10 ^ 42 % B = 0 then formV n (A * 10 ^ 42 / B) (e - 42) else formV n (10 * (A * 10 ^ 42 / B) + 1) (e - 43)) := by
  obtain ⟨N, hN⟩ : ∃ N, A * 10 ^ 42 = N := ⟨_, rfl⟩
  have hN3 : A * 10 ^ 45 = N * 1000 := by rw [← hN, show (10 : Nat) ^ 45 = 10 ^ 42 * 1000 by rw [show (45 : Nat) = 42 + 3 by omega, Nat.pow_add], Nat.mul_assoc]
  obtain ⟨q, hq⟩ : ∃ q, N / B = q := ⟨_, rfl⟩
  obtain ⟨r, hr⟩ : ∃ r, N % B = r := ⟨_, rfl⟩
  have hdm := Nat.div_add_mod N B
  rw [hq, hr] at hdm
  have hrB : r < B := by rw [← hr]; exact Nat.mod_lt _ hB
  have h3 : N * 1000 = B * (1000 * q) + 1000 * r := by
    rw [← hdm, Nat.add_mul, Nat.mul_assoc, Nat.mul_comm q 1000, Nat.mul_comm r 1000]
  have hq3 : N * 1000 / B = 1000 * q + 1000 * r / B := by rw [h3, Nat.mul_add_div hB]
  have hr3 : N * 1000 % B = 1000 * r % B := by rw [h3, Nat.mul_add_mod]
  rw [hN3, hN, hq3, hr3, hq, hr]
  by_cases h0 : r = 0
  · have e2 := formV_tens n q (e - 42) 3
    rw [h0, if_pos (by rw [Nat.mul_zero]; exact Nat.zero_mod B), if_pos rfl, Nat.mul_zero, Nat.zero_div, Nat.add_zero, ← e2]
    congr 1
    · rw [Nat.mul_comm]
    · omega
  · have hc : 1000 * r / B < 1000 := by rw [Nat.div_lt_iff_lt_mul hB]; omega
    have hcd := Nat.div_add_mod (1000 * r) B
    have hA : A ≠ 0 := by
      intro hA
      rw [hA, Nat.zero_mul] at hN
      rw [← hN, Nat.zero_mod] at hr
      exact h0 hr.symm
    have hq22 : 10 ^ 21 ≤ q := by
      rw [← hq, Nat.le_div_iff_mul_le hB, ← hN]
      have h1 : 10 ^ 21 * B ≤ 10 ^ 21 * 10 ^ 20 := Nat.mul_le_mul_left _ (Nat.le_of_lt hB2)
      have h2 : (10 : Nat) ^ 21 * 10 ^ 20 = 10 ^ 41 := (Nat.pow_add 10 21 20).symm
      rw [h2] at h1
      exact Nat.le_trans h1 (Nat.le_trans (Nat.pow_le_pow_right (by decide) (by decide)) (Nat.le_mul_of_pos_left _ (Nat.pos_of_ne_zero hA)))
    have e1 := formV_tens n (10 * q + 1) (e - 43) 3
    have e1' := thousand q
    have e1'' : e - 43 - ((3 : Nat) : Int) = e - 46 := by omega
    rw [e1', e1'', formV_sticky n q 1000 (e - 46) (by omega) (by omega) hq22] at e1
    rw [if_neg h0, ← e1]
    by_cases hd : 1000 * r % B = 0
    · rw [if_pos hd]
      have hcp : 0 < 1000 * r / B := by
        rcases Nat.eq_zero_or_pos (1000 * r / B) with h | h
        · rw [h, hd] at hcd; omega
        · exact h
      have e2 := formV_tens n (1000 * q + 1000 * r / B) (e - 45) 1
      have e2' := tenth q (1000 * r / B)
      have e2'' : e - 45 - ((1 : Nat) : Int) = e - 46 := by omega
      rw [e2', e2'', formV_sticky n q _ (e - 46) (by omega) (by omega) hq22] at e2
      exact e2.symm
    · rw [if_neg hd]
      have e2' : 10 * (1000 * q + 1000 * r / B) + 1 = 10000 * q + (10 * (1000 * r / B) + 1) := by omega
      rw [e2']
      exact formV_sticky n q _ (e - 46) (by omega) (by omega) hq22
end Go.Proofs.YtjjpdoabagnmoaaGreatDoor
/-
  Two numbers and a result's place, as a function on numbers lays them; what of it a call leaves; normal and l03Form on numerals. No condition.
-/
namespace Go.Proofs.YtjjpdoabagnmoaaGreatDoor
open Go.RowKit
set_option linter.unusedVariables false
set_option linter.unusedSimpArgs false

theorem three_laid (w : World) (n : Bool) (s : ByteArray) (x : Int) (m : Bool) (t : ByteArray) (y : Int) :
    ∃ w0, ((w.alloc (Obj.cells #[.bool n, .string s, .int .i64 x] 23)).alloc (Obj.cells #[.bool m, .string t, .int .i64 y] 23)).alloc (Obj.cells #[.bool false, .string ⟨#[]⟩, .int .i64 0] 23) = w0 ∧
      (w.heap.size < w0.heap.size ∧ w.heap.size + 1 < w0.heap.size ∧ w.heap.size + 1 + 1 < w0.heap.size) ∧ Below w.heap.size w w0 ∧
      (w0.cell? ⟨w.heap.size, 0, none⟩ = some (.bool n) ∧ w0.cell? ⟨w.heap.size, 1, none⟩ = some (.string s) ∧ w0.cell? ⟨w.heap.size, 2, none⟩ = some (.int .i64 x) ∧ w0.cell? ⟨w.heap.size + 1, 0, none⟩ = some (.bool m) ∧ w0.cell? ⟨w.heap.size + 1, 1, none⟩ = some (.string t) ∧ w0.cell? ⟨w.heap.size + 1, 2, none⟩ = some (.int .i64 y)) ∧
      ((w0.cell? ⟨w.heap.size + 1 + 1, 0, none⟩ = some (.bool false) ∧ w0.cell? ⟨w.heap.size + 1 + 1, 1, none⟩ = some (.string ⟨#[]⟩) ∧ w0.cell? ⟨w.heap.size + 1 + 1, 2, none⟩ = some (.int .i64 0)) ∧
        (w0.frozen? ⟨w.heap.size + 1 + 1, 0, none⟩ = false ∧ w0.frozen? ⟨w.heap.size + 1 + 1, 1, none⟩ = false ∧ w0.frozen? ⟨w.heap.size + 1 + 1, 2, none⟩ = false)) := by
  obtain ⟨u, hu, hz, hb, hc⟩ := two_laid w n s x m t y
  have hus : u.heap.size = w.heap.size + 1 + 1 := by rw [← hu]; simp
  obtain ⟨w0, hw0, hz0, hb0, hc0, hf0⟩ := one_laid u false ⟨#[]⟩ 0
  obtain ⟨c, -⟩ := bcell hb0
  rw [hus] at hz0 hc0 hf0
  refine ⟨w0, by rw [hu]; exact hw0, ⟨by omega, by omega, by omega⟩, hb.trans (hb0.mono hb.size), ?_, hc0, hf0⟩
  rw [c _ 0 hz.1, c _ 1 hz.1, c _ 2 hz.1, c _ 0 hz.2, c _ 1 hz.2, c _ 2 hz.2]
  exact hc
theorem three_kept {w w1 : World} {p q r : Nat} {n : Bool} {s : ByteArray} {x : Int} {m : Bool} {t : ByteArray} {y : Int} (hb : Below w.heap.size w w1) (hp : p < w.heap.size ∧ q < w.heap.size ∧ r < w.heap.size) {v : World} (hv : Below v.heap.size v w)
    (h : w.cell? ⟨p, 0, none⟩ = some (.bool n) ∧ w.cell? ⟨p, 1, none⟩ = some (.string s) ∧ w.cell? ⟨p, 2, none⟩ = some (.int .i64 x) ∧ w.cell? ⟨q, 0, none⟩ = some (.bool m) ∧ w.cell? ⟨q, 1, none⟩ = some (.string t) ∧ w.cell? ⟨q, 2, none⟩ = some (.int .i64 y))
    (h' : (w.cell? ⟨r, 0, none⟩ = some (.bool false) ∧ w.cell? ⟨r, 1, none⟩ = some (.string ⟨#[]⟩) ∧ w.cell? ⟨r, 2, none⟩ = some (.int .i64 0)) ∧ (w.frozen? ⟨r, 0, none⟩ = false ∧ w.frozen? ⟨r, 1, none⟩ = false ∧ w.frozen? ⟨r, 2, none⟩ = false)) :
    Below v.heap.size v w1 ∧ (p < w1.heap.size ∧ q < w1.heap.size ∧ r < w1.heap.size) ∧
    (w1.cell? ⟨p, 0, none⟩ = some (.bool n) ∧ w1.cell? ⟨p, 1, none⟩ = some (.string s) ∧ w1.cell? ⟨p, 2, none⟩ = some (.int .i64 x) ∧ w1.cell? ⟨q, 0, none⟩ = some (.bool m) ∧ w1.cell? ⟨q, 1, none⟩ = some (.string t) ∧ w1.cell? ⟨q, 2, none⟩ = some (.int .i64 y)) ∧
    ((w1.cell? ⟨r, 0, none⟩ = some (.bool false) ∧ w1.cell? ⟨r, 1, none⟩ = some (.string ⟨#[]⟩) ∧ w1.cell? ⟨r, 2, none⟩ = some (.int .i64 0)) ∧ (w1.frozen? ⟨r, 0, none⟩ = false ∧ w1.frozen? ⟨r, 1, none⟩ = false ∧ w1.frozen? ⟨r, 2, none⟩ = false)) := by
  obtain ⟨c, f⟩ := bcell hb
  rw [c p 0 hp.1, c p 1 hp.1, c p 2 hp.1, c q 0 hp.2.1, c q 1 hp.2.1, c q 2 hp.2.1, c r 0 hp.2.2, c r 1 hp.2.2, c r 2 hp.2.2, f r 0 hp.2.2, f r 1 hp.2.2, f r 2 hp.2.2]
  exact ⟨hv.trans (hb.mono hv.size), ⟨Nat.lt_of_lt_of_le hp.1 hb.size, Nat.lt_of_lt_of_le hp.2.1 hb.size, Nat.lt_of_lt_of_le hp.2.2 hb.size⟩, h, h'⟩
theorem set_three {v w : World} (h : Below v.heap.size v w) {b : Nat} (hb : v.heap.size ≤ b) (x y z : Value) : Below v.heap.size v (((w.setCell ⟨b, 0, none⟩ x).setCell ⟨b, 1, none⟩ y).setCell ⟨b, 2, none⟩ z) :=
  ((h.setCell hb _).setCell hb _).setCell hb _

theorem lvl_len {n : Bool} {s : ByteArray} {x y : Int} (h : decOk n (bs s) x = true) (hy : -119 ≤ y) : (dec (lvl s x y)).length ≤ 300 := by
  obtain ⟨a1, a2, a3, -, -, a6, a7, -, -⟩ := dec_facts h
  have hv : val (bs s) < 10 ^ 20 := by
    by_cases h0 : 0 < s.size
    · obtain ⟨c, -, -, -⟩ := form_same h (ne_nil h0)
      have := val_lt (bs s) c.dig
      rw [bs_length] at this
      exact Nat.lt_of_lt_of_le this (Nat.pow_le_pow_right (by decide) a1)
    · rw [bs_empty (by omega)]; decide
  unfold lvl
  obtain ⟨k, hk⟩ : ∃ k, (x - min x y).toNat = k := ⟨_, rfl⟩
  rw [hk]
  have hk2 : k ≤ 218 := by omega
  refine Nat.le_trans (dec_len_le (20 + k) _ (by omega) ?_) (by omega)
  rw [Nat.pow_add]
  exact Nat.mul_lt_mul_of_pos_right hv (Nat.pow_pos (by decide))
theorem val_20 {n : Bool} {s : ByteArray} {x : Int} (h : decOk n (bs s) x = true) : val (bs s) < 10 ^ 20 := by
  obtain ⟨a1, -⟩ := dec_facts h
  by_cases h0 : 0 < s.size
  · obtain ⟨c, -, -, -⟩ := form_same h (ne_nil h0)
    have := val_lt (bs s) c.dig
    rw [bs_length] at this
    exact Nat.lt_of_lt_of_le this (Nat.pow_le_pow_right (by decide) a1)
  · rw [bs_empty (by omega)]; decide
theorem dec_mono {a b : Nat} (h : a ≤ b) : (dec a).length ≤ (dec b).length :=
  dec_len_le _ a (dec_len b) (Nat.lt_of_le_of_lt h (dec_lt b))
theorem dec_add_len (a b : Nat) : (dec (a + b)).length ≤ (dec a).length + (dec b).length := by
  have ha := dec_lt a
  have hb := dec_lt b
  have la := dec_len a
  have lb := dec_len b
  refine dec_len_le _ _ (by omega) ?_
  have h1 : 10 ^ (dec a).length ≤ 10 ^ ((dec a).length + (dec b).length - 1) := Nat.pow_le_pow_right (by decide) (by omega)
  have h2 : 10 ^ (dec b).length ≤ 10 ^ ((dec a).length + (dec b).length - 1) := Nat.pow_le_pow_right (by decide) (by omega)
  have h3 : 10 ^ ((dec a).length + (dec b).length) = 10 * 10 ^ ((dec a).length + (dec b).length - 1) := by
    rw [show (dec a).length + (dec b).length = ((dec a).length + (dec b).length - 1) + 1 by omega, Nat.pow_succ, Nat.mul_comm, Nat.add_sub_cancel]
  omega
theorem dec_mul_len (a b : Nat) : (dec (a * b)).length ≤ (dec a).length + (dec b).length := by
  have la := dec_len a
  refine dec_len_le _ _ (by omega) ?_
  rw [Nat.pow_add]
  exact Nat.mul_lt_mul'' (dec_lt a) (dec_lt b)

/-- what formV is, as a value written out -/
theorem formV_lit (n : Bool) (v : Nat) (x : Int) : ∃ (n' : Bool) (u : ByteArray) (y : Int) (c : Int), formV n v x = .tuple #[.agg #[.bool n', .string u, .int .i64 y], .int .i64 c] ∧ decOk n' (bs u) y = true ∧ u.size ≤ 20 ∧ (c = 0 ∨ c = 1) := by
  obtain ⟨n', l, y, c, h1, h2, h3, h4⟩ := formV_ok n v x
  exact ⟨n', ofL l, y, c, h1, h2, by rw [size_ofL]; exact h3, h4⟩
theorem normal_dec (n : Bool) (v : Nat) (x : Int) (w : World) (hv : (dec v).length ≤ 4096) (hx : -100000 ≤ x) (hx2 : x ≤ 100000) :
    Calls Tryz.prog 47 #[.bool n, .string (ofL (dec v)), .int .i64 x] w fun e w' => e = .returned (formV n v x) ∧ Below w.heap.size w w' := by
  have h := normal_any n (ofL (dec v)) x w (by rw [bs_ofL]; exact dec_all v) (by rw [size_ofL]; omega) (by omega) (by omega)
  rw [bs_ofL, val_dec] at h
  exact h
theorem form_dec (n : Bool) (v : Nat) (x : Int) (w : World) (hv : (dec v).length ≤ 4096) (hx : -100000 ≤ x) (hx2 : x ≤ 100000) :
    Calls Tryz.prog 59 #[.bool n, .string (ofL (dec v)), .int .i64 x, .bool false] w fun e w' => e = .returned (formV n v x) ∧ Below w.heap.size w w' := by
  have h := l03Form_any n (ofL (dec v)) x w (by rw [bs_ofL]; exact dec_all v) (by rw [size_ofL]; omega) (by omega) (by omega)
  rw [bs_ofL, val_dec] at h
  exact h
theorem form_dec1 (n : Bool) (v : Nat) (x : Int) (w : World) (hv : (dec v).length ≤ 4096) (hx : -100000 ≤ x) (hx2 : x ≤ 100000) :
    Calls Tryz.prog 59 #[.bool n, .string (ofL (dec v)), .int .i64 x, .bool true] w fun e w' => e = .returned (formV n (10 * v + 1) (x - 1)) ∧ Below w.heap.size w w' := by
  have h := l03Form_much n (ofL (dec v)) x w (by rw [bs_ofL]; exact dec_all v) (by rw [size_ofL]; omega) (by omega) (by omega)
  rw [bs_ofL, val_dec] at h
  exact h
end Go.Proofs.YtjjpdoabagnmoaaGreatDoor
/-
  What the laws on two numbers use: szDec's contracts. No condition.
-/
namespace Go.Proofs.YtjjpdoabagnmoaaGreatDoor
open Go.RowKit
set_option linter.unusedVariables false
set_option linter.unusedSimpArgs false


theorem set_cells {w : World} {g : Nat} {v0 v1 v2 x y z : Value} (h0 : w.cell? ⟨g, 0, none⟩ = some v0) (h1 : w.cell? ⟨g, 1, none⟩ = some v1) (h2 : w.cell? ⟨g, 2, none⟩ = some v2) :
    (((w.setCell ⟨g, 0, none⟩ x).setCell ⟨g, 1, none⟩ y).setCell ⟨g, 2, none⟩ z).cell? ⟨g, 0, none⟩ = some x ∧
      (((w.setCell ⟨g, 0, none⟩ x).setCell ⟨g, 1, none⟩ y).setCell ⟨g, 2, none⟩ z).cell? ⟨g, 1, none⟩ = some y ∧
      (((w.setCell ⟨g, 0, none⟩ x).setCell ⟨g, 1, none⟩ y).setCell ⟨g, 2, none⟩ z).cell? ⟨g, 2, none⟩ = some z := by
  have n01 : (⟨g, 0, none⟩ : Addr) ≠ ⟨g, 1, none⟩ := by simp
  have n02 : (⟨g, 0, none⟩ : Addr) ≠ ⟨g, 2, none⟩ := by simp
  have n12 : (⟨g, 1, none⟩ : Addr) ≠ ⟨g, 2, none⟩ := by simp
  refine ⟨?_, ?_, ?_⟩
  · rw [World.cell?_setCell_other (h := n02.symm), World.cell?_setCell_other (h := n01.symm), World.cell?_setCell_same (h := h0)]
  · have e1 : (w.setCell ⟨g, 0, none⟩ x).cell? ⟨g, 1, none⟩ = some v1 := by rw [World.cell?_setCell_other (h := n01), h1]
    rw [World.cell?_setCell_other (h := n12.symm), World.cell?_setCell_same (h := e1)]
  · have e2 : ((w.setCell ⟨g, 0, none⟩ x).setCell ⟨g, 1, none⟩ y).cell? ⟨g, 2, none⟩ = some v2 := by rw [World.cell?_setCell_other (h := n12), World.cell?_setCell_other (h := n02), h2]
    rw [World.cell?_setCell_same (h := e2)]


end Go.Proofs.YtjjpdoabagnmoaaGreatDoor
/-
  One number and a result's place, as a function on a number lays them; what of it a call leaves. No condition.
-/
namespace Go.Proofs.YtjjpdoabagnmoaaGreatDoor
open Go.RowKit
set_option linter.unusedVariables false
set_option linter.unusedSimpArgs false

theorem pair_laid (w : World) (n : Bool) (s : ByteArray) (x : Int) :
    ∃ w0, (w.alloc (Obj.cells #[.bool n, .string s, .int .i64 x] 23)).alloc (Obj.cells #[.bool false, .string ⟨#[]⟩, .int .i64 0] 23) = w0 ∧
      (w.heap.size < w0.heap.size ∧ w.heap.size + 1 < w0.heap.size) ∧ Below w.heap.size w w0 ∧
      (w0.cell? ⟨w.heap.size, 0, none⟩ = some (.bool n) ∧ w0.cell? ⟨w.heap.size, 1, none⟩ = some (.string s) ∧ w0.cell? ⟨w.heap.size, 2, none⟩ = some (.int .i64 x)) ∧
      ((w0.cell? ⟨w.heap.size + 1, 0, none⟩ = some (.bool false) ∧ w0.cell? ⟨w.heap.size + 1, 1, none⟩ = some (.string ⟨#[]⟩) ∧ w0.cell? ⟨w.heap.size + 1, 2, none⟩ = some (.int .i64 0)) ∧
        (w0.frozen? ⟨w.heap.size + 1, 0, none⟩ = false ∧ w0.frozen? ⟨w.heap.size + 1, 1, none⟩ = false ∧ w0.frozen? ⟨w.heap.size + 1, 2, none⟩ = false)) := by
  obtain ⟨u, hu, hz, hb, hc, -⟩ := one_laid w n s x
  have hus : u.heap.size = w.heap.size + 1 := by rw [← hu]; simp
  obtain ⟨w0, hw0, hz0, hb0, hc0, hf0⟩ := one_laid u false ⟨#[]⟩ 0
  obtain ⟨c, -⟩ := bcell hb0
  rw [hus] at hz0 hc0 hf0
  refine ⟨w0, by rw [hu]; exact hw0, ⟨by omega, by omega⟩, hb.trans (hb0.mono hb.size), ?_, hc0, hf0⟩
  rw [c _ 0 hz, c _ 1 hz, c _ 2 hz]
  exact hc
theorem pair_kept {w w1 : World} {p r : Nat} {n : Bool} {s : ByteArray} {x : Int} {v0 v1 v2 : Value} (hb : Below w.heap.size w w1) (hp : p < w.heap.size ∧ r < w.heap.size) {v : World} (hv : Below v.heap.size v w)
    (h : w.cell? ⟨p, 0, none⟩ = some (.bool n) ∧ w.cell? ⟨p, 1, none⟩ = some (.string s) ∧ w.cell? ⟨p, 2, none⟩ = some (.int .i64 x))
    (h' : (w.cell? ⟨r, 0, none⟩ = some v0 ∧ w.cell? ⟨r, 1, none⟩ = some v1 ∧ w.cell? ⟨r, 2, none⟩ = some v2) ∧ (w.frozen? ⟨r, 0, none⟩ = false ∧ w.frozen? ⟨r, 1, none⟩ = false ∧ w.frozen? ⟨r, 2, none⟩ = false)) :
    Below v.heap.size v w1 ∧ (p < w1.heap.size ∧ r < w1.heap.size) ∧
    (w1.cell? ⟨p, 0, none⟩ = some (.bool n) ∧ w1.cell? ⟨p, 1, none⟩ = some (.string s) ∧ w1.cell? ⟨p, 2, none⟩ = some (.int .i64 x)) ∧
    ((w1.cell? ⟨r, 0, none⟩ = some v0 ∧ w1.cell? ⟨r, 1, none⟩ = some v1 ∧ w1.cell? ⟨r, 2, none⟩ = some v2) ∧ (w1.frozen? ⟨r, 0, none⟩ = false ∧ w1.frozen? ⟨r, 1, none⟩ = false ∧ w1.frozen? ⟨r, 2, none⟩ = false)) := by
  obtain ⟨c, f⟩ := bcell hb
  rw [c p 0 hp.1, c p 1 hp.1, c p 2 hp.1, c r 0 hp.2, c r 1 hp.2, c r 2 hp.2, f r 0 hp.2, f r 1 hp.2, f r 2 hp.2]
  exact ⟨hv.trans (hb.mono hv.size), ⟨Nat.lt_of_lt_of_le hp.1 hb.size, Nat.lt_of_lt_of_le hp.2 hb.size⟩, h, h'⟩
end Go.Proofs.YtjjpdoabagnmoaaGreatDoor
/-
  The contracts of both sides' DecOf. Conditions: an int; for the program's the table of strconv stands in memory.
-/

namespace Go.Proofs.YtjjpdoabagnmoaaGreatDoor
open Go.RowKit
set_option linter.unusedVariables false
set_option linter.unusedSimpArgs false

set_option maxRecDepth 10000 in
theorem specDecOf_any (x : Int) (w : World) (h0 : -9223372036854775808 ≤ x) (h1 : x ≤ 9223372036854775807) (n' : Bool) (u : ByteArray) (y' c : Int) (hV : formV (decide (x < 0)) x.natAbs 0 = .tuple #[.agg #[.bool n', .string u, .int .i64 y'], .int .i64 c]) :
    Calls Tryz.prog 67 #[.int .i64 x] w fun e w' => e = .returned (.agg #[.bool n', .string u, .int .i64 y']) ∧ Below w.heap.size w w' := by
  obtain ⟨A, hA⟩ : ∃ A : Nat, x.natAbs = A := ⟨_, rfl⟩
  rw [hA] at hV
  have hAl : A ≤ 9223372036854775808 := by omega
  have hl := dec_len A
  have hl2 : (dec A).length ≤ 20 := dec_len_le 20 A (by decide) (by omega)
  obtain ⟨p, hp⟩ : ∃ p, ofL (numL x) = p := ⟨_, rfl⟩
  by_cases hx : x < 0
  · have hdx : decide (x < 0) = true := decide_eq_true hx
    rw [hdx] at hV
    have hNT := Lib.hid (fun w => specNumText_any x w h0 h1)
    rw [hp] at hNT
    have hpb : bs p = 45 :: dec A := by
      have e : numL x = 45 :: dec A := by unfold numL; rw [if_pos hx, hA]
      rw [← hp, bs_ofL, e]
    have hps : p.size = (dec A).length + 1 := by rw [← bs_length, hpb]; rfl
    have hsub : p.extract 1 p.size = ofL (dec A) := bs_inj (by rw [bs_ext, hpb, bs_ofL]; rfl)
    have hp1 : (1 : Int) ≤ (p.size : Int) := by omega
    have hp2 : 1 ≤ p.size := by omega
    have hN := Lib.hid (fun w => by
      have := form_dec true A 0 w (by omega) (by omega) (by omega)
      rw [hV, ← hsub] at this
      exact this : ∀ w : World, Calls Tryz.prog 59 #[.bool true, .string (p.extract 1 p.size), .int .i64 0, .bool false] w fun e w' => e = .returned (.tuple #[.agg #[.bool n', .string u, .int .i64 y'], .int .i64 c]) ∧ Below w.heap.size w w')
    clear hp hsub hV hl hl2 hAl hA hpb hps
    go_enter Tryz.func67, Tryz.ntmps67
    go_wp2_with fail
    refine (hNT.out _).mono ?_
    rintro e w1 ⟨rfl, hb1⟩
    obtain ⟨w0, hw0, hz0, hb0, hc0, hf0⟩ := one_laid w false ⟨#[]⟩ 0
    rw [hw0] at hb1
    obtain ⟨hz1, hc1, hf1⟩ := one_kept hb1 hz0 hc0 hf0
    have hv1 := hb0.trans (hb1.mono hb0.size)
    clear hw0 hz0 hb0 hc0 hf0 hb1
    go_wp2_with fail
    refine (hN.out _).mono ?_
    rintro e w2 ⟨rfl, hb2⟩
    obtain ⟨hz2, hc2, hf2⟩ := one_kept hb2 hz1 hc1 hf1
    have hv2 := hv1.trans (hb2.mono hv1.size)
    clear hz1 hc1 hf1 hv1 hb2
    have hne : ¬ (w.heap.size = w2.heap.size) := Nat.ne_of_lt hz2
    have hne' : ¬ (w2.heap.size = w.heap.size) := Nat.ne_of_gt hz2
    go_wp2
    refine bodyPost_ret (v := .agg #[.bool n', .string u, .int .i64 y']) (by simp [results, Tryz.results67, go_sem, *]) rfl ⟨rfl, ?_⟩
    exact (set_three hv2 (Nat.le_refl w.heap.size) _ _ _).alloc (set_three hv2 (Nat.le_refl w.heap.size) _ _ _).size _
  · have hdx : decide (x < 0) = false := decide_eq_false hx
    rw [hdx] at hV
    have hNT := Lib.hid (fun w => specNumText_any x w h0 h1)
    rw [hp] at hNT
    have hsub : p = ofL (dec A) := by
      have e : numL x = dec A := by unfold numL; rw [if_neg hx, hA]
      rw [← hp, e]
    have hN := Lib.hid (fun w => by
      have := form_dec false A 0 w (by omega) (by omega) (by omega)
      rw [hV, ← hsub] at this
      exact this : ∀ w : World, Calls Tryz.prog 59 #[.bool false, .string (p), .int .i64 0, .bool false] w fun e w' => e = .returned (.tuple #[.agg #[.bool n', .string u, .int .i64 y'], .int .i64 c]) ∧ Below w.heap.size w w')
    clear hp hsub hV hl hl2 hAl hA
    go_enter Tryz.func67, Tryz.ntmps67
    go_wp2_with fail
    refine (hNT.out _).mono ?_
    rintro e w1 ⟨rfl, hb1⟩
    obtain ⟨w0, hw0, hz0, hb0, hc0, hf0⟩ := one_laid w false ⟨#[]⟩ 0
    rw [hw0] at hb1
    obtain ⟨hz1, hc1, hf1⟩ := one_kept hb1 hz0 hc0 hf0
    have hv1 := hb0.trans (hb1.mono hb0.size)
    clear hw0 hz0 hb0 hc0 hf0 hb1
    go_wp2_with fail
    refine (hN.out _).mono ?_
    rintro e w2 ⟨rfl, hb2⟩
    obtain ⟨hz2, hc2, hf2⟩ := one_kept hb2 hz1 hc1 hf1
    have hv2 := hv1.trans (hb2.mono hv1.size)
    clear hz1 hc1 hf1 hv1 hb2
    have hne : ¬ (w.heap.size = w2.heap.size) := Nat.ne_of_lt hz2
    have hne' : ¬ (w2.heap.size = w.heap.size) := Nat.ne_of_gt hz2
    go_wp2
    refine bodyPost_ret (v := .agg #[.bool n', .string u, .int .i64 y']) (by simp [results, Tryz.results67, go_sem, *]) rfl ⟨rfl, ?_⟩
    exact (set_three hv2 (Nat.le_refl w.heap.size) _ _ _).alloc (set_three hv2 (Nat.le_refl w.heap.size) _ _ _).size _

set_option maxRecDepth 10000 in
theorem implDecOf_any (x : Int) (w : World) (h0 : -9223372036854775808 ≤ x) (h1 : x ≤ 9223372036854775807) (hT : PowTab w) (n' : Bool) (u : ByteArray) (y' c : Int) (hV : formV (decide (x < 0)) x.natAbs 0 = .tuple #[.agg #[.bool n', .string u, .int .i64 y'], .int .i64 c]) :
    Calls Tryz.prog 21 #[.int .i64 x] w fun e w' => e = .returned (.agg #[.bool n', .string u, .int .i64 y']) ∧ Below w.heap.size w w' := by
  obtain ⟨A, hA⟩ : ∃ A : Nat, x.natAbs = A := ⟨_, rfl⟩
  rw [hA] at hV
  have hAl : A ≤ 9223372036854775808 := by omega
  have hl := dec_len A
  have hl2 : (dec A).length ≤ 20 := dec_len_le 20 A (by decide) (by omega)
  obtain ⟨p, hp⟩ : ∃ p, ofL (numL x) = p := ⟨_, rfl⟩
  by_cases hx : x < 0
  · have hdx : decide (x < 0) = true := decide_eq_true hx
    rw [hdx] at hV
    have hNT := Lib.hid (fun w hT => itoa_any x w h0 h1 hT)
    have hTM := Lib.hid (fun w => trimMinus_any x w)
    rw [hp, hA] at hTM
    rw [hp] at hNT
    have hN := Lib.hid (fun w => by
      have := normal_dec true A 0 w (by omega) (by omega) (by omega)
      rw [hV] at this
      exact this : ∀ w : World, Calls Tryz.prog 47 #[.bool true, .string (ofL (dec A)), .int .i64 0] w fun e w' => e = .returned (.tuple #[.agg #[.bool n', .string u, .int .i64 y'], .int .i64 c]) ∧ Below w.heap.size w w')
    clear hp hV hl hl2 hAl hA
    go_enter Tryz.func21, Tryz.ntmps21
    go_wp2_with fail
    refine (hNT.out _ ?_).mono ?_
    · exact hT.below ((Below.refl _ w).alloc (Nat.le_refl _) _)
    rintro e w1 ⟨rfl, hb1⟩
    obtain ⟨w0, hw0, hz0, hb0, hc0, hf0⟩ := one_laid w false ⟨#[]⟩ 0
    rw [hw0] at hb1
    obtain ⟨hz1, hc1, hf1⟩ := one_kept hb1 hz0 hc0 hf0
    have hv1 := hb0.trans (hb1.mono hb0.size)
    clear hw0 hz0 hb0 hc0 hf0 hb1
    go_wp2_with fail
    refine (hTM.out _).mono ?_
    rintro e w9 ⟨rfl, hw9⟩
    obtain rfl : w1 = w9 := hw9.symm
    clear hw9
    go_wp2_with fail
    refine (hN.out _).mono ?_
    rintro e w2 ⟨rfl, hb2⟩
    obtain ⟨hz2, hc2, hf2⟩ := one_kept hb2 hz1 hc1 hf1
    have hv2 := hv1.trans (hb2.mono hv1.size)
    clear hz1 hc1 hf1 hv1 hb2
    have hne : ¬ (w.heap.size = w2.heap.size) := Nat.ne_of_lt hz2
    have hne' : ¬ (w2.heap.size = w.heap.size) := Nat.ne_of_gt hz2
    go_wp2
    refine bodyPost_ret (v := .agg #[.bool n', .string u, .int .i64 y']) (by simp [results, Tryz.results21, go_sem, *]) rfl ⟨rfl, ?_⟩
    exact (set_three hv2 (Nat.le_refl w.heap.size) _ _ _).alloc (set_three hv2 (Nat.le_refl w.heap.size) _ _ _).size _
  · have hdx : decide (x < 0) = false := decide_eq_false hx
    rw [hdx] at hV
    have hNT := Lib.hid (fun w hT => itoa_any x w h0 h1 hT)
    have hTM := Lib.hid (fun w => trimMinus_any x w)
    rw [hp, hA] at hTM
    rw [hp] at hNT
    have hN := Lib.hid (fun w => by
      have := normal_dec false A 0 w (by omega) (by omega) (by omega)
      rw [hV] at this
      exact this : ∀ w : World, Calls Tryz.prog 47 #[.bool false, .string (ofL (dec A)), .int .i64 0] w fun e w' => e = .returned (.tuple #[.agg #[.bool n', .string u, .int .i64 y'], .int .i64 c]) ∧ Below w.heap.size w w')
    clear hp hV hl hl2 hAl hA
    go_enter Tryz.func21, Tryz.ntmps21
    go_wp2_with fail
    refine (hNT.out _ ?_).mono ?_
    · exact hT.below ((Below.refl _ w).alloc (Nat.le_refl _) _)
    rintro e w1 ⟨rfl, hb1⟩
    obtain ⟨w0, hw0, hz0, hb0, hc0, hf0⟩ := one_laid w false ⟨#[]⟩ 0
    rw [hw0] at hb1
    obtain ⟨hz1, hc1, hf1⟩ := one_kept hb1 hz0 hc0 hf0
    have hv1 := hb0.trans (hb1.mono hb0.size)
    clear hw0 hz0 hb0 hc0 hf0 hb1
    go_wp2_with fail
    refine (hTM.out _).mono ?_
    rintro e w9 ⟨rfl, hw9⟩
    obtain rfl : w1 = w9 := hw9.symm
    clear hw9
    go_wp2_with fail
    refine (hN.out _).mono ?_
    rintro e w2 ⟨rfl, hb2⟩
    obtain ⟨hz2, hc2, hf2⟩ := one_kept hb2 hz1 hc1 hf1
    have hv2 := hv1.trans (hb2.mono hv1.size)
    clear hz1 hc1 hf1 hv1 hb2
    have hne : ¬ (w.heap.size = w2.heap.size) := Nat.ne_of_lt hz2
    have hne' : ¬ (w2.heap.size = w.heap.size) := Nat.ne_of_gt hz2
    go_wp2
    refine bodyPost_ret (v := .agg #[.bool n', .string u, .int .i64 y']) (by simp [results, Tryz.results21, go_sem, *]) rfl ⟨rfl, ?_⟩
    exact (set_three hv2 (Nat.le_refl w.heap.size) _ _ _).alloc (set_three hv2 (Nat.le_refl w.heap.size) _ _ _).size _
end Go.Proofs.YtjjpdoabagnmoaaGreatDoor
