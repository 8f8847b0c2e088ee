/-
  Texts of this claim in one file, in build order: DecSums, Three, IntForm, Cols, NatMul, DecMul, Divs, NatSub, NatDiv. Each says ahead what it proves and under which conditions.
-/
import Derived.Test.YtjjpdoabagnmoaaGreatDoorQ04
import Derived.Test.YtjjpdoabagnmoaaGreatDoorQ06
import Derived.Test.YtjjpdoabagnmoaaGreatDoorQ03
import Derived.StillTailTactics
import Derived.Lib.SmallJoins
/-
  What sums, comparisons and quotients of numbers mean, and that the two roads to a quotient are one. No program. No condition.
-/
namespace Go.Proofs.YtjjpdoabagnmoaaGreatDoor
open Go.RowKit
set_option linter.unusedVariables false
set_option linter.unusedSimpArgs false

/-- the sum of two numbers on one level -/
def sumV (n : Bool) (X : Nat) (m : Bool) (Y : Nat) (z : Int) : Value :=
  if n = m then formV n (X + Y) z else if Y ≤ X then formV n (X - Y) z else formV m (Y - X) z
/-- the sign of the sum -/
def sumN (n : Bool) (X : Nat) (m : Bool) (Y : Nat) : Bool × Nat := if n = m then (n, X + Y) else if Y ≤ X then (n, X - Y) else (m, Y - X)
def sgnV (n : Bool) (X : Nat) (m : Bool) (Y : Nat) : Int := if (sumN n X m Y).2 = 0 then 0 else if (sumN n X m Y).1 then -1 else 1
theorem sumV_N (n : Bool) (X : Nat) (m : Bool) (Y : Nat) (z : Int) : sumV n X m Y z = formV (sumN n X m Y).1 (sumN n X m Y).2 z := by
  unfold sumV sumN
  split
  · rfl
  · split <;> rfl
/-- the order of two numbers on one level -/
def cmpS (n : Bool) (X : Nat) (m : Bool) (Y : Nat) : Int := if n then (if m then cmpN Y X else -1) else if m then 1 else cmpN X Y
theorem cmpS_sgn (n : Bool) (X : Nat) (m : Bool) (Y : Nat) (h1 : n = true → 0 < X) (h2 : m = true → 0 < Y) : sgnV n X (if Y = 0 then m else !m) Y = cmpS n X m Y := by
  by_cases hY : Y = 0
  · have hm : m = false := by cases m with | false => rfl | true => exact absurd (h2 rfl) (by omega)
    subst hm
    cases n with
    | false =>
      by_cases hX : X = 0
      · simp [sgnV, sumN, cmpS, cmpN, hX, hY]
      · simp [sgnV, sumN, cmpS, cmpN, hX, hY]
    | true =>
      have := h1 rfl
      have hX : X ≠ 0 := by omega
      simp [sgnV, sumN, cmpS, cmpN, hX, hY]
  · rw [if_neg hY]
    have d : X - Y = 0 ↔ X ≤ Y := by omega
    have d2 : Y - X = 0 ↔ Y ≤ X := by omega
    cases n <;> cases m <;> simp only [sgnV, sumN, cmpS, cmpN] <;> simp
    · by_cases h : Y ≤ X
      · by_cases e : X = Y
        · simp [e]
        · have : ¬ X < Y := by omega
          have : ¬ X ≤ Y := by omega
          simp [*]
      · have : X < Y := by omega
        have : ¬ Y - X = 0 := by omega
        simp [*]
    · omega
    · omega
    · by_cases h : Y ≤ X
      · by_cases e : X = Y
        · simp [e]
        · have : Y < X := by omega
          have : ¬ X ≤ Y := by omega
          simp [*]
      · have : ¬ Y < X := by omega
        have : ¬ Y = X := by omega
        have : ¬ Y - X = 0 := by omega
        simp [*]

theorem thousand (q : Nat) : (10 * q + 1) * 10 ^ 3 = 10000 * q + 1000 := by omega
theorem tenth (q c : Nat) : (1000 * q + c) * 10 ^ 1 = 10000 * q + 10 * c := by omega
/-- the quotient by 45 noughts is the quotient by 42 -/
theorem div_same (n : Bool) (A B : Nat) (e : Int) (hB : 0 < B) (hB2 : B < 10 ^ 20) :
    (if A * 10 ^ 45 % B = 0 then formV n (A * 10 ^ 45 / B) (e - 45) else formV n (10 * (A * 10 ^ 45 / B) + 1) (e - 46))
      = (if A * 10 ^ 42 % B = 0 then formV n (A * 10 ^ 42 / B) (e - 42) else formV n (10 * (A * 10 ^ 42 / B) + 1) (e - 43)) := by
  obtain ⟨N, hN⟩ : ∃ N, A * 10 ^ 42 = N := ⟨_, rfl⟩
  have hN3 : A * 10 ^ 45 = N * 1000 := by rw [← hN, show (10 : Nat) ^ 45 = 10 ^ 42 * 1000 by rw [show (45 : Nat) = 42 + 3 by omega, Nat.pow_add], Nat.mul_assoc]
  obtain ⟨q, hq⟩ : ∃ q, N / B = q := ⟨_, rfl⟩
  obtain ⟨r, hr⟩ : ∃ r, N % B = r := ⟨_, rfl⟩
  have hdm := Nat.div_add_mod N B
  rw [hq, hr] at hdm
  have hrB : r < B := by rw [← hr]; exact Nat.mod_lt _ hB
  have h3 : N * 1000 = B * (1000 * q) + 1000 * r := by
    rw [← hdm, Nat.add_mul, Nat.mul_assoc, Nat.mul_comm q 1000, Nat.mul_comm r 1000]
  have hq3 : N * 1000 / B = 1000 * q + 1000 * r / B := by rw [h3, Nat.mul_add_div hB]
  have hr3 : N * 1000 % B = 1000 * r % B := by rw [h3, Nat.mul_add_mod]
  rw [hN3, hN, hq3, hr3, hq, hr]
  by_cases h0 : r = 0
  · have e2 := formV_tens n q (e - 42) 3
    rw [h0, if_pos (by rw [Nat.mul_zero]; exact Nat.zero_mod B), if_pos rfl, Nat.mul_zero, Nat.zero_div, Nat.add_zero, ← e2]
    congr 1
    · rw [Nat.mul_comm]
    · omega
  · have hc : 1000 * r / B < 1000 := by rw [Nat.div_lt_iff_lt_mul hB]; omega
    have hcd := Nat.div_add_mod (1000 * r) B
    have hA : A ≠ 0 := by
      intro hA
      rw [hA, Nat.zero_mul] at hN
      rw [← hN, Nat.zero_mod] at hr
      exact h0 hr.symm
    have hq22 : 10 ^ 21 ≤ q := by
      rw [← hq, Nat.le_div_iff_mul_le hB, ← hN]
      have h1 : 10 ^ 21 * B ≤ 10 ^ 21 * 10 ^ 20 := Nat.mul_le_mul_left _ (Nat.le_of_lt hB2)
      have h2 : (10 : Nat) ^ 21 * 10 ^ 20 = 10 ^ 41 := (Nat.pow_add 10 21 20).symm
      rw [h2] at h1
      exact Nat.le_trans h1 (Nat.le_trans (Nat.pow_le_pow_right (by decide) (by decide)) (Nat.le_mul_of_pos_left _ (Nat.pos_of_ne_zero hA)))
    have e1 := formV_tens n (10 * q + 1) (e - 43) 3
    have e1' := thousand q
    have e1'' : e - 43 - ((3 : Nat) : Int) = e - 46 := by omega
    rw [e1', e1'', formV_sticky n q 1000 (e - 46) (by omega) (by omega) hq22] at e1
    rw [if_neg h0, ← e1]
    by_cases hd : 1000 * r % B = 0
    · rw [if_pos hd]
      have hcp : 0 < 1000 * r / B := by
        rcases Nat.eq_zero_or_pos (1000 * r / B) with h | h
        · rw [h, hd] at hcd; omega
        · exact h
      have e2 := formV_tens n (1000 * q + 1000 * r / B) (e - 45) 1
      have e2' := tenth q (1000 * r / B)
      have e2'' : e - 45 - ((1 : Nat) : Int) = e - 46 := by omega
      rw [e2', e2'', formV_sticky n q _ (e - 46) (by omega) (by omega) hq22] at e2
      exact e2.symm
    · rw [if_neg hd]
      have e2' : 10 * (1000 * q + 1000 * r / B) + 1 = 10000 * q + (10 * (1000 * r / B) + 1) := by omega
      rw [e2']
      exact formV_sticky n q _ (e - 46) (by omega) (by omega) hq22
end Go.Proofs.YtjjpdoabagnmoaaGreatDoor
/-
  Two numbers and a result's place, as a function on numbers lays them; what of it a call leaves; normal and l03Form on numerals. No condition.
-/
namespace Go.Proofs.YtjjpdoabagnmoaaGreatDoor
open Go.RowKit
set_option linter.unusedVariables false
set_option linter.unusedSimpArgs false

theorem three_laid (w : World) (n : Bool) (s : ByteArray) (x : Int) (m : Bool) (t : ByteArray) (y : Int) :
    ∃ w0, ((w.alloc (Obj.cells #[.bool n, .string s, .int .i64 x] 23)).alloc (Obj.cells #[.bool m, .string t, .int .i64 y] 23)).alloc (Obj.cells #[.bool false, .string ⟨#[]⟩, .int .i64 0] 23) = w0 ∧
      (w.heap.size < w0.heap.size ∧ w.heap.size + 1 < w0.heap.size ∧ w.heap.size + 1 + 1 < w0.heap.size) ∧ Below w.heap.size w w0 ∧
      (w0.cell? ⟨w.heap.size, 0, none⟩ = some (.bool n) ∧ w0.cell? ⟨w.heap.size, 1, none⟩ = some (.string s) ∧ w0.cell? ⟨w.heap.size, 2, none⟩ = some (.int .i64 x) ∧ w0.cell? ⟨w.heap.size + 1, 0, none⟩ = some (.bool m) ∧ w0.cell? ⟨w.heap.size + 1, 1, none⟩ = some (.string t) ∧ w0.cell? ⟨w.heap.size + 1, 2, none⟩ = some (.int .i64 y)) ∧
      ((w0.cell? ⟨w.heap.size + 1 + 1, 0, none⟩ = some (.bool false) ∧ w0.cell? ⟨w.heap.size + 1 + 1, 1, none⟩ = some (.string ⟨#[]⟩) ∧ w0.cell? ⟨w.heap.size + 1 + 1, 2, none⟩ = some (.int .i64 0)) ∧
        (w0.frozen? ⟨w.heap.size + 1 + 1, 0, none⟩ = false ∧ w0.frozen? ⟨w.heap.size + 1 + 1, 1, none⟩ = false ∧ w0.frozen? ⟨w.heap.size + 1 + 1, 2, none⟩ = false)) := by
  obtain ⟨u, hu, hz, hb, hc⟩ := two_laid w n s x m t y
  have hus : u.heap.size = w.heap.size + 1 + 1 := by rw [← hu]; simp
  obtain ⟨w0, hw0, hz0, hb0, hc0, hf0⟩ := one_laid u false ⟨#[]⟩ 0
  obtain ⟨c, -⟩ := bcell hb0
  rw [hus] at hz0 hc0 hf0
  refine ⟨w0, by rw [hu]; exact hw0, ⟨by omega, by omega, by omega⟩, hb.trans (hb0.mono hb.size), ?_, hc0, hf0⟩
  rw [c _ 0 hz.1, c _ 1 hz.1, c _ 2 hz.1, c _ 0 hz.2, c _ 1 hz.2, c _ 2 hz.2]
  exact hc
theorem three_kept {w w1 : World} {p q r : Nat} {n : Bool} {s : ByteArray} {x : Int} {m : Bool} {t : ByteArray} {y : Int} (hb : Below w.heap.size w w1) (hp : p < w.heap.size ∧ q < w.heap.size ∧ r < w.heap.size) {v : World} (hv : Below v.heap.size v w)
    (h : w.cell? ⟨p, 0, none⟩ = some (.bool n) ∧ w.cell? ⟨p, 1, none⟩ = some (.string s) ∧ w.cell? ⟨p, 2, none⟩ = some (.int .i64 x) ∧ w.cell? ⟨q, 0, none⟩ = some (.bool m) ∧ w.cell? ⟨q, 1, none⟩ = some (.string t) ∧ w.cell? ⟨q, 2, none⟩ = some (.int .i64 y))
    (h' : (w.cell? ⟨r, 0, none⟩ = some (.bool false) ∧ w.cell? ⟨r, 1, none⟩ = some (.string ⟨#[]⟩) ∧ w.cell? ⟨r, 2, none⟩ = some (.int .i64 0)) ∧ (w.frozen? ⟨r, 0, none⟩ = false ∧ w.frozen? ⟨r, 1, none⟩ = false ∧ w.frozen? ⟨r, 2, none⟩ = false)) :
    Below v.heap.size v w1 ∧ (p < w1.heap.size ∧ q < w1.heap.size ∧ r < w1.heap.size) ∧
    (w1.cell? ⟨p, 0, none⟩ = some (.bool n) ∧ w1.cell? ⟨p, 1, none⟩ = some (.string s) ∧ w1.cell? ⟨p, 2, none⟩ = some (.int .i64 x) ∧ w1.cell? ⟨q, 0, none⟩ = some (.bool m) ∧ w1.cell? ⟨q, 1, none⟩ = some (.string t) ∧ w1.cell? ⟨q, 2, none⟩ = some (.int .i64 y)) ∧
    ((w1.cell? ⟨r, 0, none⟩ = some (.bool false) ∧ w1.cell? ⟨r, 1, none⟩ = some (.string ⟨#[]⟩) ∧ w1.cell? ⟨r, 2, none⟩ = some (.int .i64 0)) ∧ (w1.frozen? ⟨r, 0, none⟩ = false ∧ w1.frozen? ⟨r, 1, none⟩ = false ∧ w1.frozen? ⟨r, 2, none⟩ = false)) := by
  obtain ⟨c, f⟩ := bcell hb
  rw [c p 0 hp.1, c p 1 hp.1, c p 2 hp.1, c q 0 hp.2.1, c q 1 hp.2.1, c q 2 hp.2.1, c r 0 hp.2.2, c r 1 hp.2.2, c r 2 hp.2.2, f r 0 hp.2.2, f r 1 hp.2.2, f r 2 hp.2.2]
  exact ⟨hv.trans (hb.mono hv.size), ⟨Nat.lt_of_lt_of_le hp.1 hb.size, Nat.lt_of_lt_of_le hp.2.1 hb.size, Nat.lt_of_lt_of_le hp.2.2 hb.size⟩, h, h'⟩
theorem set_three {v w : World} (h : Below v.heap.size v w) {b : Nat} (hb : v.heap.size ≤ b) (x y z : Value) : Below v.heap.size v (((w.setCell ⟨b, 0, none⟩ x).setCell ⟨b, 1, none⟩ y).setCell ⟨b, 2, none⟩ z) :=
  ((h.setCell hb _).setCell hb _).setCell hb _

theorem lvl_len {n : Bool} {s : ByteArray} {x y : Int} (h : decOk n (bs s) x = true) (hy : -119 ≤ y) : (dec (lvl s x y)).length ≤ 300 := by
  obtain ⟨a1, a2, a3, -, -, a6, a7, -, -⟩ := dec_facts h
  have hv : val (bs s) < 10 ^ 20 := by
    by_cases h0 : 0 < s.size
    · obtain ⟨c, -, -, -⟩ := form_same h (ne_nil h0)
      have := val_lt (bs s) c.dig
      rw [bs_length] at this
      exact Nat.lt_of_lt_of_le this (Nat.pow_le_pow_right (by decide) a1)
    · rw [bs_empty (by omega)]; decide
  unfold lvl
  obtain ⟨k, hk⟩ : ∃ k, (x - min x y).toNat = k := ⟨_, rfl⟩
  rw [hk]
  have hk2 : k ≤ 218 := by omega
  refine Nat.le_trans (dec_len_le (20 + k) _ (by omega) ?_) (by omega)
  rw [Nat.pow_add]
  exact Nat.mul_lt_mul_of_pos_right hv (Nat.pow_pos (by decide))
theorem val_20 {n : Bool} {s : ByteArray} {x : Int} (h : decOk n (bs s) x = true) : val (bs s) < 10 ^ 20 := by
  obtain ⟨a1, -⟩ := dec_facts h
  by_cases h0 : 0 < s.size
  · obtain ⟨c, -, -, -⟩ := form_same h (ne_nil h0)
    have := val_lt (bs s) c.dig
    rw [bs_length] at this
    exact Nat.lt_of_lt_of_le this (Nat.pow_le_pow_right (by decide) a1)
  · rw [bs_empty (by omega)]; decide
theorem dec_mono {a b : Nat} (h : a ≤ b) : (dec a).length ≤ (dec b).length :=
  dec_len_le _ a (dec_len b) (Nat.lt_of_le_of_lt h (dec_lt b))
theorem dec_add_len (a b : Nat) : (dec (a + b)).length ≤ (dec a).length + (dec b).length := by
  have ha := dec_lt a
  have hb := dec_lt b
  have la := dec_len a
  have lb := dec_len b
  refine dec_len_le _ _ (by omega) ?_
  have h1 : 10 ^ (dec a).length ≤ 10 ^ ((dec a).length + (dec b).length - 1) := Nat.pow_le_pow_right (by decide) (by omega)
  have h2 : 10 ^ (dec b).length ≤ 10 ^ ((dec a).length + (dec b).length - 1) := Nat.pow_le_pow_right (by decide) (by omega)
  have h3 : 10 ^ ((dec a).length + (dec b).length) = 10 * 10 ^ ((dec a).length + (dec b).length - 1) := by
    rw [show (dec a).length + (dec b).length = ((dec a).length + (dec b).length - 1) + 1 by omega, Nat.pow_succ, Nat.mul_comm, Nat.add_sub_cancel]
  omega
theorem dec_mul_len (a b : Nat) : (dec (a * b)).length ≤ (dec a).length + (dec b).length := by
  have la := dec_len a
  refine dec_len_le _ _ (by omega) ?_
  rw [Nat.pow_add]
  exact Nat.mul_lt_mul'' (dec_lt a) (dec_lt b)

/-- what formV is, as a value written out -/
theorem formV_lit (n : Bool) (v : Nat) (x : Int) : ∃ (n' : Bool) (u : ByteArray) (y : Int) (c : Int), formV n v x = .tuple #[.agg #[.bool n', .string u, .int .i64 y], .int .i64 c] ∧ decOk n' (bs u) y = true ∧ u.size ≤ 20 ∧ (c = 0 ∨ c = 1) := by
  obtain ⟨n', l, y, c, h1, h2, h3, h4⟩ := formV_ok n v x
  exact ⟨n', ofL l, y, c, h1, h2, by rw [size_ofL]; exact h3, h4⟩
theorem normal_dec (n : Bool) (v : Nat) (x : Int) (w : World) (hv : (dec v).length ≤ 4096) (hx : -100000 ≤ x) (hx2 : x ≤ 100000) :
    Calls Tryz.prog 47 #[.bool n, .string (ofL (dec v)), .int .i64 x] w fun e w' => e = .returned (formV n v x) ∧ Below w.heap.size w w' := by
  have h := normal_any n (ofL (dec v)) x w (by rw [bs_ofL]; exact dec_all v) (by rw [size_ofL]; omega) (by omega) (by omega)
  rw [bs_ofL, val_dec] at h
  exact h
theorem form_dec (n : Bool) (v : Nat) (x : Int) (w : World) (hv : (dec v).length ≤ 4096) (hx : -100000 ≤ x) (hx2 : x ≤ 100000) :
    Calls Tryz.prog 59 #[.bool n, .string (ofL (dec v)), .int .i64 x, .bool false] w fun e w' => e = .returned (formV n v x) ∧ Below w.heap.size w w' := by
  have h := l03Form_any n (ofL (dec v)) x w (by rw [bs_ofL]; exact dec_all v) (by rw [size_ofL]; omega) (by omega) (by omega)
  rw [bs_ofL, val_dec] at h
  exact h
theorem form_dec1 (n : Bool) (v : Nat) (x : Int) (w : World) (hv : (dec v).length ≤ 4096) (hx : -100000 ≤ x) (hx2 : x ≤ 100000) :
    Calls Tryz.prog 59 #[.bool n, .string (ofL (dec v)), .int .i64 x, .bool true] w fun e w' => e = .returned (formV n (10 * v + 1) (x - 1)) ∧ Below w.heap.size w w' := by
  have h := l03Form_much n (ofL (dec v)) x w (by rw [bs_ofL]; exact dec_all v) (by rw [size_ofL]; omega) (by omega) (by omega)
  rw [bs_ofL, val_dec] at h
  exact h
end Go.Proofs.YtjjpdoabagnmoaaGreatDoor
/-
  Plain: small naturals in form, and sums, products and remainders of ints as numbers. No program. Conditions: bounds.
-/
namespace Go.Proofs.YtjjpdoabagnmoaaGreatDoor
open Go.RowKit
set_option linter.unusedVariables false
set_option linter.unusedSimpArgs false

theorem nought_form (n : Bool) (z : Int) : formV n 0 z = .tuple #[.agg #[.bool false, .string ⟨#[]⟩, .int .i64 0], .int .i64 0] := by
  unfold formV; rw [if_pos rfl]; rfl
/-- a natural of at most 20 digits, in form -/
theorem form_small (n : Bool) (v : Nat) (x : Int) (hv : v ≠ 0) (hlt : v < 10 ^ 20) (hx1 : -90 ≤ x) (hx2 : x ≤ 70) :
    ∃ (u : ByteArray) (k : Nat), formV n v x = .tuple #[.agg #[.bool n, .string u, .int .i64 (x + k)], .int .i64 0] ∧ decOk n (bs u) (x + k) = true ∧ 0 < u.size ∧ u.size ≤ 20 ∧ val (bs u) * 10 ^ k = v ∧ k ≤ 20 := by
  have hdl := dec_len_le 20 v (by decide) hlt
  have hdp := dec_len v
  obtain ⟨e1, e2⟩ := fM_small hdl
  obtain ⟨hsp, -⟩ := fT_split v
  have hfl := fT_len v
  rw [e2] at hsp hfl
  have hval : val (fT v) * 10 ^ fK v = v := by rw [← val_zs, ← hsp, val_dec]
  have hform : formV n v x = numV n (fT v) (x + fK v) 0 := by
    have hfe : fE v x = x + fK v := by unfold fE; rw [e1]; simp
    have hfh : fH v x = x + ((dec v).length : Int) - 1 := by unfold fH; rw [hfe]; omega
    unfold formV
    rw [if_neg hv, hfh, if_neg (by omega), if_neg (by omega), hfe]
  obtain ⟨n2, u, z, c, hV, hok, hus, -⟩ := formV_lit n v x
  have heq := hV
  rw [hform] at heq
  unfold numV at heq
  simp only [Value.tuple.injEq, Array.mk.injEq, List.cons.injEq, Value.agg.injEq, Value.bool.injEq, Value.string.injEq, Value.int.injEq, true_and, and_true] at heq
  obtain ⟨⟨q1, q2, q3⟩, q4⟩ := heq
  subst q1 q2 q3 q4
  refine ⟨ofL (fT v), fK v, hV, hok, ?_, hus, by rw [bs_ofL]; exact hval, by omega⟩
  rw [size_ofL]
  exact List.length_pos_iff.2 (fT_ne hv)
/-- the number that an int is -/
structure IntNum (a : Int) (n : Bool) (u : ByteArray) (x : Int) : Prop where
  form : formV (decide (a < 0)) a.natAbs 0 = .tuple #[.agg #[.bool n, .string u, .int .i64 x], .int .i64 0]
  ok : decOk n (bs u) x = true
  x0 : 0 ≤ x
  x20 : x ≤ 20
  size : u.size ≤ 20
  val : Go.Proofs.YtjjpdoabagnmoaaGreatDoor.val (bs u) * 10 ^ x.toNat = a.natAbs
  sign : n = decide (a < 0)
  pos : a ≠ 0 → 0 < u.size
  nil : a = 0 → u.size = 0
theorem int_num (a : Int) (h : a.natAbs < 10 ^ 20) : ∃ (n : Bool) (u : ByteArray) (x : Int), IntNum a n u x := by
  by_cases h0 : a = 0
  · subst h0
    exact ⟨false, ⟨#[]⟩, 0, nought_form _ _, rfl, Int.le_refl _, by decide, by decide, rfl, rfl, fun h => absurd rfl h, fun _ => rfl⟩
  · obtain ⟨u, k, h1, h2, h3, h4, h5, h6⟩ := form_small (decide (a < 0)) a.natAbs 0 (by omega) h (by decide) (by decide)
    rw [Int.zero_add] at h1 h2
    exact ⟨_, u, k, h1, h2, by omega, by omega, h4, by rw [Int.toNat_natCast]; exact h5, rfl, fun _ => h3, fun e => absurd e h0⟩
theorem lvl_scale {a b : Int} {n m : Bool} {u v : ByteArray} {x y : Int} (ha : IntNum a n u x) (hb : IntNum b m v y) : lvl u x y * 10 ^ (min x y).toNat = a.natAbs := by
  unfold lvl
  rw [Nat.mul_assoc, ← Nat.pow_add, ← ha.val]
  congr 2
  have := ha.x0; have := hb.x0
  omega
theorem tens_back (n : Bool) (v : Nat) (z : Int) (hz : 0 ≤ z) : formV n v z = formV n (v * 10 ^ z.toNat) 0 := by
  have h := formV_tens n v z z.toNat
  rw [show z - (z.toNat : Int) = 0 by omega] at h
  exact h.symm
theorem sumN_scale (n : Bool) (X : Nat) (m : Bool) (Y c : Nat) (hc : 0 < c) : sumN n (X * c) m (Y * c) = ((sumN n X m Y).1, (sumN n X m Y).2 * c) := by
  unfold sumN
  by_cases h : n = m
  · rw [if_pos h, if_pos h, Nat.add_mul]
  · rw [if_neg h, if_neg h]
    by_cases h1 : Y ≤ X
    · rw [if_pos h1, if_pos (Nat.mul_le_mul_right c h1), Nat.sub_mul]
    · rw [if_neg h1, if_neg (fun e => h1 (Nat.le_of_mul_le_mul_right e hc)), Nat.sub_mul]
/-- a sum of ints -/
theorem add_int {a b : Int} {n m : Bool} {u v : ByteArray} {x y : Int} (ha : IntNum a n u x) (hb : IntNum b m v y) : sumV n (lvl u x y) m (lvl v y x) (min x y) = formV (decide (a + b < 0)) (a + b).natAbs 0 := by
  have hz : 0 ≤ min x y := by have := ha.x0; have := hb.x0; omega
  rw [sumV_N, tens_back _ _ _ hz]
  have e1 := lvl_scale ha hb
  have e2 := lvl_scale hb ha
  rw [show min y x = min x y by omega] at e2
  have hs := sumN_scale n (lvl u x y) m (lvl v y x) (10 ^ (min x y).toNat) (Nat.pow_pos (by decide))
  rw [e1, e2] at hs
  have h1 := congrArg Prod.fst hs
  have h2 := congrArg Prod.snd hs
  simp only at h1 h2
  rw [← h1, ← h2, ha.sign, hb.sign]
  unfold sumN
  by_cases s1 : a < 0 <;> by_cases s2 : b < 0
  · rw [decide_eq_true s1, decide_eq_true s2, if_pos rfl, decide_eq_true (show a + b < 0 by omega), show a.natAbs + b.natAbs = (a + b).natAbs by omega]
  · rw [decide_eq_true s1, decide_eq_false s2, if_neg (by decide)]
    by_cases h : b.natAbs ≤ a.natAbs
    · rw [if_pos h, show a.natAbs - b.natAbs = (a + b).natAbs by omega]
      by_cases h0 : a + b = 0
      · rw [h0]; simp only [Int.natAbs_zero, nought_form]
      · rw [decide_eq_true (show a + b < 0 by omega)]
    · rw [if_neg h, decide_eq_false (show ¬ a + b < 0 by omega), show b.natAbs - a.natAbs = (a + b).natAbs by omega]
  · rw [decide_eq_false s1, decide_eq_true s2, if_neg (by decide)]
    by_cases h : b.natAbs ≤ a.natAbs
    · rw [if_pos h, decide_eq_false (show ¬ a + b < 0 by omega), show a.natAbs - b.natAbs = (a + b).natAbs by omega]
    · rw [if_neg h, decide_eq_true (show a + b < 0 by omega), show b.natAbs - a.natAbs = (a + b).natAbs by omega]
  · rw [decide_eq_false s1, decide_eq_false s2, if_pos rfl, decide_eq_false (show ¬ a + b < 0 by omega), show a.natAbs + b.natAbs = (a + b).natAbs by omega]
end Go.Proofs.YtjjpdoabagnmoaaGreatDoor
/-
  Plain facts on multiplying column by column. No program here. No condition.
-/
namespace Go.Proofs.YtjjpdoabagnmoaaGreatDoor

/-- the number of the first columns -/
def sumP (f : Nat → Nat) : Nat → Nat
  | 0 => 0
  | k + 1 => sumP f k + f k * 10 ^ k
/-- what they carry -/
def carF (f : Nat → Nat) (k : Nat) : Nat := sumP f k / 10 ^ k
theorem carF_zero (f : Nat → Nat) : carF f 0 = 0 := by simp [carF, sumP]
theorem carF_add (f : Nat → Nat) (k : Nat) : carF f k + f k = sumP f (k + 1) / 10 ^ k := by
  unfold carF; rw [sumP, Nat.add_mul_div_right _ _ (pow_pos' k)]
theorem carF_succ (f : Nat → Nat) (k : Nat) : (carF f k + f k) / 10 = carF f (k + 1) := by
  rw [carF_add, Nat.div_div_eq_div_mul, ← Nat.pow_succ]; rfl
theorem sumP_more (f : Nat → Nat) (k : Nat) : ∀ m, ∃ q, sumP f (k + m) = sumP f k + 10 ^ k * q
  | 0 => ⟨0, by simp⟩
  | m + 1 => by
    obtain ⟨q, hq⟩ := sumP_more f k m
    refine ⟨q + f (k + m) * 10 ^ m, ?_⟩
    rw [← Nat.add_assoc, sumP, hq, Nat.mul_add, Nat.pow_add, Nat.add_assoc]
    congr 2
    rw [← Nat.mul_assoc, ← Nat.mul_assoc, Nat.mul_comm (f (k + m))]
theorem carF_dgt {f : Nat → Nat} {k n : Nat} (h : k < n) : (carF f k + f k) % 10 = dgt (sumP f n) k := by
  rw [carF_add]
  show dgt (sumP f (k + 1)) k = _
  obtain ⟨q, hq⟩ := sumP_more f (k + 1) (n - (k + 1))
  rw [show k + 1 + (n - (k + 1)) = n by omega] at hq
  exact dgt_mod _ _ _ (by rw [hq, Nat.add_mul_mod_self_left])
theorem carF_le {f : Nat → Nat} {F : Nat} (h : ∀ j, f j ≤ F) : ∀ k, carF f k ≤ F
  | 0 => by rw [carF_zero]; omega
  | k + 1 => by
    have h1 := carF_le h k
    have h2 := h k
    rw [← carF_succ]
    omega
theorem sumP_add (f g : Nat → Nat) : ∀ n, sumP (fun j => f j + g j) n = sumP f n + sumP g n
  | 0 => rfl
  | n + 1 => by
    rw [sumP, sumP, sumP, sumP_add f g n, Nat.add_mul]; omega
theorem sumP_nil : ∀ n, sumP (fun _ => 0) n = 0
  | 0 => rfl
  | n + 1 => by rw [sumP, sumP_nil n]; simp

/-- the sum of the products of digits whose places add up to j, the first i places of a taken -/
def col (a b : Nat) : Nat → Nat → Nat
  | 0, _ => 0
  | i + 1, j => col a b i j + (if i ≤ j then dgt a i * dgt b (j - i) else 0)

theorem col_succ (a b i j : Nat) : col a b (i + 1) j = col a b i j + (if i ≤ j then dgt a i * dgt b (j - i) else 0) := rfl
theorem sumP_shift (x b i : Nat) : ∀ n, sumP (fun j => if i ≤ j then x * dgt b (j - i) else 0) n = if i ≤ n then x * 10 ^ i * (b % 10 ^ (n - i)) else 0
  | 0 => by
    by_cases h : i ≤ 0
    · rw [if_pos h]; simp [sumP, Nat.mod_one]
    · rw [if_neg h]; rfl
  | n + 1 => by
    rw [sumP, sumP_shift x b i n]
    by_cases h : i ≤ n
    · rw [if_pos h, if_pos h, if_pos (by omega), show n + 1 - i = (n - i) + 1 by omega, mod_succ]
      have e : 10 ^ n = 10 ^ i * 10 ^ (n - i) := by rw [← Nat.pow_add]; congr 1; omega
      rw [e, Nat.mul_add]
      congr 1
      rw [Nat.mul_assoc, Nat.mul_assoc, Nat.mul_comm (dgt b (n - i)), Nat.mul_assoc]
    · rw [if_neg h, if_neg h]
      by_cases h2 : i ≤ n + 1
      · rw [if_pos h2, show n + 1 - i = 0 by omega]; simp [Nat.mod_one]
      · rw [if_neg h2]; simp
theorem sumP_col {a b n lb : Nat} (hb : b < 10 ^ lb) : ∀ i, i + lb ≤ n → sumP (col a b i) n = (a % 10 ^ i) * b
  | 0, _ => by
    have e : col a b 0 = fun _ => 0 := rfl
    rw [e, sumP_nil]; simp [Nat.mod_one]
  | i + 1, h => by
    have e : col a b (i + 1) = fun j => col a b i j + (if i ≤ j then dgt a i * dgt b (j - i) else 0) := rfl
    have hb' : b < 10 ^ (n - i) := Nat.lt_of_lt_of_le hb (Nat.pow_le_pow_right (by omega) (by omega))
    rw [e, sumP_add, sumP_col hb i (by omega), sumP_shift, if_pos (by omega), Nat.mod_eq_of_lt hb', mod_succ, Nat.add_mul, Nat.mul_comm (dgt a i)]
theorem sumP_all {a b n la lb : Nat} (ha : a < 10 ^ la) (hb : b < 10 ^ lb) (h : la + lb ≤ n) : sumP (col a b la) n = a * b := by
  rw [sumP_col hb la h, Nat.mod_eq_of_lt ha]
theorem dgt_mul_le (a b i j : Nat) : dgt a i * dgt b j ≤ 81 := by
  have h1 := dgt_lt a i
  have h2 := dgt_lt b j
  exact Nat.le_trans (Nat.mul_le_mul (show _ ≤ 9 by omega) (show _ ≤ 9 by omega)) (by omega)
theorem col_le (a b : Nat) : ∀ i j, col a b i j ≤ 81 * i
  | 0, _ => Nat.le_refl _
  | i + 1, j => by
    have h := col_le a b i j
    have h2 := dgt_mul_le a b i (j - i)
    unfold col
    split <;> omega

/-- .. and k places of b of the next place of a -/
def colK (a b i k j : Nat) : Nat := col a b i j + (if i ≤ j ∧ j < i + k then dgt a i * dgt b (j - i) else 0)
theorem colK_zero (a b i j : Nat) : colK a b i 0 j = col a b i j := by
  unfold colK; rw [if_neg (by omega)]; rfl
theorem colK_at (a b i k : Nat) : colK a b i k (i + k) + dgt a i * dgt b k = colK a b i (k + 1) (i + k) := by
  unfold colK
  rw [if_neg (by omega), if_pos (by omega), show i + k - i = k by omega]; omega
theorem colK_off {a b i k j : Nat} (h : j ≠ i + k) : colK a b i k j = colK a b i (k + 1) j := by
  unfold colK
  by_cases h1 : i ≤ j ∧ j < i + k
  · rw [if_pos h1, if_pos (by omega)]
  · rw [if_neg h1, if_neg (by omega)]
theorem colK_end {a b i lb j : Nat} (hb : b < 10 ^ lb) : colK a b i lb j = col a b (i + 1) j := by
  rw [col_succ]
  unfold colK
  by_cases h : i ≤ j
  · rw [if_pos h]
    by_cases h2 : j < i + lb
    · rw [if_pos ⟨h, h2⟩]
    · rw [if_neg (by omega), dgt_over (v := b) (i := j - i) (Nat.lt_of_lt_of_le hb (Nat.pow_le_pow_right (by omega) (by omega)))]; simp
  · rw [if_neg (by omega), if_neg h]
theorem colK_le (a b i k j : Nat) : colK a b i k j ≤ 81 * (i + 1) := by
  have h := col_le a b i j
  have h2 := dgt_mul_le a b i (j - i)
  unfold colK
  split <;> omega
theorem mul_lt_pow {a b la lb n : Nat} (ha : a < 10 ^ la) (hb : b < 10 ^ lb) (h : la + lb ≤ n) : a * b < 10 ^ n := by
  have h1 : a * b < 10 ^ la * 10 ^ lb := Nat.mul_lt_mul'' ha hb
  rw [← Nat.pow_add] at h1
  exact Nat.lt_of_lt_of_le h1 (Nat.pow_le_pow_right (by omega) h)
end Go.Proofs.YtjjpdoabagnmoaaGreatDoor
/-
  The contract of multiplying naturals, the program's: the row of the product. Conditions: rows of digits, no longer than 4096.
-/
namespace Go.Proofs.YtjjpdoabagnmoaaGreatDoor
open Go.RowKit
set_option linter.unusedVariables false
set_option linter.unusedSimpArgs false

theorem infoInts : (Tryz.prog.info? 3).map (fun i => (i.zero, i.size, i.bytes)) = some (some (.int .i64 0), 1, 8) := by kernel_rfl
theorem makeInts (n : Nat) (hn : n ≤ 1099511627776) (u : World) : (Instr.makeSlice 36 (.int .i64 (n : Int)) (.int .i64 (n : Int))).run Tryz.prog u =
      .ok (.slice (some ⟨u.heap.size, 0, none⟩) n n) (u.alloc (.cells (madeCells #[.int .i64 0] n) 3)) := by
  obtain ⟨i0, hi, hz0, hz1, hz2⟩ := info_parts infoInts
  have h := run_make (P := Tryz.prog) u 36 3 i0 (.int .i64 0) Tryz.underlying36 hi hz0 .i64 .i64 (n : Int) (n : Int) (by omega) (Int.le_refl _) (by rw [hz2]; omega) (by omega)
  simpa [hz1, Value.cells] using h
theorem fillInts (w : World) (n : Nat) : Fill w (w.alloc (.cells (madeCells #[.int .i64 0] n) 3)) w.heap.size n (fun _ => .int .i64 0) := by
  have hF := Fill.made w w (Below.refl _ _) (madeCells #[.int .i64 0] n) 3 (fun _ => .int .i64 0) (fun j hj => madeBytes_get _ _ _ (by simpa [size_madeCells] using hj))
  rw [size_madeCells] at hF
  exact hF

set_option maxRecDepth 10000 in
set_option maxHeartbeats 1000000 in
theorem natMul_any (s t : ByteArray) (w : World) (hs : (bs s).all isDig = true) (ht : (bs t).all isDig = true) (hs' : s.size ≤ 4096) (ht' : t.size ≤ 4096) :
    Calls Tryz.prog 84 #[.string s, .string t] w fun e w' => e = .returned (.string (ofL (dec (val (bs s) * val (bs t))))) ∧ Below w.heap.size w w' := by
  obtain ⟨n, hn⟩ : ∃ n : Nat, n = s.size + t.size := ⟨_, rfl⟩
  have hmk := makeInts n (by omega) w
  have HF := Lib.hid (fillInts w n)
  have HS := Lib.hid hs
  have HT := Lib.hid ht
  obtain ⟨A, hA⟩ : ∃ A, val (bs s) = A := ⟨_, rfl⟩
  obtain ⟨B, hB⟩ : ∃ B, val (bs t) = B := ⟨_, rfl⟩
  have hA' := val_lt (bs s) hs
  have hB' := val_lt (bs t) ht
  rw [bs_length, hA] at hA'
  rw [bs_length, hB] at hB'
  have HA := Lib.hid hA
  have HB := Lib.hid hB
  have HLA := Lib.hid hA'
  have HLB := Lib.hid hB'
  have HLT := Lib.hid (mul_lt_pow hA' hB' (Nat.le_of_eq hn.symm))
  have HPR := Lib.hid (sumP_all hA' hB' (Nat.le_of_eq hn.symm))
  rw [hA, hB]
  clear hs ht hA hB hA' hB'
  have hadd : ((s.size : Int) + (t.size : Int)) = (n : Int) := by omega
  have hn1 : n ≤ 8192 := by omega
  have HN := Lib.hid hn
  clear hn
  go_enter Tryz.func84, Tryz.ntmps84
  go_wp2
  clear hmk hadd
  go_loopw [20] (fun i wr => ∃ k : Nat, k ≤ s.size ∧ i = .int .i64 k ∧ Fill w wr w.heap.size n (fun j => .int .i64 (col A B k j : Nat))) (fun i _ => s.size - (intOf i).toNat)
  case atStart =>
    exact ⟨0, Nat.zero_le _, rfl, HF.out⟩
  case round =>
    obtain ⟨i, hi, rfl, hfill⟩ := hrel
    have HI := Lib.hid hfill
    clear hfill
    by_cases hlt : i < s.size
    · go_wp2
      go_loopw [25] (fun q wr2 => ∃ k : Nat, k ≤ t.size ∧ q = .int .i64 k ∧ Fill w wr2 w.heap.size n (fun j => .int .i64 (colK A B i k j : Nat))) (fun q _ => t.size - (intOf q).toNat)
      case atStart =>
        exact ⟨0, Nat.zero_le _, rfl, HI.out.congr (fun j _ => by rw [colK_zero])⟩
      case round =>
        obtain ⟨k, hk, rfl, hfill⟩ := hrel
        have HJ := Lib.hid hfill
        clear hfill
        by_cases hlt2 : k < t.size
        · have hin : i + k < n := by have := HN.out; omega
          have hs0 := HJ.out.cell (i + k) (by omega)
          have hf0 := HJ.out.free (i + k) (by omega)
          have hp0 : 0 ≤ (i : Int) + (k : Int) := by omega
          have hp1 : (i : Int) + (k : Int) < (n : Int) := by omega
          have hpt : ((i : Int) + (k : Int)).toNat = i + k := by omega
          have d1 := dgt_lt A i
          have d2 := dgt_lt B k
          have d3 := colK_le A B i k (i + k)
          have d4 := dgt_mul_le A B i k
          have hcat := colK_at A B i k
          have HCA : ∀ v, Calls Tryz.prog 113 #[.string s, .int .i64 (i : Int)] v fun e w' => e = .returned (.int .i64 (dgt A i : Nat)) ∧ w' = v := fun v => by rw [← HA.out]; exact digitAt_any s i v HS.out (by omega) (by omega)
          have HCB : ∀ v, Calls Tryz.prog 113 #[.string t, .int .i64 (k : Int)] v fun e w' => e = .returned (.int .i64 (dgt B k : Nat)) ∧ w' = v := fun v => by rw [← HB.out]; exact digitAt_any t k v HT.out (by omega) (by omega)
          obtain ⟨x, hx⟩ : ∃ x, dgt A i = x := ⟨_, rfl⟩
          obtain ⟨y, hy⟩ : ∃ y, dgt B k = y := ⟨_, rfl⟩
          obtain ⟨z, hz⟩ : ∃ z, colK A B i k (i + k) = z := ⟨_, rfl⟩
          obtain ⟨z', hz'⟩ : ∃ z', colK A B i (k + 1) (i + k) = z' := ⟨_, rfl⟩
          rw [hx] at HCA d1 d4 hcat
          rw [hy] at HCB d2 d4 hcat
          rw [hz] at d3 hcat hs0
          rw [hz'] at hcat
          obtain ⟨p, hp⟩ : ∃ p, x * y = p := ⟨_, rfl⟩
          have hwm : IntKind.i64.wrap ((x : Int) * (y : Int)) = (p : Int) := by
            have e : (x : Int) * (y : Int) = (p : Int) := by rw [← hp]; exact (Int.natCast_mul x y).symm
            rw [e]; exact IntWalk.i64_in _ (by omega)
          have hwz : IntKind.i64.wrap ((z : Int) + (p : Int)) = (z' : Int) := by
            rw [IntWalk.i64_in _ (by omega)]; omega
          have hwp : IntKind.i64.wrap ((i : Int) + (k : Int)) = (i : Int) + (k : Int) := IntWalk.i64_in _ (by omega)
          have HCA' := Lib.hid HCA
          have HCB' := Lib.hid HCB
          have HZ' := Lib.hid hz'
          clear HCA HCB hz hz' hx hy hp hcat d1 d2 d3 d4
          go_wp2
          refine wp_region_still_tail 15 (by kernel_rfl) (by kernel_rfl) ?_
          simp only [List.take_succ_cons, List.take_zero, List.drop_succ_cons, List.drop_zero]
          iterate 8 still_step
          still_call (HCA'.out _)
          iterate 2 still_step
          still_call (HCB'.out _)
          iterate 3 still_step
          refine wpStill_nil ?_
          change wpList _ _ _ _ _ wr.drew
          have HK := Lib.hid HJ.out.drew
          have hlow := HJ.out.hi
          clear hs0 hf0 HJ
          generalize wr.drew = wd at HK ⊢
          have hs0 := HK.out.cell (i + k) hin
          have hf0 := HK.out.free (i + k) hin
          go_wp2
          refine ⟨⟨k + 1, by omega, by go_num, ?_⟩, by simp [intOf]; omega⟩
          refine (HK.out.store (j := i + k) hin _).congr ?_
          intro j hj
          by_cases e : j = i + k
          · rw [if_pos e, e, HZ'.out]
          · rw [if_neg e, colK_off e]
        · obtain rfl : k = t.size := by omega
          go_wp2
          refine ⟨⟨i + 1, by omega, by go_num, HJ.out.congr (fun j _ => by rw [colK_end HLB.out])⟩, by simp [intOf]; omega⟩
    · obtain rfl : i = s.size := by omega
      rename World => wa
      have hlow := HI.out.hi
      have HB0 := Lib.hid HI.out.below
      have HCELL := Lib.hid HI.out.cell
      have hmk2 := makeBytes n (by omega) wa
      have HF2 := Lib.hid (fillBytes wa n)
      go_wp2
      clear hmk2
      have hn2 : n ≤ n := Nat.le_refl n
      have HDG : ∀ k, k < n → (carF (col A B s.size) k + col A B s.size k) % 10 = dgt (A * B) k := fun k hk => by rw [carF_dgt hk, HPR.out]
      have HDG' := Lib.hid HDG
      have HCL := Lib.hid (carF_le (col_le A B s.size))
      have HCO := Lib.hid (col_le A B s.size)
      clear HDG HS HT HF HI
      obtain ⟨base, hbase⟩ : ∃ b, w.heap.size = b := ⟨_, rfl⟩
      rw [hbase] at hlow HCELL ⊢
      have HBASE := Lib.hid hbase
      clear hbase
      go_loopw [9, 50] (fun c i wr2 => ∃ k : Nat, k ≤ n ∧ i = .int .i64 k ∧ c = .int .i64 (carF (col A B s.size) k : Nat) ∧ Fill wa wr2 wa.heap.size n (fun j => if n - k ≤ j then .int .u8 (48 + (dgt (A * B) (n - 1 - j) : Nat)) else .int .u8 0)) (fun _ i _ => n - (intOf i).toNat)
      case atStart =>
        refine ⟨0, Nat.zero_le _, rfl, by rw [carF_zero]; rfl, HF2.out.congr (fun j hj => ?_)⟩
        rw [if_neg (by omega)]
      case round =>
        obtain ⟨k, hk, rfl, rfl, hfill⟩ := hrel
        have HJ := Lib.hid hfill
        clear hfill
        have hcar := HCL.out k
        have hcol := HCO.out k
        have hHCs := HF2.out.lo
        by_cases hlt3 : k < n
        · have HS1 := Lib.hid (carF_succ (col A B s.size) k)
          have HD1 := Lib.hid (HDG'.out k hlt3)
          have hcl : wr.cell? ⟨base, k, none⟩ = some (.int .i64 (col A B s.size k : Nat)) := by
            rw [HJ.out.below.cell (p := ⟨base, k, none⟩) hlow]; exact HCELL.out k hlt3
          obtain ⟨c, hc⟩ : ∃ c, carF (col A B s.size) k = c := ⟨_, rfl⟩
          obtain ⟨x, hx⟩ : ∃ x, col A B s.size k = x := ⟨_, rfl⟩
          rw [hc] at hcar ⊢
          rw [hx] at hcol hcl
          have HC := Lib.hid hc
          have HX := Lib.hid hx
          clear hc hx
          have hs0 := HJ.out.cell (n - 1 - k) (by omega)
          have hf0 := HJ.out.free (n - 1 - k) (by omega)
          rw [if_neg (by omega)] at hs0
          have ht0 : ((n : Int) - 1 - (k : Int)).toNat = n - 1 - k := by omega
          have ht1 : 0 ≤ (n : Int) - 1 - (k : Int) := by omega
          have ht2 : (n : Int) - 1 - (k : Int) < (n : Int) := by omega
          have hkn : (k : Int) < (n : Int) := by omega
          have hd0 : 0 ≤ ((c : Int) + (x : Int)) / 10 := by omega
          have hd1 : ((c : Int) + (x : Int)) / 10 ≤ 100000 := by omega
          have hm0 : 0 ≤ ((c : Int) + (x : Int)) % 10 := by omega
          have hm1 : ((c : Int) + (x : Int)) % 10 ≤ 9 := by omega
          go_wp2
          have e4 := HS1.out
          have e5 := HD1.out
          rw [HC.out, HX.out] at e4 e5
          refine ⟨⟨k + 1, by omega, by go_num, by rw [← e4]; congr 1, ?_⟩, by simp [intOf]; omega⟩
          refine (HJ.out.store (j := n - 1 - k) (by omega) _).congr ?_
          intro j hj
          by_cases e : j = n - 1 - k
          · rw [if_pos e, if_pos (by omega), e, show n - 1 - (n - 1 - k) = k by omega, ← e5]
            congr 1
          · rw [if_neg e]
            by_cases e1 : n - k ≤ j
            · rw [if_pos e1, if_pos (by omega)]
            · rw [if_neg e1, if_neg (by omega)]
        · obtain rfl : k = n := by omega
          have hconv := textOfDigs (cap := k) (HJ.out.congr (fun j hj => if_pos (by omega)))
          have HTD := Lib.hid (trimZ_digs HLT.out)
          have HBB := Lib.hid (HB0.out.trans (HJ.out.below.mono (by have := HBASE.out; omega)))
          go_wp2_with fail
          refine (trimNat_any _ _).mono ?_
          rintro e w1 ⟨rfl, rfl⟩
          go_wp2
          go_ret
          refine ⟨ret_str ?_, ?_⟩
          · rw [bs_ofL, HTD.out]
          · exact HBB.out
end Go.Proofs.YtjjpdoabagnmoaaGreatDoor
/-
  The contract of impl.decMul. Condition: numbers in form.
-/
namespace Go.Proofs.YtjjpdoabagnmoaaGreatDoor
open Go.RowKit
set_option linter.unusedVariables false
set_option linter.unusedSimpArgs false

/-- a product -/
def mulV (n : Bool) (s : ByteArray) (x : Int) (m : Bool) (t : ByteArray) (y : Int) : Value := formV (n != m) (val (bs s) * val (bs t)) (x + y)

set_option maxRecDepth 10000 in
set_option maxHeartbeats 1000000 in
theorem decMul_any (n : Bool) (s : ByteArray) (x : Int) (m : Bool) (t : ByteArray) (y : Int) (w : World) (h1 : decOk n (bs s) x = true) (h2 : decOk m (bs t) y = true) :
    Calls Tryz.prog 49 #[.agg #[.bool n, .string s, .int .i64 x], .agg #[.bool m, .string t, .int .i64 y]] w fun e w' => e = .returned (mulV n s x m t y) ∧ Below w.heap.size w w' := by
  obtain ⟨a1, a2, a3, a4, a5, a6, a7, -, -⟩ := dec_facts h1
  obtain ⟨b1, b2, b3, b4, b5, b6, b7, -, -⟩ := dec_facts h2
  have hA := dec_mul_len (val (bs s)) (val (bs t))
  have hA1 := dec_len_le 20 _ (by decide) (val_20 h1)
  have hB1 := dec_len_le 20 _ (by decide) (val_20 h2)
  obtain ⟨n', u, y', c, hV, -, -, -⟩ := formV_lit (n != m) (val (bs s) * val (bs t)) (x + y)
  have hM := Lib.hid (fun w => by
    have := natMul_any (dg s) (dg t) w a4.dig b4.dig (by omega) (by omega)
    rw [a5, b5] at this
    exact this : ∀ w : World, Calls Tryz.prog 84 #[.string (dg s), .string (dg t)] w fun e w' => e = .returned (.string (ofL (dec (val (bs s) * val (bs t))))) ∧ Below w.heap.size w w')
  have hN := Lib.hid (fun w => by
    have := normal_dec (n != m) (val (bs s) * val (bs t)) (x + y) w (by omega) (by omega) (by omega)
    rw [hV] at this
    exact this : ∀ w : World, Calls Tryz.prog 47 #[.bool (n != m), .string (ofL (dec (val (bs s) * val (bs t)))), .int .i64 (x + y)] w fun e w' => e = .returned (.tuple #[.agg #[.bool n', .string u, .int .i64 y'], .int .i64 c]) ∧ Below w.heap.size w w')
  have wx : IntKind.i64.wrap (x + y) = x + y := IntWalk.i64_in _ (by omega)
  unfold mulV
  rw [hV]
  clear h1 h2 a4 b4 a5 b5 hA hA1 hB1 hV
  go_enter Tryz.func49, Tryz.ntmps49
  go_wp2_with fail
  obtain ⟨w0, hw0, hz0, hb0, hc0, hr0⟩ := three_laid w n s x m t y
  rw [hw0]
  clear hw0
  have hn0 : ¬ (w.heap.size = w.heap.size + 1 + 1) := by omega
  have hn1 : ¬ (w.heap.size + 1 + 1 = w.heap.size) := by omega
  go_region_held3 (fun w' => w'.cell? ⟨w.heap.size, 0, none⟩ = some (.bool n) ∧ w'.cell? ⟨w.heap.size, 1, none⟩ = some (.string s) ∧ w'.cell? ⟨w.heap.size, 2, none⟩ = some (.int .i64 x) ∧ w'.cell? ⟨w.heap.size + 1, 0, none⟩ = some (.bool m) ∧ w'.cell? ⟨w.heap.size + 1, 1, none⟩ = some (.string t) ∧ w'.cell? ⟨w.heap.size + 1, 2, none⟩ = some (.int .i64 y)) (first | assumption | go_keep)
    (first
      | (go_at_call 85; refine (digits_any _ _ _ _).mono ?_; rintro e w1 ⟨rfl, hb1⟩; obtain ⟨hv1, hz1, hc1, hr1⟩ := three_kept hb1 (by assumption) (v := w) (by first | assumption | exact Below.drew (by assumption)) (by assumption) (by assumption); clear hb1)
      | (go_at_call 84; refine (hM.out _).mono ?_; rintro e w1 ⟨rfl, hb1⟩; obtain ⟨hv1, hz1, hc1, hr1⟩ := three_kept hb1 (by assumption) (v := w) (by first | assumption | exact Below.drew (by assumption)) (by assumption) (by assumption); clear hb1)
      | (go_at_call 47; refine (hN.out _).mono ?_; rintro e w1 ⟨rfl, hb1⟩; obtain ⟨hv1, hz1, hc1, hr1⟩ := three_kept hb1 (by assumption) (v := w) (by first | assumption | exact Below.drew (by assumption)) (by assumption) (by assumption); clear hb1))
  clear hM hN
  go_wp2
  refine bodyPost_ret (v := .tuple #[.agg #[.bool n', .string u, .int .i64 y'], .int .i64 c]) (by simp [results, Tryz.results49, go_sem, *]) rfl ?_
  exact ⟨rfl, set_three (by assumption) (by omega) _ _ _⟩
end Go.Proofs.YtjjpdoabagnmoaaGreatDoor
/-
  Plain facts on dividing place by place. No program here. No condition.
-/
namespace Go.Proofs.YtjjpdoabagnmoaaGreatDoor

theorem div_step {A B m : Nat} (hB : 0 < B) :
    (10 * (A / 10 ^ (m + 1) % B) + dgt A m) / B = dgt (A / B) m ∧ (10 * (A / 10 ^ (m + 1) % B) + dgt A m) % B = A / 10 ^ m % B ∧ 10 * (A / 10 ^ (m + 1) % B) + dgt A m < 10 * B := by
  have e0 : A / B / 10 ^ m = A / 10 ^ m / B := by rw [Nat.div_div_eq_div_mul, Nat.div_div_eq_div_mul, Nat.mul_comm]
  have e1 : dgt (A / B) m = A / 10 ^ m / B % 10 := by unfold dgt; rw [e0]
  have e2 : dgt A m = A / 10 ^ m % 10 := rfl
  rw [e1, e2, dgt_div]
  generalize A / 10 ^ m = X
  have h1 := Nat.mod_lt (X / 10) hB
  have h2 := Nat.div_add_mod (X / 10) B
  obtain ⟨q, hq⟩ : ∃ q, X / 10 / B = q := ⟨_, rfl⟩
  obtain ⟨r, hr⟩ : ∃ r, X / 10 % B = r := ⟨_, rfl⟩
  rw [hq, hr] at h2
  rw [hr] at h1 ⊢
  have h3 : X = (10 * r + X % 10) + B * (10 * q) := by
    have : B * (10 * q) = 10 * (B * q) := by rw [Nat.mul_left_comm]
    omega
  have h4 : 10 * r + X % 10 < 10 * B := by omega
  have h5 : (10 * r + X % 10) / B < 10 := by rw [Nat.div_lt_iff_lt_mul hB]; omega
  refine ⟨?_, ?_, h4⟩
  · have h6 : X / B = (10 * r + X % 10) / B + 10 * q := by
      conv => lhs; rw [h3]
      rw [Nat.add_mul_div_left _ _ hB]
    rw [h6]
    generalize (10 * r + X % 10) / B = u at h5
    omega
  · conv => rhs; rw [h3]
    rw [Nat.add_mul_mod_self_left]

theorem dec_len_lt {x B lb : Nat} (hB : B < 10 ^ lb) (h : x < 10 * B) : (dec x).length ≤ lb + 1 :=
  dec_len_le (lb + 1) x (by omega) (by rw [Nat.pow_succ]; omega)
theorem val_snoc_dec (r : Nat) (c : UInt8) : val (dec r ++ [c]) = 10 * r + (c.toNat - 48) := by rw [val_snoc, val_dec]
/-- the rest and one more digit, trimmed -/
theorem trim_snoc (r : Nat) (c : UInt8) (hc : isDig c = true) : trimZ (dec r ++ [c]) = dec (10 * r + (c.toNat - 48)) := by
  rw [trimZ_dec _ (by rw [List.all_append, dec_all, List.all_cons, hc]; rfl), val_snoc_dec]
/-- what is left behind d times -/
theorem left_div {R B d : Nat} (hB : 0 < B) (h : B * d ≤ R) (h2 : R - B * d < B) : d = R / B ∧ R - B * d = R % B := by
  have e : R = (R - B * d) + B * d := by omega
  constructor
  · conv => rhs; rw [e]
    rw [Nat.add_mul_div_left _ _ hB, Nat.div_eq_of_lt h2]; omega
  · conv => rhs; rw [e]
    rw [Nat.add_mul_mod_self_left, Nat.mod_eq_of_lt h2]
theorem left_more {R B d : Nat} (h : B * d ≤ R) (h2 : B ≤ R - B * d) : B * (d + 1) ≤ R ∧ R - B * d - B = R - B * (d + 1) := by
  rw [Nat.mul_succ]; omega
theorem left_nine {R B d : Nat} (h : R < 10 * B) (h1 : B * d ≤ R) : d ≤ 9 := by
  have h2 : B * d < B * 10 := by omega
  have := Nat.lt_of_mul_lt_mul_left h2
  omega
end Go.Proofs.YtjjpdoabagnmoaaGreatDoor
/-
  The contract of taking away, the program's: the row of the difference. Conditions: rows of digits, no longer than 2 to the 39; the second number is not greater.
-/
namespace Go.Proofs.YtjjpdoabagnmoaaGreatDoor
open Go.RowKit
set_option linter.unusedVariables false
set_option linter.unusedSimpArgs false

set_option maxHeartbeats 1000000 in
theorem natSub_any (s t : ByteArray) (w : World) (hs : (bs s).all isDig = true) (ht : (bs t).all isDig = true) (hs' : s.size ≤ 549755813888) (ht' : t.size ≤ 549755813888) (hle : val (bs t) ≤ val (bs s)) :
    Calls Tryz.prog 83 #[.string s, .string t] w fun e w' => e = .returned (.string (ofL (dec (val (bs s) - val (bs t))))) ∧ Below w.heap.size w w' := by
  have hmk := makeBytes s.size (by omega)
  have HF := Lib.hid (fillBytes w s.size)
  have HS := Lib.hid hs
  have HT := Lib.hid ht
  have HLE := Lib.hid hle
  have hA := val_lt (bs s) hs
  rw [bs_length] at hA
  have HLT := Lib.hid (show val (bs s) - val (bs t) < 10 ^ s.size by omega)
  clear hs ht hA hle
  go_enter Tryz.func83, Tryz.ntmps83
  go_wp2
  clear hmk
  go_loopw [7, 15] (fun c i wr => ∃ k : Nat, k ≤ s.size ∧ i = .int .i64 k ∧ c = .int .i64 (owe (val (bs s)) (val (bs t)) k : Nat) ∧ Fill w wr w.heap.size s.size (fun j => if s.size - k ≤ j then .int .u8 (48 + (dgt (val (bs s) - val (bs t)) (s.size - 1 - j) : Nat)) else .int .u8 0)) (fun _ i _ => s.size - (intOf i).toNat)
  case atStart =>
    refine ⟨0, Nat.zero_le _, rfl, by rw [owe_zero]; rfl, HF.out.congr (fun j hj => ?_)⟩
    rw [if_neg (by omega)]
  case round =>
    obtain ⟨k, hk, rfl, rfl, hfill⟩ := hrel
    have HI := Lib.hid hfill
    clear hfill
    obtain ⟨A, hA⟩ : ∃ A, val (bs s) = A := ⟨_, rfl⟩
    obtain ⟨B, hB⟩ : ∃ B, val (bs t) = B := ⟨_, rfl⟩
    rw [hA, hB] at HI ⊢
    have HA := Lib.hid hA
    have HB := Lib.hid hB
    clear hA hB
    by_cases hlt : k < s.size
    · have c1 := owe_le A B k
      have c2 := dgt_lt A k
      have c3 := dgt_lt B k
      have HC4 := Lib.hid (owe_step A B k (by rw [← HA.out, ← HB.out]; exact HLE.out))
      obtain ⟨c, hc⟩ : ∃ c, owe A B k = c := ⟨_, rfl⟩
      obtain ⟨x, hx⟩ : ∃ x, dgt A k = x := ⟨_, rfl⟩
      obtain ⟨y, hy⟩ : ∃ y, dgt B k = y := ⟨_, rfl⟩
      rw [hc] at c1 ⊢
      rw [hx] at c2
      rw [hy] at c3
      have HC := Lib.hid hc
      have HX := Lib.hid hx
      have HY := Lib.hid hy
      clear hc hx hy
      have hs0 := HI.out.cell (s.size - 1 - k) (by omega)
      have hf0 := HI.out.free (s.size - 1 - k) (by omega)
      rw [if_neg (by omega)] at hs0
      have ht0 : ((s.size : Int) - 1 - (k : Int)).toNat = s.size - 1 - k := by omega
      have ht1 : 0 ≤ (s.size : Int) - 1 - (k : Int) := by omega
      have ht2 : (s.size : Int) - 1 - (k : Int) < (s.size : Int) := by omega
      have hkn : (k : Int) < (s.size : Int) := by omega
      by_cases hbor : y + c ≤ x
      · have hbi : 0 ≤ (x : Int) - (y : Int) - (c : Int) := by omega
        have hbor' := hbor
        go_wp2_with fail
        refine (digitAt_any s k _ HS.out (by omega) (by omega)).mono ?_
        rintro e w1 ⟨rfl, hw1⟩
        obtain rfl : wr = w1 := hw1.symm
        rw [HA.out, HX.out]
        go_wp2_with fail
        refine (digitAt_any t k _ HT.out (by omega) (by omega)).mono ?_
        rintro e w2 ⟨rfl, hw2⟩
        obtain rfl : wr = w2 := hw2.symm
        rw [HB.out, HY.out]
        clear hw1 hw2
        go_wp2
        have e4 := HC4.out
        rw [HC.out, HX.out, HY.out] at e4
        obtain ⟨e5, e6⟩ := e4.1 hbor'
        refine ⟨⟨k + 1, by omega, by go_num, by rw [e5]; rfl, ?_⟩, by simp [intOf]; omega⟩
        refine (HI.out.store (j := s.size - 1 - k) (by omega) _).congr ?_
        intro j hj
        by_cases e : j = s.size - 1 - k
        · rw [if_pos e, if_pos (by omega), e, show s.size - 1 - (s.size - 1 - k) = k by omega, e6]
          congr 1
          omega
        · rw [if_neg e]
          by_cases e1 : s.size - k ≤ j
          · rw [if_pos e1, if_pos (by omega)]
          · rw [if_neg e1, if_neg (by omega)]
      · have hbi : (x : Int) - (y : Int) - (c : Int) < 0 := by omega
        have hbor' : x < y + c := by omega
        go_wp2_with fail
        refine (digitAt_any s k _ HS.out (by omega) (by omega)).mono ?_
        rintro e w1 ⟨rfl, hw1⟩
        obtain rfl : wr = w1 := hw1.symm
        rw [HA.out, HX.out]
        go_wp2_with fail
        refine (digitAt_any t k _ HT.out (by omega) (by omega)).mono ?_
        rintro e w2 ⟨rfl, hw2⟩
        obtain rfl : wr = w2 := hw2.symm
        rw [HB.out, HY.out]
        clear hw1 hw2
        go_wp2
        have e4 := HC4.out
        rw [HC.out, HX.out, HY.out] at e4
        obtain ⟨e5, e6⟩ := e4.2 hbor'
        refine ⟨⟨k + 1, by omega, by go_num, by rw [e5]; rfl, ?_⟩, by simp [intOf]; omega⟩
        refine (HI.out.store (j := s.size - 1 - k) (by omega) _).congr ?_
        intro j hj
        by_cases e : j = s.size - 1 - k
        · rw [if_pos e, if_pos (by omega), e, show s.size - 1 - (s.size - 1 - k) = k by omega, e6]
          congr 1
          omega
        · rw [if_neg e]
          by_cases e1 : s.size - k ≤ j
          · rw [if_pos e1, if_pos (by omega)]
          · rw [if_neg e1, if_neg (by omega)]
    · obtain rfl : k = s.size := by omega
      have hconv := textOfDigs (cap := s.size) (HI.out.congr (fun j hj => if_pos (by omega)))
      have HTD := Lib.hid (trimZ_digs HLT.out)
      go_wp2_with fail
      refine (trimNat_any _ _).mono ?_
      rintro e w1 ⟨rfl, rfl⟩
      go_wp2
      go_ret
      refine ⟨ret_str ?_, HI.out.below⟩
      rw [bs_ofL, ← HA.out, ← HB.out, HTD.out]
end Go.Proofs.YtjjpdoabagnmoaaGreatDoor
/-
  The contract of dividing naturals, the program's: the quotient's row and the rest's. Conditions: a row of digits and a canonical row that is not 0, no longer than 2 to the 38.
-/
namespace Go.Proofs.YtjjpdoabagnmoaaGreatDoor
open Go.RowKit
set_option linter.unusedVariables false
set_option linter.unusedSimpArgs false

theorem bs_one (s : ByteArray) (k : Nat) (h : k < s.size) : bs (s.extract k (k + 1)) = [s[k]] := by
  show (s.extract k (k + 1)).data.toList = _
  rw [Lib.extract_data, show s.data.toList = bs s from rfl, bs_drop s k h, show k + 1 - k = 1 by omega, List.take_succ_cons, List.take_zero]
theorem bs_snoc (l : List UInt8) (s : ByteArray) (k : Nat) (h : k < s.size) : bs (ofL l ++ s.extract k (k + 1)) = l ++ [s[k]] := by
  rw [bs_app, bs_one s k h, bs_ofL]
theorem Fill.on {w wa w1 : World} {g n : Nat} {f : Nat → Value} (h : Fill w wa g n f) (hb : Below wa.heap.size wa w1) : Fill w w1 g n f :=
  ⟨h.below.trans (hb.mono h.below.size), h.lo, Nat.lt_of_lt_of_le h.hi hb.size, fun j hj => by rw [hb.cell (p := ⟨g, j, none⟩) h.hi]; exact h.cell j hj, fun j hj => by rw [hb.frozen (p := ⟨g, j, none⟩) h.hi]; exact h.free j hj⟩
/-- the digit at a place from the front -/
theorem dgt_front {s : ByteArray} {A k m : Nat} (hs : (bs s).all isDig = true) (hA : val (bs s) = A) (hk : k < s.size) (hm : s.size - k = m + 1) : isDig s[k] = true ∧ s[k].toNat - 48 = dgt A m := by
  have h1 := dgt_val (bs s) hs m (by rw [bs_length]; omega)
  have e : (bs s)[(bs s).length - 1 - m]'(by rw [bs_length]; omega) = s[k] := by
    rw [← bs_get s k hk]
    congr 1
    rw [bs_length]; omega
  rw [e, hA] at h1
  refine ⟨?_, h1.symm⟩
  rw [List.all_eq_true] at hs
  exact hs _ (bs_mem s k hk)
theorem cmp_ge (a b : Nat) : 0 ≤ cmpN a b ↔ b ≤ a := by
  unfold cmpN
  split
  · omega
  · split <;> omega

set_option maxRecDepth 10000 in
set_option maxHeartbeats 1000000 in
theorem natDiv_any (s t : ByteArray) (w : World) (hs : (bs s).all isDig = true) (ht : Canon (bs t)) (hs' : s.size ≤ 274877906944) (ht' : t.size ≤ 274877906944) (h0 : 0 < val (bs t)) :
    Calls Tryz.prog 91 #[.string s, .string t] w fun e w' => e = .returned (.tuple #[.string (ofL (dec (val (bs s) / val (bs t)))), .string (ofL (dec (val (bs s) % val (bs t))))]) ∧ Below w.heap.size w w' := by
  have hmk := makeBytes s.size (by omega)
  have HF := Lib.hid (fillBytes w s.size)
  have HS := Lib.hid hs
  have HT := Lib.hid ht
  obtain ⟨A, hA⟩ : ∃ A, val (bs s) = A := ⟨_, rfl⟩
  obtain ⟨B, hB⟩ : ∃ B, val (bs t) = B := ⟨_, rfl⟩
  have hA' := val_lt (bs s) hs
  have hB' := val_lt (bs t) ht.dig
  rw [bs_length, hA] at hA'
  rw [bs_length, hB] at hB'
  rw [hB] at h0
  have HA := Lib.hid hA
  have HB := Lib.hid hB
  have HLA := Lib.hid hA'
  have HLB := Lib.hid hB'
  have H0 := Lib.hid h0
  have HDG := Lib.hid (fun k m (hk : k < s.size) (hm : s.size - k = m + 1) => dgt_front hs hA hk hm)
  rw [hA, hB]
  clear hs ht hA hB hA' hB' h0
  go_enter Tryz.func91, Tryz.ntmps91
  go_wp2
  clear hmk
  go_loopw [7, 15] (fun r i wr => ∃ k : Nat, k ≤ s.size ∧ i = .int .i64 k ∧ r = .string (ofL (dec (A / 10 ^ (s.size - k) % B))) ∧ Fill w wr w.heap.size s.size (fun j => if j < k then .int .u8 (48 + (dgt (A / B) (s.size - 1 - j) : Nat)) else .int .u8 0)) (fun _ i _ => s.size - (intOf i).toNat)
  case atStart =>
    refine ⟨0, Nat.zero_le _, rfl, ?_, HF.out.congr (fun j hj => by rw [if_neg (by omega)])⟩
    rw [Nat.sub_zero, Nat.div_eq_of_lt HLA.out, Nat.zero_mod, dec_zero]; rfl
  case round =>
    obtain ⟨k, hk, rfl, rfl, hfill⟩ := hrel
    have HI := Lib.hid hfill
    clear hfill
    by_cases hlt : k < s.size
    · rename World => wa
      obtain ⟨m, hm⟩ : ∃ m, s.size - k = m + 1 := ⟨s.size - k - 1, by omega⟩
      rw [hm]
      obtain ⟨p1, p2, p3⟩ := div_step (A := A) (B := B) (m := m) H0.out
      obtain ⟨q1, q2⟩ := HDG.out k m hlt hm
      have hlr : (dec (A / 10 ^ (m + 1) % B)).length ≤ t.size + 1 := dec_len_lt HLB.out (by have := Nat.mod_lt (A / 10 ^ (m + 1)) H0.out; omega)
      have htr := trim_snoc (A / 10 ^ (m + 1) % B) s[k] q1
      have hbb := bs_snoc (dec (A / 10 ^ (m + 1) % B)) s k hlt
      rw [q2] at htr
      obtain ⟨r, hr⟩ : ∃ r, A / 10 ^ (m + 1) % B = r := ⟨_, rfl⟩
      rw [hr] at p1 p2 p3 hlr htr hbb ⊢
      obtain ⟨R, hR⟩ : ∃ R, 10 * r + dgt A m = R := ⟨_, rfl⟩
      rw [hR] at p1 p2 p3 htr
      obtain ⟨Q, hQ⟩ : ∃ Q, R / B = Q := ⟨_, rfl⟩
      have P1 := Lib.hid p1
      have P2 := Lib.hid p2
      have P3 := Lib.hid p3
      have HTR := Lib.hid htr
      have HBB := Lib.hid hbb
      have hsz := size_ofL (dec r)
      have hno : ¬ (9223372036854775807 < (dec r).length + (min (k + 1) s.size - k)) := by omega
      have hkn : (k : Int) < (s.size : Int) := by omega
      clear p1 p2 p3 htr hbb hr hR q1 q2 hQ
      go_wp2_with fail
      refine (trimNat_any _ _).mono ?_
      rintro e w1 ⟨rfl, hw1⟩
      obtain rfl : wa = w1 := hw1.symm
      rw [HBB.out, HTR.out]
      clear hw1
      go_wp2
      go_loopw [7, 9] (fun v d wr => ∃ x : Nat, v = .string (ofL (dec (R - B * x))) ∧ d = .int .u8 (48 + (x : Int)) ∧ B * x ≤ R ∧ Below wa.heap.size wa wr) (fun _ d _ => 100 - (intOf d).toNat)
      case atStart =>
        exact ⟨0, by rw [Nat.mul_zero, Nat.sub_zero], rfl, by omega, Below.refl _ _⟩
      case round =>
        obtain ⟨x, rfl, rfl, hx, hb⟩ := hrel
        have HBW := Lib.hid hb
        have HX := Lib.hid hx
        have hx9 := left_nine P3.out hx
        clear hb
        have hl2 : (dec (R - B * x)).length ≤ t.size + 1 := dec_len_lt HLB.out (by have := P3.out; omega)
        have HCN := Lib.hid (show Canon (bs (ofL (dec (R - B * x)))) by rw [bs_ofL]; exact dec_canon _)
        have hsz2 := size_ofL (dec (R - B * x))
        go_wp2_with fail
        refine (natCmp_any _ t _ HCN.out HT.out (by omega) (by omega)).mono ?_
        rintro e w1 ⟨rfl, hb1⟩
        rw [bs_ofL, val_dec, HB.out]
        have HB1 := Lib.hid (HBW.out.trans (hb1.mono HBW.out.size))
        clear hb1
        by_cases hge : B ≤ R - B * x
        · have hc := (cmp_ge (R - B * x) B).2 hge
          have HGE := Lib.hid hge
          generalize cmpN (R - B * x) B = z at hc
          clear hge hx
          go_wp2_with fail
          refine (natSub_any _ t _ HCN.out.dig HT.out.dig (by omega) (by omega) (by rw [bs_ofL, val_dec, HB.out]; exact HGE.out)).mono ?_
          rintro e w2 ⟨rfl, hb2⟩
          rw [bs_ofL, val_dec, HB.out]
          have HB2 := Lib.hid (HB1.out.trans (hb2.mono HB1.out.size))
          clear hb2
          go_wp2
          obtain ⟨m1, m2⟩ := left_more HX.out HGE.out
          exact ⟨⟨x + 1, by rw [m2], by go_num, m1, HB2.out⟩, by simp [intOf]; omega⟩
        · have hc : cmpN (R - B * x) B < 0 := by
            rw [← Int.not_le]; exact fun h => hge ((cmp_ge (R - B * x) B).1 h)
          obtain ⟨d1, d2⟩ := left_div H0.out hx (by omega)
          have D1 := Lib.hid d1
          have D2 := Lib.hid d2
          generalize cmpN (R - B * x) B = z at hc
          clear hge hx d1 d2
          have hlow := HI.out.hi
          have HK := Lib.hid (HI.out.on HB1.out)
          have hs0 := HK.out.cell k hlt
          have hf0 := HK.out.free k hlt
          rw [if_neg (by omega)] at hs0
          go_wp2
          refine ⟨⟨k + 1, by omega, by go_num, by rw [D2.out, P2.out, show s.size - (k + 1) = m by omega], ?_⟩, by simp [intOf]; omega⟩
          refine (HK.out.store hlt _).congr ?_
          intro j hj
          by_cases e : j = k
          · rw [if_pos e, e, if_pos (by omega), show s.size - 1 - k = m by omega, ← P1.out, ← D1.out]
          · rw [if_neg e]
            by_cases e1 : j < k
            · rw [if_pos e1, if_pos (by omega)]
            · rw [if_neg e1, if_neg (by omega)]
    · obtain rfl : k = s.size := by omega
      have hconv := textOfDigs (cap := s.size) (HI.out.congr (fun j hj => if_pos (by omega)))
      have HTD := Lib.hid (trimZ_digs (Nat.lt_of_le_of_lt (Nat.div_le_self A B) HLA.out))
      have hz : s.size - s.size = 0 := by omega
      rw [hz, Nat.pow_zero, Nat.div_one]
      clear hz
      go_wp2_with fail
      refine (trimNat_any _ _).mono ?_
      rintro e w1 ⟨rfl, rfl⟩
      rw [bs_ofL, HTD.out]
      go_wp2
      refine bodyPost_ret (v := .tuple #[.string (ofL (dec (A / B))), .string (ofL (dec (A % B)))]) (by simp [results, Tryz.results91, go_sem, *]) rfl ⟨rfl, ?_⟩
      exact HI.out.below
end Go.Proofs.YtjjpdoabagnmoaaGreatDoor
