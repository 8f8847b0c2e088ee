/-
  Two numbers and a result's place, as a function on numbers lays them; what of it a call leaves; normal and l03Form on numerals. No condition.
-/
import Derived.Test.YtjjpdoabagnmoaaDoorAlign
import Derived.Test.YtjjpdoabagnmoaaDoorFormS
import Derived.Test.YtjjpdoabagnmoaaDoorDecSums
namespace Go.Proofs.YtjjpdoabagnmoaaDoor
open Go.RowKit
set_option linter.unusedVariables false
set_option linter.unusedSimpArgs false

theorem three_laid (w : World) (n : Bool) (s : ByteArray) (x : Int) (m : Bool) (t : ByteArray) (y : Int) :
    ∃ w0, ((w.alloc (Obj.cells #[.bool n, .string s, .int .i64 x] 23)).alloc (Obj.cells #[.bool m, .string t, .int .i64 y] 23)).alloc (Obj.cells #[.bool false, .string ⟨#[]⟩, .int .i64 0] 23) = w0 ∧
      (w.heap.size < w0.heap.size ∧ w.heap.size + 1 < w0.heap.size ∧ w.heap.size + 1 + 1 < w0.heap.size) ∧ Below w.heap.size w w0 ∧
      (w0.cell? ⟨w.heap.size, 0, none⟩ = some (.bool n) ∧ w0.cell? ⟨w.heap.size, 1, none⟩ = some (.string s) ∧ w0.cell? ⟨w.heap.size, 2, none⟩ = some (.int .i64 x) ∧ w0.cell? ⟨w.heap.size + 1, 0, none⟩ = some (.bool m) ∧ w0.cell? ⟨w.heap.size + 1, 1, none⟩ = some (.string t) ∧ w0.cell? ⟨w.heap.size + 1, 2, none⟩ = some (.int .i64 y)) ∧
      ((w0.cell? ⟨w.heap.size + 1 + 1, 0, none⟩ = some (.bool false) ∧ w0.cell? ⟨w.heap.size + 1 + 1, 1, none⟩ = some (.string ⟨#[]⟩) ∧ w0.cell? ⟨w.heap.size + 1 + 1, 2, none⟩ = some (.int .i64 0)) ∧
        (w0.frozen? ⟨w.heap.size + 1 + 1, 0, none⟩ = false ∧ w0.frozen? ⟨w.heap.size + 1 + 1, 1, none⟩ = false ∧ w0.frozen? ⟨w.heap.size + 1 + 1, 2, none⟩ = false)) := by
  obtain ⟨u, hu, hz, hb, hc⟩ := two_laid w n s x m t y
  have hus : u.heap.size = w.heap.size + 1 + 1 := by rw [← hu]; simp
  obtain ⟨w0, hw0, hz0, hb0, hc0, hf0⟩ := one_laid u false ⟨#[]⟩ 0
  obtain ⟨c, -⟩ := bcell hb0
  rw [hus] at hz0 hc0 hf0
  refine ⟨w0, by rw [hu]; exact hw0, ⟨by omega, by omega, by omega⟩, hb.trans (hb0.mono hb.size), ?_, hc0, hf0⟩
  rw [c _ 0 hz.1, c _ 1 hz.1, c _ 2 hz.1, c _ 0 hz.2, c _ 1 hz.2, c _ 2 hz.2]
  exact hc
theorem three_kept {w w1 : World} {p q r : Nat} {n : Bool} {s : ByteArray} {x : Int} {m : Bool} {t : ByteArray} {y : Int} (hb : Below w.heap.size w w1) (hp : p < w.heap.size ∧ q < w.heap.size ∧ r < w.heap.size) {v : World} (hv : Below v.heap.size v w)
    (h : w.cell? ⟨p, 0, none⟩ = some (.bool n) ∧ w.cell? ⟨p, 1, none⟩ = some (.string s) ∧ w.cell? ⟨p, 2, none⟩ = some (.int .i64 x) ∧ w.cell? ⟨q, 0, none⟩ = some (.bool m) ∧ w.cell? ⟨q, 1, none⟩ = some (.string t) ∧ w.cell? ⟨q, 2, none⟩ = some (.int .i64 y))
    (h' : (w.cell? ⟨r, 0, none⟩ = some (.bool false) ∧ w.cell? ⟨r, 1, none⟩ = some (.string ⟨#[]⟩) ∧ w.cell? ⟨r, 2, none⟩ = some (.int .i64 0)) ∧ (w.frozen? ⟨r, 0, none⟩ = false ∧ w.frozen? ⟨r, 1, none⟩ = false ∧ w.frozen? ⟨r, 2, none⟩ = false)) :
    Below v.heap.size v w1 ∧ (p < w1.heap.size ∧ q < w1.heap.size ∧ r < w1.heap.size) ∧
    (w1.cell? ⟨p, 0, none⟩ = some (.bool n) ∧ w1.cell? ⟨p, 1, none⟩ = some (.string s) ∧ w1.cell? ⟨p, 2, none⟩ = some (.int .i64 x) ∧ w1.cell? ⟨q, 0, none⟩ = some (.bool m) ∧ w1.cell? ⟨q, 1, none⟩ = some (.string t) ∧ w1.cell? ⟨q, 2, none⟩ = some (.int .i64 y)) ∧
    ((w1.cell? ⟨r, 0, none⟩ = some (.bool false) ∧ w1.cell? ⟨r, 1, none⟩ = some (.string ⟨#[]⟩) ∧ w1.cell? ⟨r, 2, none⟩ = some (.int .i64 0)) ∧ (w1.frozen? ⟨r, 0, none⟩ = false ∧ w1.frozen? ⟨r, 1, none⟩ = false ∧ w1.frozen? ⟨r, 2, none⟩ = false)) := by
  obtain ⟨c, f⟩ := bcell hb
  rw [c p 0 hp.1, c p 1 hp.1, c p 2 hp.1, c q 0 hp.2.1, c q 1 hp.2.1, c q 2 hp.2.1, c r 0 hp.2.2, c r 1 hp.2.2, c r 2 hp.2.2, f r 0 hp.2.2, f r 1 hp.2.2, f r 2 hp.2.2]
  exact ⟨hv.trans (hb.mono hv.size), ⟨Nat.lt_of_lt_of_le hp.1 hb.size, Nat.lt_of_lt_of_le hp.2.1 hb.size, Nat.lt_of_lt_of_le hp.2.2 hb.size⟩, h, h'⟩
theorem set_three {v w : World} (h : Below v.heap.size v w) {b : Nat} (hb : v.heap.size ≤ b) (x y z : Value) : Below v.heap.size v (((w.setCell ⟨b, 0, none⟩ x).setCell ⟨b, 1, none⟩ y).setCell ⟨b, 2, none⟩ z) :=
  ((h.setCell hb _).setCell hb _).setCell hb _

theorem lvl_len {n : Bool} {s : ByteArray} {x y : Int} (h : decOk n (bs s) x = true) (hy : -119 ≤ y) : (dec (lvl s x y)).length ≤ 300 := by
  obtain ⟨a1, a2, a3, -, -, a6, a7, -, -⟩ := dec_facts h
  have hv : val (bs s) < 10 ^ 20 := by
    by_cases h0 : 0 < s.size
    · obtain ⟨c, -, -, -⟩ := form_same h (ne_nil h0)
      have := val_lt (bs s) c.dig
      rw [bs_length] at this
      exact Nat.lt_of_lt_of_le this (Nat.pow_le_pow_right (by decide) a1)
    · rw [bs_empty (by omega)]; decide
  unfold lvl
  obtain ⟨k, hk⟩ : ∃ k, (x - min x y).toNat = k := ⟨_, rfl⟩
  rw [hk]
  have hk2 : k ≤ 218 := by omega
  refine Nat.le_trans (dec_len_le (20 + k) _ (by omega) ?_) (by omega)
  rw [Nat.pow_add]
  exact Nat.mul_lt_mul_of_pos_right hv (Nat.pow_pos (by decide))
theorem val_20 {n : Bool} {s : ByteArray} {x : Int} (h : decOk n (bs s) x = true) : val (bs s) < 10 ^ 20 := by
  obtain ⟨a1, -⟩ := dec_facts h
  by_cases h0 : 0 < s.size
  · obtain ⟨c, -, -, -⟩ := form_same h (ne_nil h0)
    have := val_lt (bs s) c.dig
    rw [bs_length] at this
    exact Nat.lt_of_lt_of_le this (Nat.pow_le_pow_right (by decide) a1)
  · rw [bs_empty (by omega)]; decide
theorem dec_mono {a b : Nat} (h : a ≤ b) : (dec a).length ≤ (dec b).length :=
  dec_len_le _ a (dec_len b) (Nat.lt_of_le_of_lt h (dec_lt b))
theorem dec_add_len (a b : Nat) : (dec (a + b)).length ≤ (dec a).length + (dec b).length := by
  have ha := dec_lt a
  have hb := dec_lt b
  have la := dec_len a
  have lb := dec_len b
  refine dec_len_le _ _ (by omega) ?_
  have h1 : 10 ^ (dec a).length ≤ 10 ^ ((dec a).length + (dec b).length - 1) := Nat.pow_le_pow_right (by decide) (by omega)
  have h2 : 10 ^ (dec b).length ≤ 10 ^ ((dec a).length + (dec b).length - 1) := Nat.pow_le_pow_right (by decide) (by omega)
  have h3 : 10 ^ ((dec a).length + (dec b).length) = 10 * 10 ^ ((dec a).length + (dec b).length - 1) := by
    rw [show (dec a).length + (dec b).length = ((dec a).length + (dec b).length - 1) + 1 by omega, Nat.pow_succ, Nat.mul_comm, Nat.add_sub_cancel]
  omega
theorem dec_mul_len (a b : Nat) : (dec (a * b)).length ≤ (dec a).length + (dec b).length := by
  have la := dec_len a
  refine dec_len_le _ _ (by omega) ?_
  rw [Nat.pow_add]
  exact Nat.mul_lt_mul'' (dec_lt a) (dec_lt b)

/-- what formV is, as a value written out -/
theorem formV_lit (n : Bool) (v : Nat) (x : Int) : ∃ (n' : Bool) (u : ByteArray) (y : Int) (c : Int), formV n v x = .tuple #[.agg #[.bool n', .string u, .int .i64 y], .int .i64 c] ∧ decOk n' (bs u) y = true ∧ u.size ≤ 20 ∧ (c = 0 ∨ c = 1) := by
  obtain ⟨n', l, y, c, h1, h2, h3, h4⟩ := formV_ok n v x
  exact ⟨n', ofL l, y, c, h1, h2, by rw [size_ofL]; exact h3, h4⟩
theorem normal_dec (n : Bool) (v : Nat) (x : Int) (w : World) (hv : (dec v).length ≤ 4096) (hx : -100000 ≤ x) (hx2 : x ≤ 100000) :
    Calls Tryd.prog 54 #[.bool n, .string (ofL (dec v)), .int .i64 x] w fun e w' => e = .returned (formV n v x) ∧ Below w.heap.size w w' := by
  have h := normal_any n (ofL (dec v)) x w (by rw [bs_ofL]; exact dec_all v) (by rw [size_ofL]; omega) (by omega) (by omega)
  rw [bs_ofL, val_dec] at h
  exact h
theorem form_dec (n : Bool) (v : Nat) (x : Int) (w : World) (hv : (dec v).length ≤ 4096) (hx : -100000 ≤ x) (hx2 : x ≤ 100000) :
    Calls Tryd.prog 41 #[.bool n, .string (ofL (dec v)), .int .i64 x, .bool false] w fun e w' => e = .returned (formV n v x) ∧ Below w.heap.size w w' := by
  have h := l03Form_any n (ofL (dec v)) x w (by rw [bs_ofL]; exact dec_all v) (by rw [size_ofL]; omega) (by omega) (by omega)
  rw [bs_ofL, val_dec] at h
  exact h
theorem form_dec1 (n : Bool) (v : Nat) (x : Int) (w : World) (hv : (dec v).length ≤ 4096) (hx : -100000 ≤ x) (hx2 : x ≤ 100000) :
    Calls Tryd.prog 41 #[.bool n, .string (ofL (dec v)), .int .i64 x, .bool true] w fun e w' => e = .returned (formV n (10 * v + 1) (x - 1)) ∧ Below w.heap.size w w' := by
  have h := l03Form_much n (ofL (dec v)) x w (by rw [bs_ofL]; exact dec_all v) (by rw [size_ofL]; omega) (by omega) (by omega)
  rw [bs_ofL, val_dec] at h
  exact h
end Go.Proofs.YtjjpdoabagnmoaaDoor
