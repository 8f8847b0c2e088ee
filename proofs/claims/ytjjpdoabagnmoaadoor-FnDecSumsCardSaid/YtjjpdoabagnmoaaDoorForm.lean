/-
  A natural times a power of ten, put into form: what both sides' numbers mean. No program. No condition.
-/
import Derived.Test.YtjjpdoabagnmoaaDoorRounds
import Derived.Test.YtjjpdoabagnmoaaDoorDecOk
namespace Go.Proofs.YtjjpdoabagnmoaaDoor
open Go.RowKit
set_option linter.unusedVariables false
set_option linter.unusedSimpArgs false

/-- digits with no noughts behind -/
def stripZ (l : List UInt8) : List UInt8 := (l.reverse.dropWhile (· == 48)).reverse
theorem strip_snoc (l : List UInt8) : stripZ (l ++ [48]) = stripZ l := by
  unfold stripZ
  rw [List.reverse_append]
  rfl
theorem strip_stop (l : List UInt8) (h : l.getLast? ≠ some 48) : stripZ l = l := by
  unfold stripZ
  cases e : l.reverse with
  | nil => rw [List.reverse_eq_nil_iff.1 e]; rfl
  | cons c r =>
    have hc : ¬ c = 48 := by
      intro hc
      have : l = r.reverse ++ [c] := (List.reverse_reverse l).symm.trans (by rw [e, List.reverse_cons])
      rw [this, hc] at h
      simp at h
    rw [List.dropWhile_cons_of_neg (by simpa using hc), ← e, List.reverse_reverse]
theorem strip_app (t : List UInt8) (h : t.getLast? ≠ some 48) : ∀ k, stripZ (t ++ zs k) = t
  | 0 => by rw [show zs 0 = [] from rfl, List.append_nil]; exact strip_stop t h
  | k + 1 => by rw [zs_succ, ← List.append_assoc, strip_snoc]; exact strip_app t h k
theorem strip_split : ∀ l : List UInt8, ∃ k, l = stripZ l ++ zs k ∧ (stripZ l).getLast? ≠ some 48 := by
  refine rev_ind ⟨0, rfl, by simp [stripZ]⟩ fun l c ih => ?_
  by_cases h : c = 48
  · obtain ⟨k, h1, h2⟩ := ih
    rw [h, strip_snoc]
    refine ⟨k + 1, ?_, h2⟩
    rw [zs_succ, ← List.append_assoc, ← h1]
  · have hs : stripZ (l ++ [c]) = l ++ [c] := strip_stop _ (by simpa using h)
    rw [hs]
    exact ⟨0, by rw [show zs 0 = [] from rfl, List.append_nil], by simpa using h⟩
theorem strip_zs (l : List UInt8) : ∀ k, stripZ (l ++ zs k) = stripZ l
  | 0 => by rw [show zs 0 = [] from rfl, List.append_nil]
  | k + 1 => by rw [zs_succ, ← List.append_assoc, strip_snoc]; exact strip_zs l k
theorem strip_len (l : List UInt8) : (stripZ l).length ≤ l.length := by
  obtain ⟨k, h, -⟩ := strip_split l
  have := congrArg List.length h
  rw [List.length_append] at this
  omega

/-- the digits that are left -/
def fM (v : Nat) : Nat := (dec v).length - 20
def fR (v : Nat) : Nat := roundV v (fM v)
def fT (v : Nat) : List UInt8 := stripZ (dec (fR v))
/-- how many noughts are cut off behind -/
def fK (v : Nat) : Nat := (dec (fR v)).length - (fT v).length
def fE (v : Nat) (x : Int) : Int := x + (fM v : Int) + (fK v : Int)
def fH (v : Nat) (x : Int) : Int := fE v x + ((fT v).length : Int) - 1
def numV (n : Bool) (l : List UInt8) (x : Int) (c : Int) : Value := .tuple #[.agg #[.bool n, .string (ofL l), .int .i64 x], .int .i64 c]
/-- v times ten to the x, in form, and the code -/
def formV (n : Bool) (v : Nat) (x : Int) : Value :=
  if v = 0 then numV false [] 0 0 else if 99 < fH v x then numV false [] 0 1 else if fH v x < -99 then numV false [] 0 0 else numV n (fT v) (fE v x) 0

theorem fT_split (v : Nat) : dec (fR v) = fT v ++ zs (fK v) ∧ (fT v).getLast? ≠ some 48 := by
  obtain ⟨k, h1, h2⟩ := strip_split (dec (fR v))
  have : fK v = k := by
    have := congrArg List.length h1
    rw [List.length_append, zs_len] at this
    unfold fK fT; omega
  rw [this]
  exact ⟨h1, h2⟩
theorem fT_of {v k : Nat} {t : List UInt8} (h : dec (fR v) = t ++ zs k) (h2 : t.getLast? ≠ some 48) : fT v = t ∧ fK v = k := by
  have e : fT v = t := by unfold fT; rw [h, strip_app t h2]
  refine ⟨e, ?_⟩
  unfold fK
  rw [e, h, List.length_append, zs_len]; omega
theorem fT_len (v : Nat) : (fT v).length + fK v = (dec (fR v)).length := by
  have := congrArg List.length (fT_split v).1
  rw [List.length_append, zs_len] at this
  omega
theorem fM_small {v : Nat} (h : (dec v).length ≤ 20) : fM v = 0 ∧ fR v = v := by
  have : fM v = 0 := by unfold fM; omega
  refine ⟨this, ?_⟩
  unfold fR
  rw [this, roundV_zero]
theorem dec_lt (v : Nat) : v < 10 ^ (dec v).length := by
  have := val_lt (dec v) (dec_all v)
  rwa [val_dec] at this
theorem roundV_le (v n : Nat) : roundV v n ≤ v / 10 ^ n + 1 := by
  unfold roundV; split <;> omega
theorem roundV_ge (v n : Nat) : v / 10 ^ n ≤ roundV v n := by
  unfold roundV; split <;> omega
theorem fR_le (v : Nat) : fR v ≤ 10 ^ 20 := by
  by_cases h : (dec v).length ≤ 20
  · rw [(fM_small h).2]
    exact Nat.le_of_lt (Nat.lt_of_lt_of_le (dec_lt v) (Nat.pow_le_pow_right (by omega) h))
  · have h1 := roundV_le v (fM v)
    have h2 : v / 10 ^ fM v < 10 ^ 20 := by
      rw [Nat.div_lt_iff_lt_mul (Nat.pow_pos (by omega)), ← Nat.pow_add]
      have e : 20 + fM v = (dec v).length := by unfold fM; omega
      rw [e]; exact dec_lt v
    unfold fR; omega
theorem fR_pos {v : Nat} (h : v ≠ 0) : 0 < fR v := by
  by_cases h1 : (dec v).length ≤ 20
  · rw [(fM_small h1).2]; omega
  · have h2 := roundV_ge v (fM v)
    have h3 : 0 < v / 10 ^ fM v := by
      rw [Nat.div_pos_iff]
      refine ⟨Nat.pow_pos (by omega), ?_⟩
      have h4 := dec_len_ge v h
      refine Nat.le_trans (Nat.pow_le_pow_right (by omega) ?_) h4
      unfold fM; omega
    unfold fR; omega
theorem dec_low {v : Nat} (h : v ≠ 0) : (dec v).head? ≠ some 48 := dec_head v h
theorem dec_len_eq {v k : Nat} (h1 : 10 ^ k ≤ v) (h2 : v < 10 ^ (k + 1)) : (dec v).length = k + 1 := by
  have a := dec_len_le (k + 1) v (by omega) h2
  have hv : v ≠ 0 := by have : 0 < 10 ^ k := Nat.pow_pos (by omega); omega
  have b := dec_lt v
  have c : ¬ (dec v).length ≤ k := fun hc => by
    have := Nat.pow_le_pow_right (n := 10) (by omega) hc
    omega
  omega
theorem dec_ten {v : Nat} (h : v ≠ 0) : dec (10 * v) = dec v ++ [48] := by
  rw [dec_big (by omega), Nat.mul_div_cancel_left v (by omega), Nat.mul_mod_right]
  rfl
theorem dec_tens {v : Nat} (h : v ≠ 0) (n : Nat) : dec (v * 10 ^ n) = dec v ++ zs n := by
  have := dec_shift (dec_canon v) (by rw [val_dec]; omega) n
  rw [val_dec] at this
  exact this.symm
theorem roundV_ten (v n : Nat) : roundV (10 * v) (n + 1) = roundV v n := by
  have hp : 0 < 10 ^ n := Nat.pow_pos (by omega)
  have h1 : 10 * v / 10 ^ (n + 1) = v / 10 ^ n := by rw [Nat.pow_succ, Nat.mul_comm (10 ^ n) 10, Nat.mul_div_mul_left _ _ (by omega)]
  have h2 : 10 * v % 10 ^ (n + 1) = 10 * (v % 10 ^ n) := by rw [Nat.pow_succ, Nat.mul_comm (10 ^ n) 10, Nat.mul_mod_mul_left]
  unfold roundV
  rw [h1, h2, Nat.pow_succ]
  have e : (10 ^ n * 10 < 2 * (10 * (v % 10 ^ n)) ∨ (2 * (10 * (v % 10 ^ n)) = 10 ^ n * 10 ∧ v / 10 ^ n % 2 = 1)) ↔ (10 ^ n < 2 * (v % 10 ^ n) ∨ (2 * (v % 10 ^ n) = 10 ^ n ∧ v / 10 ^ n % 2 = 1)) := by
    constructor
    · rintro (h | ⟨h, h'⟩)
      · exact .inl (by omega)
      · exact .inr ⟨by omega, h'⟩
    · rintro (h | ⟨h, h'⟩)
      · exact .inl (by omega)
      · exact .inr ⟨by omega, h'⟩
  by_cases h : 10 ^ n < 2 * (v % 10 ^ n) ∨ (2 * (v % 10 ^ n) = 10 ^ n ∧ v / 10 ^ n % 2 = 1)
  · rw [if_pos h, if_pos (e.2 h)]
  · rw [if_neg h, if_neg (fun x => h (e.1 x))]
/-- ten times as much by a tenth of the power is the same -/
theorem form_ten (v : Nat) (x : Int) (h : v ≠ 0) : fT (10 * v) = fT v ∧ fE (10 * v) (x - 1) = fE v x := by
  have hl : (dec (10 * v)).length = (dec v).length + 1 := by rw [dec_ten h, List.length_append]; rfl
  by_cases h1 : (dec v).length ≤ 19
  · obtain ⟨a, b⟩ := fM_small (v := v) (by omega)
    obtain ⟨c, d⟩ := fM_small (v := 10 * v) (by omega)
    obtain ⟨s1, s2⟩ := fT_split v
    have hd : dec (fR (10 * v)) = fT v ++ zs (fK v + 1) := by rw [d, dec_ten h, ← b, s1, b, zs_succ, List.append_assoc]
    obtain ⟨e1, e2⟩ := fT_of hd s2
    refine ⟨e1, ?_⟩
    unfold fE
    rw [e2, a, c]; omega
  · have hm : fM (10 * v) = fM v + 1 := by unfold fM; omega
    have hr : fR (10 * v) = fR v := by unfold fR; rw [hm, roundV_ten]
    have ht : fT (10 * v) = fT v := by unfold fT; rw [hr]
    refine ⟨ht, ?_⟩
    unfold fE fK
    rw [hm, hr, ht]; omega
theorem formV_ten (n : Bool) (v : Nat) (x : Int) : formV n (10 * v) (x - 1) = formV n v x := by
  by_cases h : v = 0
  · rw [h]; rfl
  · obtain ⟨h1, h2⟩ := form_ten v x h
    have h3 : fH (10 * v) (x - 1) = fH v x := by unfold fH; rw [h1, h2]
    unfold formV
    rw [if_neg h, if_neg (by omega), h1, h2, h3]
theorem formV_tens (n : Bool) (v : Nat) (x : Int) : ∀ k : Nat, formV n (v * 10 ^ k) (x - k) = formV n v x
  | 0 => by rw [Nat.pow_zero, Nat.mul_one]; simp
  | k + 1 => by
    have e : v * 10 ^ (k + 1) = 10 * (v * 10 ^ k) := by rw [Nat.pow_succ, ← Nat.mul_assoc, Nat.mul_comm]
    rw [e, show x - ((k + 1 : Nat) : Int) = x - k - 1 by omega, formV_ten, formV_tens n v x k]

/-- what is in form stays -/
theorem form_same {n : Bool} {l : List UInt8} {x : Int} (h : decOk n l x = true) (h0 : l ≠ []) : Canon l ∧ val l ≠ 0 ∧ l.length ≤ 20 ∧ formV n (val l) x = numV n l x 0 := by
  unfold decOk at h
  rw [if_neg h0] at h
  simp only [Bool.and_eq_true, decide_eq_true_eq, bne_iff_ne] at h
  obtain ⟨⟨⟨⟨⟨h1, h2⟩, h3⟩, h4⟩, h5⟩, h6⟩ := h
  obtain ⟨c, -⟩ := natOk_canon h2
  have hv : val l ≠ 0 := by
    cases l with
    | nil => exact absurd rfl h0
    | cons a r =>
      have ha : isDig a = true := by have := c.dig; rw [List.all_cons, Bool.and_eq_true] at this; exact this.1
      have := val_pos (l := r) ha (by simpa using h3)
      omega
  refine ⟨c, hv, h1, ?_⟩
  have hd := canon_dec c
  obtain ⟨m1, m2⟩ := fM_small (v := val l) (by rw [hd]; exact h1)
  obtain ⟨t1, t2⟩ := fT_of (v := val l) (k := 0) (t := l) (by rw [m2, hd, show zs 0 = [] from rfl, List.append_nil]) h4
  have hE : fE (val l) x = x := by unfold fE; rw [m1, t2]; omega
  have hl : 0 < l.length := List.length_pos_iff.2 h0
  have hH : fH (val l) x = x + l.length - 1 := by unfold fH; rw [hE, t1]
  unfold formV
  rw [if_neg hv, hH, if_neg (by omega), if_neg (by omega), t1, hE]
/-- what comes out is in form -/
theorem fT_len_le (v : Nat) : (fT v).length ≤ 20 := by
  have h := fR_le v
  by_cases h2 : fR v = 10 ^ 20
  · have e : dec (fR v) = [49] ++ zs 20 := by
      rw [h2, show (10 : Nat) ^ 20 = 1 * 10 ^ 20 by omega, dec_tens (by omega), dec_small (by omega)]; rfl
    rw [(fT_of e (by decide)).1]; decide
  · have h3 := dec_len_le 20 (fR v) (by omega) (by omega)
    have := strip_len (dec (fR v))
    unfold fT; omega
theorem fT_ne {v : Nat} (h : v ≠ 0) : fT v ≠ [] := fun e => by
  have h1 := (fT_split v).1
  rw [e, List.nil_append] at h1
  have h2 := fR_pos h
  have h3 := dec_head (fR v) (by omega)
  rw [h1] at h3
  have h4 := dec_len (fR v)
  rw [h1, zs_len] at h4
  obtain ⟨k, hk⟩ : ∃ k, fK v = k + 1 := ⟨fK v - 1, by omega⟩
  rw [hk] at h3
  exact h3 rfl
theorem fT_head {v : Nat} (h : v ≠ 0) : (fT v).head? ≠ some 48 := by
  have h1 := (fT_split v).1
  have h3 := dec_head (fR v) (by have := fR_pos h; omega)
  rw [h1, head_app _ _ (fT_ne h)] at h3
  exact h3
theorem fT_all (v : Nat) : (fT v).all isDig = true := by
  have h1 := (fT_split v).1
  have h2 := dec_all (fR v)
  rw [h1, List.all_append, Bool.and_eq_true] at h2
  exact h2.1
theorem fT_nat {v : Nat} (h : v ≠ 0) : natOk (fT v) = true := by
  have hl := fT_len_le v
  refine canon_natOk ?_ (by omega)
  have ha := fT_all v
  have hh := fT_head h
  have hn := fT_ne h
  have : dec (val (fT v)) = fT v := by
    cases e : fT v with
    | nil => exact absurd e hn
    | cons c r =>
      rw [e] at ha hh
      rw [List.all_cons, Bool.and_eq_true] at ha
      exact dec_val_head c ha.1 (by simpa using hh) r ha.2
  rw [← this]
  exact dec_canon _
theorem formV_ok (n : Bool) (v : Nat) (x : Int) : ∃ (n' : Bool) (l : List UInt8) (y : Int) (c : Int), formV n v x = numV n' l y c ∧ decOk n' l y = true ∧ l.length ≤ 20 ∧ (c = 0 ∨ c = 1) := by
  unfold formV
  by_cases h : v = 0
  · exact ⟨false, [], 0, 0, by rw [if_pos h], by decide, by decide, .inl rfl⟩
  · rw [if_neg h]
    by_cases h1 : 99 < fH v x
    · exact ⟨false, [], 0, 1, by rw [if_pos h1], by decide, by decide, .inr rfl⟩
    · rw [if_neg h1]
      by_cases h2 : fH v x < -99
      · exact ⟨false, [], 0, 0, by rw [if_pos h2], by decide, by decide, .inl rfl⟩
      · rw [if_neg h2]
        have hl := fT_len_le v
        refine ⟨n, fT v, fE v x, 0, rfl, ?_, hl, .inl rfl⟩
        unfold fH at h1 h2
        unfold decOk
        rw [if_neg (fT_ne h)]
        simp only [Bool.and_eq_true, decide_eq_true_eq, bne_iff_ne]
        exact ⟨⟨⟨⟨⟨hl, fT_nat h⟩, fT_head h⟩, (fT_split v).2⟩, by omega⟩, by omega⟩
/-- a rest that is not nothing is only a rest -/
theorem roundV_sticky (q r j : Nat) (hr : 0 < r) (hr2 : r < 10000) (hj : 1 ≤ j) : roundV (10000 * q + r) (4 + j) = roundV (10000 * q + 1) (4 + j) := by
  obtain ⟨i, rfl⟩ : ∃ i, j = i + 1 := ⟨j - 1, by omega⟩
  have hp : 0 < 10 ^ i := Nat.pow_pos (by omega)
  have e : (10 : Nat) ^ (4 + (i + 1)) = 10000 * (10 ^ i * 10) := by rw [Nat.pow_add, Nat.pow_succ]; omega
  have hd : ∀ s, 0 < s → s < 10000 → (10000 * q + s) / 10 ^ (4 + (i + 1)) = q / (10 ^ i * 10) := fun s h1 h2 => by
    rw [e, ← Nat.div_div_eq_div_mul, Nat.mul_add_div (by omega), Nat.div_eq_of_lt h2, Nat.add_zero]
  have hm : ∀ s, 0 < s → s < 10000 → (10000 * q + s) % 10 ^ (4 + (i + 1)) = 10000 * (q % (10 ^ i * 10)) + s := fun s h1 h2 => by
    have a := Nat.div_add_mod (10000 * q + s) (10 ^ (4 + (i + 1)))
    have b := Nat.div_add_mod q (10 ^ i * 10)
    rw [hd s h1 h2] at a
    rw [e] at a ⊢
    have f : 10000 * (10 ^ i * 10) * (q / (10 ^ i * 10)) = 10000 * (10 ^ i * 10 * (q / (10 ^ i * 10))) := Nat.mul_assoc _ _ _
    rw [f] at a
    omega
  unfold roundV
  rw [hd r hr hr2, hd 1 (by omega) (by omega), hm r hr hr2, hm 1 (by omega) (by omega), e]
  generalize q % (10 ^ i * 10) = Q
  generalize q / (10 ^ i * 10) = D
  generalize 10 ^ i = P at *
  by_cases h : 5 * P ≤ Q
  · rw [if_pos (.inl (by omega)), if_pos (.inl (by omega))]
  · rw [if_neg (by omega), if_neg (by omega)]
theorem formV_sticky (n : Bool) (q r : Nat) (x : Int) (hr : 0 < r) (hr2 : r < 10000) (hq : 10 ^ 21 ≤ q) : formV n (10000 * q + r) x = formV n (10000 * q + 1) x := by
  have hl : ∀ s, 0 < s → s < 10000 → (dec (10000 * q + s)).length = (dec q).length + 4 := fun s h1 h2 => by
    have h0 : q ≠ 0 := by omega
    have a := dec_len_ge q h0
    have b := dec_lt q
    have c := dec_len q
    obtain ⟨k, hk⟩ : ∃ k, (dec q).length = k + 1 := ⟨(dec q).length - 1, by omega⟩
    rw [hk] at a b ⊢
    rw [show k + 1 - 1 = k by omega] at a
    have e1 : (10 : Nat) ^ (k + 4) = 10000 * 10 ^ k := by rw [Nat.pow_add]; omega
    have e2 : (10 : Nat) ^ (k + 4 + 1) = 10000 * 10 ^ (k + 1) := by rw [show k + 4 + 1 = k + 1 + 4 by omega, Nat.pow_add]; omega
    rw [show k + 1 + 4 = k + 4 + 1 by omega]
    exact dec_len_eq (by rw [e1]; omega) (by rw [e2]; omega)
  have h22 : 22 ≤ (dec q).length := by
    have b := dec_lt q
    rcases Nat.lt_or_ge (dec q).length 22 with h | h
    · have := Nat.pow_le_pow_right (n := 10) (by omega) (show (dec q).length ≤ 21 by omega)
      omega
    · exact h
  have hm : ∀ s, 0 < s → s < 10000 → fM (10000 * q + s) = 4 + ((dec q).length - 20) := fun s h1 h2 => by
    unfold fM; rw [hl s h1 h2]; omega
  have hR : fR (10000 * q + r) = fR (10000 * q + 1) := by
    unfold fR
    rw [hm r hr hr2, hm 1 (by omega) (by omega)]
    exact roundV_sticky q r _ hr hr2 (by omega)
  have hT : fT (10000 * q + r) = fT (10000 * q + 1) := by unfold fT; rw [hR]
  have hE : fE (10000 * q + r) x = fE (10000 * q + 1) x := by
    unfold fE fK
    rw [hm r hr hr2, hm 1 (by omega) (by omega), hR, hT]
  have hH : fH (10000 * q + r) x = fH (10000 * q + 1) x := by unfold fH; rw [hT, hE]
  unfold formV
  rw [if_neg (show ¬ 10000 * q + r = 0 by omega), if_neg (show ¬ 10000 * q + 1 = 0 by omega), hH, hT, hE]
end Go.Proofs.YtjjpdoabagnmoaaDoor
