/-
  Texts of this claim in one file, in build order: Form, Nat1, Shift, Owns, Fill, Zeros, Align, NatAdd. Each says ahead what it proves and under which conditions.
-/
import Derived.Test.YtjjpdoabagnmoaaGreatDoorQ03
import Derived.Test.YtjjpdoabagnmoaaGreatDoorShelf
import Derived.WalkKit
import Derived.WalkLawsBesides
import Derived.WalkSpells
import Derived.BigQuiet
import Derived.Deep.Light
import Derived.Deep.QuietTactic
import Derived.WalkSmall
import Derived.Lib.SmallJoins
import Derived.Test.YtjjpdoabagnmoaaGreatDoorQ01
import Derived.ProofKit
import Derived.Deep.DeepMust
import Derived.Deep.RegionHeld3
/-
  A natural times a power of ten, put into form: what both sides' numbers mean. No program. No condition.
-/
namespace Go.Proofs.YtjjpdoabagnmoaaGreatDoor
open Go.RowKit
set_option linter.unusedVariables false
set_option linter.unusedSimpArgs false

/-- digits with no noughts behind -/
def stripZ (l : List UInt8) : List UInt8 := (l.reverse.dropWhile (· == 48)).reverse
theorem strip_snoc (l : List UInt8) : stripZ (l ++ [48]) = stripZ l := by
  unfold stripZ
  rw [List.reverse_append]
  rfl
theorem strip_stop (l : List UInt8) (h : l.getLast? ≠ some 48) : stripZ l = l := by
  unfold stripZ
  cases e : l.reverse with
  | nil => rw [List.reverse_eq_nil_iff.1 e]; rfl
  | cons c r =>
    have hc : ¬ c = 48 := by
      intro hc
      have : l = r.reverse ++ [c] := (List.reverse_reverse l).symm.trans (by rw [e, List.reverse_cons])
      rw [this, hc] at h
      simp at h
    rw [List.dropWhile_cons_of_neg (by simpa using hc), ← e, List.reverse_reverse]
theorem strip_app (t : List UInt8) (h : t.getLast? ≠ some 48) : ∀ k, stripZ (t ++ zs k) = t
  | 0 => by rw [show zs 0 = [] from rfl, List.append_nil]; exact strip_stop t h
  | k + 1 => by rw [zs_succ, ← List.append_assoc, strip_snoc]; exact strip_app t h k
theorem strip_split : ∀ l : List UInt8, ∃ k, l = stripZ l ++ zs k ∧ (stripZ l).getLast? ≠ some 48 := by
  refine rev_ind ⟨0, rfl, by simp [stripZ]⟩ fun l c ih => ?_
  by_cases h : c = 48
  · obtain ⟨k, h1, h2⟩ := ih
    rw [h, strip_snoc]
    refine ⟨k + 1, ?_, h2⟩
    rw [zs_succ, ← List.append_assoc, ← h1]
  · have hs : stripZ (l ++ [c]) = l ++ [c] := strip_stop _ (by simpa using h)
    rw [hs]
    exact ⟨0, by rw [show zs 0 = [] from rfl, List.append_nil], by simpa using h⟩
theorem strip_zs (l : List UInt8) : ∀ k, stripZ (l ++ zs k) = stripZ l
  | 0 => by rw [show zs 0 = [] from rfl, List.append_nil]
  | k + 1 => by rw [zs_succ, ← List.append_assoc, strip_snoc]; exact strip_zs l k
theorem strip_len (l : List UInt8) : (stripZ l).length ≤ l.length := by
  obtain ⟨k, h, -⟩ := strip_split l
  have := congrArg List.length h
  rw [List.length_append] at this
  omega

/-- the digits that are left -/
def fM (v : Nat) : Nat := (dec v).length - 20
def fR (v : Nat) : Nat := roundV v (fM v)
def fT (v : Nat) : List UInt8 := stripZ (dec (fR v))
/-- how many noughts are cut off behind -/
def fK (v : Nat) : Nat := (dec (fR v)).length - (fT v).length
def fE (v : Nat) (x : Int) : Int := x + (fM v : Int) + (fK v : Int)
def fH (v : Nat) (x : Int) : Int := fE v x + ((fT v).length : Int) - 1
def numV (n : Bool) (l : List UInt8) (x : Int) (c : Int) : Value := .tuple #[.agg #[.bool n, .string (ofL l), .int .i64 x], .int .i64 c]
/-- v times ten to the x, in form, and the code -/
def formV (n : Bool) (v : Nat) (x : Int) : Value :=
  if v = 0 then numV false [] 0 0 else if 99 < fH v x then numV false [] 0 1 else if fH v x < -99 then numV false [] 0 0 else numV n (fT v) (fE v x) 0

theorem fT_split (v : Nat) : dec (fR v) = fT v ++ zs (fK v) ∧ (fT v).getLast? ≠ some 48 := by
  obtain ⟨k, h1, h2⟩ := strip_split (dec (fR v))
  have : fK v = k := by
    have := congrArg List.length h1
    rw [List.length_append, zs_len] at this
    unfold fK fT; omega
  rw [this]
  exact ⟨h1, h2⟩
theorem fT_of {v k : Nat} {t : List UInt8} (h : dec (fR v) = t ++ zs k) (h2 : t.getLast? ≠ some 48) : fT v = t ∧ fK v = k := by
  have e : fT v = t := by unfold fT; rw [h, strip_app t h2]
  refine ⟨e, ?_⟩
  unfold fK
  rw [e, h, List.length_append, zs_len]; omega
theorem fT_len (v : Nat) : (fT v).length + fK v = (dec (fR v)).length := by
  have := congrArg List.length (fT_split v).1
  rw [List.length_append, zs_len] at this
  omega
theorem fM_small {v : Nat} (h : (dec v).length ≤ 20) : fM v = 0 ∧ fR v = v := by
  have : fM v = 0 := by unfold fM; omega
  refine ⟨this, ?_⟩
  unfold fR
  rw [this, roundV_zero]
theorem dec_lt (v : Nat) : v < 10 ^ (dec v).length := by
  have := val_lt (dec v) (dec_all v)
  rwa [val_dec] at this
theorem roundV_le (v n : Nat) : roundV v n ≤ v / 10 ^ n + 1 := by
  unfold roundV; split <;> omega
theorem roundV_ge (v n : Nat) : v / 10 ^ n ≤ roundV v n := by
  unfold roundV; split <;> omega
theorem fR_le (v : Nat) : fR v ≤ 10 ^ 20 := by
  by_cases h : (dec v).length ≤ 20
  · rw [(fM_small h).2]
    exact Nat.le_of_lt (Nat.lt_of_lt_of_le (dec_lt v) (Nat.pow_le_pow_right (by omega) h))
  · have h1 := roundV_le v (fM v)
    have h2 : v / 10 ^ fM v < 10 ^ 20 := by
      rw [Nat.div_lt_iff_lt_mul (Nat.pow_pos (by omega)), ← Nat.pow_add]
      have e : 20 + fM v = (dec v).length := by unfold fM; omega
      rw [e]; exact dec_lt v
    unfold fR; omega
theorem fR_pos {v : Nat} (h : v ≠ 0) : 0 < fR v := by
  by_cases h1 : (dec v).length ≤ 20
  · rw [(fM_small h1).2]; omega
  · have h2 := roundV_ge v (fM v)
    have h3 : 0 < v / 10 ^ fM v := by
      rw [Nat.div_pos_iff]
      refine ⟨Nat.pow_pos (by omega), ?_⟩
      have h4 := dec_len_ge v h
      refine Nat.le_trans (Nat.pow_le_pow_right (by omega) ?_) h4
      unfold fM; omega
    unfold fR; omega
theorem dec_low {v : Nat} (h : v ≠ 0) : (dec v).head? ≠ some 48 := dec_head v h
theorem dec_len_eq {v k : Nat} (h1 : 10 ^ k ≤ v) (h2 : v < 10 ^ (k + 1)) : (dec v).length = k + 1 := by
  have a := dec_len_le (k + 1) v (by omega) h2
  have hv : v ≠ 0 := by have : 0 < 10 ^ k := Nat.pow_pos (by omega); omega
  have b := dec_lt v
  have c : ¬ (dec v).length ≤ k := fun hc => by
    have := Nat.pow_le_pow_right (n := 10) (by omega) hc
    omega
  omega
theorem dec_ten {v : Nat} (h : v ≠ 0) : dec (10 * v) = dec v ++ [48] := by
  rw [dec_big (by omega), Nat.mul_div_cancel_left v (by omega), Nat.mul_mod_right]
  rfl
theorem dec_tens {v : Nat} (h : v ≠ 0) (n : Nat) : dec (v * 10 ^ n) = dec v ++ zs n := by
  have := dec_shift (dec_canon v) (by rw [val_dec]; omega) n
  rw [val_dec] at this
  exact this.symm
theorem roundV_ten (v n : Nat) : roundV (10 * v) (n + 1) = roundV v n := by
  have hp : 0 < 10 ^ n := Nat.pow_pos (by omega)
  have h1 : 10 * v / 10 ^ (n + 1) = v / 10 ^ n := by rw [Nat.pow_succ, Nat.mul_comm (10 ^ n) 10, Nat.mul_div_mul_left _ _ (by omega)]
  have h2 : 10 * v % 10 ^ (n + 1) = 10 * (v % 10 ^ n) := by rw [Nat.pow_succ, Nat.mul_comm (10 ^ n) 10, Nat.mul_mod_mul_left]
  unfold roundV
  rw [h1, h2, Nat.pow_succ]
  have e : (10 ^ n * 10 < 2 * (10 * (v % 10 ^ n)) ∨ (2 * (10 * (v % 10 ^ n)) = 10 ^ n * 10 ∧ v / 10 ^ n % 2 = 1)) ↔ (10 ^ n < 2 * (v % 10 ^ n) ∨ (2 * (v % 10 ^ n) = 10 ^ n ∧ v / 10 ^ n % 2 = 1)) := by
    constructor
    · rintro (h | ⟨h, h'⟩)
      · exact .inl (by omega)
      · exact .inr ⟨by omega, h'⟩
    · rintro (h | ⟨h, h'⟩)
      · exact .inl (by omega)
      · exact .inr ⟨by omega, h'⟩
  by_cases h : 10 ^ n < 2 * (v % 10 ^ n) ∨ (2 * (v % 10 ^ n) = 10 ^ n ∧ v / 10 ^ n % 2 = 1)
  · rw [if_pos h, if_pos (e.2 h)]
  · rw [if_neg h, if_neg (fun x => h (e.1 x))]
/-- ten times as much by a tenth of the power is the same -/
theorem form_ten (v : Nat) (x : Int) (h : v ≠ 0) : fT (10 * v) = fT v ∧ fE (10 * v) (x - 1) = fE v x := by
  have hl : (dec (10 * v)).length = (dec v).length + 1 := by rw [dec_ten h, List.length_append]; rfl
  by_cases h1 : (dec v).length ≤ 19
  · obtain ⟨a, b⟩ := fM_small (v := v) (by omega)
    obtain ⟨c, d⟩ := fM_small (v := 10 * v) (by omega)
    obtain ⟨s1, s2⟩ := fT_split v
    have hd : dec (fR (10 * v)) = fT v ++ zs (fK v + 1) := by rw [d, dec_ten h, ← b, s1, b, zs_succ, List.append_assoc]
    obtain ⟨e1, e2⟩ := fT_of hd s2
    refine ⟨e1, ?_⟩
    unfold fE
    rw [e2, a, c]; omega
  · have hm : fM (10 * v) = fM v + 1 := by unfold fM; omega
    have hr : fR (10 * v) = fR v := by unfold fR; rw [hm, roundV_ten]
    have ht : fT (10 * v) = fT v := by unfold fT; rw [hr]
    refine ⟨ht, ?_⟩
    unfold fE fK
    rw [hm, hr, ht]; omega
theorem formV_ten (n : Bool) (v : Nat) (x : Int) : formV n (10 * v) (x - 1) = formV n v x := by
  by_cases h : v = 0
  · rw [h]; rfl
  · obtain ⟨h1, h2⟩ := form_ten v x h
    have h3 : fH (10 * v) (x - 1) = fH v x := by unfold fH; rw [h1, h2]
    unfold formV
    rw [if_neg h, if_neg (by omega), h1, h2, h3]
theorem formV_tens (n : Bool) (v : Nat) (x : Int) : ∀ k : Nat, formV n (v * 10 ^ k) (x - k) = formV n v x
  | 0 => by rw [Nat.pow_zero, Nat.mul_one]; simp
  | k + 1 => by
    have e : v * 10 ^ (k + 1) = 10 * (v * 10 ^ k) := by rw [Nat.pow_succ, ← Nat.mul_assoc, Nat.mul_comm]
    rw [e, show x - ((k + 1 : Nat) : Int) = x - k - 1 by omega, formV_ten, formV_tens n v x k]

/-- what is in form stays -/
theorem form_same {n : Bool} {l : List UInt8} {x : Int} (h : decOk n l x = true) (h0 : l ≠ []) : Canon l ∧ val l ≠ 0 ∧ l.length ≤ 20 ∧ formV n (val l) x = numV n l x 0 := by
  unfold decOk at h
  rw [if_neg h0] at h
  simp only [Bool.and_eq_true, decide_eq_true_eq, bne_iff_ne] at h
  obtain ⟨⟨⟨⟨⟨h1, h2⟩, h3⟩, h4⟩, h5⟩, h6⟩ := h
  obtain ⟨c, -⟩ := natOk_canon h2
  have hv : val l ≠ 0 := by
    cases l with
    | nil => exact absurd rfl h0
    | cons a r =>
      have ha : isDig a = true := by have := c.dig; rw [List.all_cons, Bool.and_eq_true] at this; exact this.1
      have := val_pos (l := r) ha (by simpa using h3)
      omega
  refine ⟨c, hv, h1, ?_⟩
  have hd := canon_dec c
  obtain ⟨m1, m2⟩ := fM_small (v := val l) (by rw [hd]; exact h1)
  obtain ⟨t1, t2⟩ := fT_of (v := val l) (k := 0) (t := l) (by rw [m2, hd, show zs 0 = [] from rfl, List.append_nil]) h4
  have hE : fE (val l) x = x := by unfold fE; rw [m1, t2]; omega
  have hl : 0 < l.length := List.length_pos_iff.2 h0
  have hH : fH (val l) x = x + l.length - 1 := by unfold fH; rw [hE, t1]
  unfold formV
  rw [if_neg hv, hH, if_neg (by omega), if_neg (by omega), t1, hE]
/-- what comes out is in form -/
theorem fT_len_le (v : Nat) : (fT v).length ≤ 20 := by
  have h := fR_le v
  by_cases h2 : fR v = 10 ^ 20
  · have e : dec (fR v) = [49] ++ zs 20 := by
      rw [h2, show (10 : Nat) ^ 20 = 1 * 10 ^ 20 by omega, dec_tens (by omega), dec_small (by omega)]; rfl
    rw [(fT_of e (by decide)).1]; decide
  · have h3 := dec_len_le 20 (fR v) (by omega) (by omega)
    have := strip_len (dec (fR v))
    unfold fT; omega
theorem fT_ne {v : Nat} (h : v ≠ 0) : fT v ≠ [] := fun e => by
  have h1 := (fT_split v).1
  rw [e, List.nil_append] at h1
  have h2 := fR_pos h
  have h3 := dec_head (fR v) (by omega)
  rw [h1] at h3
  have h4 := dec_len (fR v)
  rw [h1, zs_len] at h4
  obtain ⟨k, hk⟩ : ∃ k, fK v = k + 1 := ⟨fK v - 1, by omega⟩
  rw [hk] at h3
  exact h3 rfl
theorem fT_head {v : Nat} (h : v ≠ 0) : (fT v).head? ≠ some 48 := by
  have h1 := (fT_split v).1
  have h3 := dec_head (fR v) (by have := fR_pos h; omega)
  rw [h1, head_app _ _ (fT_ne h)] at h3
  exact h3
theorem fT_all (v : Nat) : (fT v).all isDig = true := by
  have h1 := (fT_split v).1
  have h2 := dec_all (fR v)
  rw [h1, List.all_append, Bool.and_eq_true] at h2
  exact h2.1
theorem fT_nat {v : Nat} (h : v ≠ 0) : natOk (fT v) = true := by
  have hl := fT_len_le v
  refine canon_natOk ?_ (by omega)
  have ha := fT_all v
  have hh := fT_head h
  have hn := fT_ne h
  have : dec (val (fT v)) = fT v := by
    cases e : fT v with
    | nil => exact absurd e hn
    | cons c r =>
      rw [e] at ha hh
      rw [List.all_cons, Bool.and_eq_true] at ha
      exact dec_val_head c ha.1 (by simpa using hh) r ha.2
  rw [← this]
  exact dec_canon _
theorem formV_ok (n : Bool) (v : Nat) (x : Int) : ∃ (n' : Bool) (l : List UInt8) (y : Int) (c : Int), formV n v x = numV n' l y c ∧ decOk n' l y = true ∧ l.length ≤ 20 ∧ (c = 0 ∨ c = 1) := by
  unfold formV
  by_cases h : v = 0
  · exact ⟨false, [], 0, 0, by rw [if_pos h], by decide, by decide, .inl rfl⟩
  · rw [if_neg h]
    by_cases h1 : 99 < fH v x
    · exact ⟨false, [], 0, 1, by rw [if_pos h1], by decide, by decide, .inr rfl⟩
    · rw [if_neg h1]
      by_cases h2 : fH v x < -99
      · exact ⟨false, [], 0, 0, by rw [if_pos h2], by decide, by decide, .inl rfl⟩
      · rw [if_neg h2]
        have hl := fT_len_le v
        refine ⟨n, fT v, fE v x, 0, rfl, ?_, hl, .inl rfl⟩
        unfold fH at h1 h2
        unfold decOk
        rw [if_neg (fT_ne h)]
        simp only [Bool.and_eq_true, decide_eq_true_eq, bne_iff_ne]
        exact ⟨⟨⟨⟨⟨hl, fT_nat h⟩, fT_head h⟩, (fT_split v).2⟩, by omega⟩, by omega⟩
/-- a rest that is not nothing is only a rest -/
theorem roundV_sticky (q r j : Nat) (hr : 0 < r) (hr2 : r < 10000) (hj : 1 ≤ j) : roundV (10000 * q + r) (4 + j) = roundV (10000 * q + 1) (4 + j) := by
  obtain ⟨i, rfl⟩ : ∃ i, j = i + 1 := ⟨j - 1, by omega⟩
  have hp : 0 < 10 ^ i := Nat.pow_pos (by omega)
  have e : (10 : Nat) ^ (4 + (i + 1)) = 10000 * (10 ^ i * 10) := by rw [Nat.pow_add, Nat.pow_succ]; omega
  have hd : ∀ s, 0 < s → s < 10000 → (10000 * q + s) / 10 ^ (4 + (i + 1)) = q / (10 ^ i * 10) := fun s h1 h2 => by
    rw [e, ← Nat.div_div_eq_div_mul, Nat.mul_add_div (by omega), Nat.div_eq_of_lt h2, Nat.add_zero]
  have hm : ∀ s, 0 < s → s < 10000 → (10000 * q + s) % 10 ^ (4 + (i + 1)) = 10000 * (q % (10 ^ i * 10)) + s := fun s h1 h2 => by
    have a := Nat.div_add_mod (10000 * q + s) (10 ^ (4 + (i + 1)))
    have b := Nat.div_add_mod q (10 ^ i * 10)
    rw [hd s h1 h2] at a
    rw [e] at a ⊢
    have f : 10000 * (10 ^ i * 10) * (q / (10 ^ i * 10)) = 10000 * (10 ^ i * 10 * (q / (10 ^ i * 10))) := Nat.mul_assoc _ _ _
    rw [f] at a
    omega
  unfold roundV
  rw [hd r hr hr2, hd 1 (by omega) (by omega), hm r hr hr2, hm 1 (by omega) (by omega), e]
  generalize q % (10 ^ i * 10) = Q
  generalize q / (10 ^ i * 10) = D
  generalize 10 ^ i = P at *
  by_cases h : 5 * P ≤ Q
  · rw [if_pos (.inl (by omega)), if_pos (.inl (by omega))]
  · rw [if_neg (by omega), if_neg (by omega)]
theorem formV_sticky (n : Bool) (q r : Nat) (x : Int) (hr : 0 < r) (hr2 : r < 10000) (hq : 10 ^ 21 ≤ q) : formV n (10000 * q + r) x = formV n (10000 * q + 1) x := by
  have hl : ∀ s, 0 < s → s < 10000 → (dec (10000 * q + s)).length = (dec q).length + 4 := fun s h1 h2 => by
    have h0 : q ≠ 0 := by omega
    have a := dec_len_ge q h0
    have b := dec_lt q
    have c := dec_len q
    obtain ⟨k, hk⟩ : ∃ k, (dec q).length = k + 1 := ⟨(dec q).length - 1, by omega⟩
    rw [hk] at a b ⊢
    rw [show k + 1 - 1 = k by omega] at a
    have e1 : (10 : Nat) ^ (k + 4) = 10000 * 10 ^ k := by rw [Nat.pow_add]; omega
    have e2 : (10 : Nat) ^ (k + 4 + 1) = 10000 * 10 ^ (k + 1) := by rw [show k + 4 + 1 = k + 1 + 4 by omega, Nat.pow_add]; omega
    rw [show k + 1 + 4 = k + 4 + 1 by omega]
    exact dec_len_eq (by rw [e1]; omega) (by rw [e2]; omega)
  have h22 : 22 ≤ (dec q).length := by
    have b := dec_lt q
    rcases Nat.lt_or_ge (dec q).length 22 with h | h
    · have := Nat.pow_le_pow_right (n := 10) (by omega) (show (dec q).length ≤ 21 by omega)
      omega
    · exact h
  have hm : ∀ s, 0 < s → s < 10000 → fM (10000 * q + s) = 4 + ((dec q).length - 20) := fun s h1 h2 => by
    unfold fM; rw [hl s h1 h2]; omega
  have hR : fR (10000 * q + r) = fR (10000 * q + 1) := by
    unfold fR
    rw [hm r hr hr2, hm 1 (by omega) (by omega)]
    exact roundV_sticky q r _ hr hr2 (by omega)
  have hT : fT (10000 * q + r) = fT (10000 * q + 1) := by unfold fT; rw [hR]
  have hE : fE (10000 * q + r) x = fE (10000 * q + 1) x := by
    unfold fE fK
    rw [hm r hr hr2, hm 1 (by omega) (by omega), hR, hT]
  have hH : fH (10000 * q + r) x = fH (10000 * q + 1) x := by unfold fH; rw [hT, hE]
  unfold formV
  rw [if_neg (show ¬ 10000 * q + r = 0 by omega), if_neg (show ¬ 10000 * q + 1 = 0 by omega), hH, hT, hE]
end Go.Proofs.YtjjpdoabagnmoaaGreatDoor
/-
  The contracts of the small helpers on naturals: a digit at a place, trimming, comparing; the reference's and the program's. Conditions: rows of digits; no longer than 2 to the 40.
-/
namespace Go.Proofs.YtjjpdoabagnmoaaGreatDoor
open Go.RowKit
set_option linter.unusedVariables false
set_option linter.unusedSimpArgs false

theorem digitAt_any (s : ByteArray) (i : Nat) (w : World) (hd : (bs s).all isDig = true) (hs : s.size ≤ 1099511627776) (hi : i ≤ 1099511627776) :
    Calls Tryz.prog 113 #[.string s, .int .i64 (i : Int)] w fun e w' => e = .returned (.int .i64 (dgt (val (bs s)) i : Nat)) ∧ w' = w := by
  by_cases hlt : i < s.size
  · have hg := dgt_val (bs s) hd i (by rw [bs_length]; exact hlt)
    have hb : s.size - 1 - i < s.size := by omega
    have e1 : (bs s)[(bs s).length - 1 - i]'(by rw [bs_length]; omega) = s[s.size - 1 - i] := by
      rw [← bs_get s (s.size - 1 - i) hb]
      congr 1
      try rw [bs_length]
    rw [e1] at hg
    have hdg : isDig s[s.size - 1 - i] = true := by
      rw [List.all_eq_true] at hd
      exact hd _ (bs_mem s _ hb)
    have h48 := isDig_le hdg
    have HG := Lib.hid hg
    clear hg hd hdg e1
    have k1 : ¬ ((s.size : Int) ≤ (i : Int)) := by omega
    have k2 : 0 ≤ (s.size : Int) - 1 - (i : Int) := by omega
    have k3 : (s.size : Int) - 1 - (i : Int) < (s.size : Int) := by omega
    have k4 : ((s.size : Int) - 1 - (i : Int)).toNat = s.size - 1 - i := by omega
    have k5 : (48 : Int) ≤ (s[s.size - 1 - i].toNat : Int) := by omega
    have k6 : (s[s.size - 1 - i].toNat : Int) ≤ 57 := by omega
    go_enter Tryz.func113, Tryz.ntmps113
    go_wp2
    go_ret
    refine ⟨ret_int ?_, rfl⟩
    rw [HG.out]
    omega
  · have hz : dgt (val (bs s)) i = 0 := by
      apply dgt_over
      have h1 := val_lt (bs s) hd
      have h2 : 10 ^ (bs s).length ≤ 10 ^ i := Nat.pow_le_pow_right (by omega) (by rw [bs_length]; omega)
      omega
    rw [hz]
    have k1 : (s.size : Int) ≤ (i : Int) := by omega
    clear hd hz
    go_enter Tryz.func113, Tryz.ntmps113
    go_wp2
    go_ret
    exact ⟨rfl, rfl⟩

theorem l02Digit_any (s : ByteArray) (i : Nat) (w : World) (hd : (bs s).all isDig = true) (hs : s.size ≤ 1099511627776) (hi : i ≤ 1099511627776) :
    Calls Tryz.prog 122 #[.string s, .int .i64 (i : Int)] w fun e w' => e = .returned (.int .i64 (dgt (val (bs s)) i : Nat)) ∧ w' = w := by
  by_cases hlt : i < s.size
  · have hg := dgt_val (bs s) hd i (by rw [bs_length]; exact hlt)
    have hb : s.size - 1 - i < s.size := by omega
    have e1 : (bs s)[(bs s).length - 1 - i]'(by rw [bs_length]; omega) = s[s.size - 1 - i] := by
      rw [← bs_get s (s.size - 1 - i) hb]
      congr 1
      try rw [bs_length]
    rw [e1] at hg
    have hdg : isDig s[s.size - 1 - i] = true := by
      rw [List.all_eq_true] at hd
      exact hd _ (bs_mem s _ hb)
    have h48 := isDig_le hdg
    have HG := Lib.hid hg
    clear hg hd hdg e1
    have k1 : ¬ ((s.size : Int) ≤ (i : Int)) := by omega
    have k2 : 0 ≤ (s.size : Int) - 1 - (i : Int) := by omega
    have k3 : (s.size : Int) - 1 - (i : Int) < (s.size : Int) := by omega
    have k4 : ((s.size : Int) - 1 - (i : Int)).toNat = s.size - 1 - i := by omega
    have k5 : (48 : Int) ≤ (s[s.size - 1 - i].toNat : Int) := by omega
    have k6 : (s[s.size - 1 - i].toNat : Int) ≤ 57 := by omega
    go_enter Tryz.func122, Tryz.ntmps122
    go_wp2
    go_ret
    refine ⟨ret_int ?_, rfl⟩
    rw [HG.out]
    omega
  · have hz : dgt (val (bs s)) i = 0 := by
      apply dgt_over
      have h1 := val_lt (bs s) hd
      have h2 : 10 ^ (bs s).length ≤ 10 ^ i := Nat.pow_le_pow_right (by omega) (by rw [bs_length]; omega)
      omega
    rw [hz]
    have k1 : (s.size : Int) ≤ (i : Int) := by omega
    clear hd hz
    go_enter Tryz.func122, Tryz.ntmps122
    go_wp2
    go_ret
    exact ⟨rfl, rfl⟩

theorem toList_bs (s : ByteArray) : s.toList = bs s := Lib.toList_data s
theorem isEmpty_bs (s : ByteArray) : s.toList.isEmpty = (bs s).isEmpty := by rw [toList_bs]

theorem trimNat_any (s : ByteArray) (w : World) :
    Calls Tryz.prog 75 #[.string s] w fun e w' => e = .returned (.string (ofL (trimZ (bs s)))) ∧ w' = w := by
  have hz := trimZ_drop (bs s)
  have HZ := Lib.hid hz
  clear hz
  go_enter Tryz.func75, Tryz.ntmps75
  go_wp2_with fail
  refine (Tryz.strings_TrimLeft_one s 48 (by decide) _).mono ?_
  rintro e w1 ⟨rfl, rfl⟩
  have ht : Lib.trimLeftB s.data.toList 48 = (bs s).dropWhile (· == 48) := rfl
  rw [ht]
  obtain ⟨r, hr⟩ : ∃ r, (bs s).dropWhile (· == 48) = r := ⟨_, rfl⟩
  have HF := HZ.out
  rw [hr] at HF ⊢
  have hof : (⟨r.toArray⟩ : ByteArray) = ofL r := rfl
  rw [hof]
  have HF' := Lib.hid HF
  clear HF hr ht hof
  cases r with
  | nil =>
    have hemp : (ofL ([] : List UInt8)).toList.isEmpty = true := by rw [isEmpty_bs, bs_ofL]; rfl
    go_wp2
    go_ret
    exact ⟨by rw [← HF'.out]; rfl, rfl⟩
  | cons c r =>
    have hemp : (ofL (c :: r)).toList.isEmpty = false := by rw [isEmpty_bs, bs_ofL]; rfl
    go_wp2
    go_ret
    exact ⟨by rw [← HF'.out]; rfl, rfl⟩

theorem bs_ext (t : ByteArray) (k : Nat) : bs (t.extract k t.size) = (bs t).drop k := by
  show (t.extract k t.size).data.toList = _
  rw [Lib.extract_data, List.take_of_length_le (by rw [List.length_drop, show t.data.toList = bs t from rfl, bs_length]; exact Nat.le_refl _)]
theorem ext_size (t : ByteArray) (k : Nat) : (t.extract k t.size).size = t.size - k := by
  rw [← bs_length, bs_ext, List.length_drop, bs_length]
theorem trimZ_tail {s : ByteArray} (h0 : 0 < s.size) (h : (s[0].toNat : Int) = 48) : trimZ ((bs s).drop 1) = trimZ (bs s) := by
  have e := bs_drop s 0 h0
  rw [List.drop_zero] at e
  conv => rhs; rw [e]
  unfold trimZ
  rw [if_pos (u8_48 h)]
  cases (bs s).drop (0 + 1) <;> rfl
theorem trimZ_stop {s : ByteArray} (h0 : 0 < s.size) (h : ¬ (s[0].toNat : Int) = 48) : trimZ (bs s) = bs s := by
  have e := bs_drop s 0 h0
  rw [List.drop_zero] at e
  rw [e]
  unfold trimZ
  rw [if_neg (u8_n48 h)]
theorem trimZ_one {s : ByteArray} (h0 : s.size = 1) : trimZ (bs s) = bs s := by
  have e := bs_drop s 0 (by omega)
  rw [List.drop_zero, List.drop_of_length_le (by rw [bs_length]; omega)] at e
  rw [e]
  unfold trimZ
  by_cases h : s[0] = 48
  · rw [if_pos h, h]; rfl
  · rw [if_neg h]

theorem l02Trim_any (s : ByteArray) (w : World) (hs : s.size ≤ 1099511627776) :
    Calls Tryz.prog 93 #[.string s] w fun e w' => e = .returned (.string (ofL (trimZ (bs s)))) ∧ w' = w := by
  go_enter Tryz.func93, Tryz.ntmps93
  go_wp2
  go_loop [0] (fun v => ∃ t : ByteArray, t.size ≤ 1099511627776 ∧ v = .string t ∧ trimZ (bs t) = trimZ (bs s)) (fun v => match v with | .string t => t.size | _ => 0)
  case atStart => exact ⟨s, hs, rfl, rfl⟩
  case round =>
    obtain ⟨t, ht, rfl, hz⟩ := hrel
    have HZ := Lib.hid hz
    clear hz
    by_cases h1 : 1 < t.size
    · have h1' : (1 : Int) < (t.size : Int) := by omega
      have h0 : 0 < t.size := by omega
      by_cases hc : (t[0].toNat : Int) = 48
      · have hcb : ((t[0].toNat : Int) == 48) = true := by rw [hc]; rfl
        have HC := Lib.hid hc
        clear hc
        go_wp2
        refine ⟨⟨t.extract 1 t.size, by rw [ext_size]; omega, rfl, by rw [bs_ext, trimZ_tail h0 HC.out, HZ.out]⟩, ?_⟩
        show (t.extract 1 t.size).size < t.size
        rw [ext_size]; omega
      · have hcb : ((t[0].toNat : Int) == 48) = false := by rw [beq_eq_false_iff_ne]; exact hc
        have HC := Lib.hid hc
        clear hc
        have hemp := isEmpty_no h0
        go_wp2
        go_ret
        refine ⟨?_, rfl⟩
        rw [← HZ.out, trimZ_stop h0 HC.out]; rfl
    · have h1' : (t.size : Int) ≤ 1 := by omega
      by_cases h0 : 0 < t.size
      · have hemp := isEmpty_no h0
        go_wp2
        go_ret
        refine ⟨?_, rfl⟩
        rw [← HZ.out, trimZ_one (by omega)]; rfl
      · have hemp := isEmpty_yes (s := t) (by omega)
        go_wp2
        go_ret
        refine ⟨?_, rfl⟩
        rw [← HZ.out, bs_empty (by omega)]; rfl

theorem compareInt_cmpN (a b : Nat) : Lib.compareInt a b = cmpN a b := by
  unfold Lib.compareInt cmpN
  by_cases h1 : a < b
  · rw [if_pos (by omega), if_pos h1]
  · rw [if_neg (by omega), if_neg h1]
    by_cases h2 : a = b
    · rw [if_neg (by omega), if_pos h2]
    · rw [if_pos (by omega), if_neg h2]
theorem cmpN_cases (a b : Nat) : (a < b ∧ cmpN a b = -1) ∨ (a = b ∧ cmpN a b = 0) ∨ (b < a ∧ cmpN a b = 1) := by
  unfold cmpN
  by_cases h1 : a < b
  · left; rw [if_pos h1]; exact ⟨h1, rfl⟩
  · right
    by_cases h2 : a = b
    · left; rw [if_neg h1, if_pos h2]; exact ⟨h2, rfl⟩
    · right; rw [if_neg h1, if_neg h2]; exact ⟨by omega, rfl⟩

/-- the first number that is not 0 -/
def orZ : List Int → Int
  | [] => 0
  | x :: l => if x = 0 then orZ l else x
theorem cmp_val {l r : List UInt8} (hl : Canon l) (hr : Canon r) : orZ [cmpN l.length r.length, Lib.compareBytes l r] = cmpN (val l) (val r) := by
  rcases cmpN_cases l.length r.length with ⟨h, e⟩ | ⟨h, e⟩ | ⟨h, e⟩
  · have := canon_shorter hl hr h
    rw [e]; simp [orZ, cmpN, this]
  · rw [e, compare_val l r hl.dig hr.dig h]; simp [orZ]
    intro h0; exact h0.symm
  · have := canon_shorter hr hl h
    rw [e]
    have a : ¬ val l < val r := by omega
    have b : ¬ val l = val r := by omega
    simp [orZ, cmpN, a, b]

theorem cmpOr_two (x y : Int) (b : Nat) (w : World) (h0 : w.cell? ⟨b, 0, none⟩ = some (.int .i64 x)) (h1 : w.cell? ⟨b, 1, none⟩ = some (.int .i64 y)) :
    Calls Tryz.prog 86 #[.slice (some ⟨b, 0, none⟩) 2 2] w fun e w' => e = .returned (.int .i64 (orZ [x, y])) ∧ w' = w := by
  have HF := Lib.hid (show orZ [x, y] = if x = 0 then (if y = 0 then 0 else y) else x by simp [orZ])
  go_enter Tryz.func86, Tryz.ntmps86
  go_wp2
  go_loop [8] (fun i => (i = .int .i64 0) ∨ (i = .int .i64 1 ∧ x = 0) ∨ (i = .int .i64 2 ∧ x = 0 ∧ y = 0)) (fun i => 2 - (intOf i).toNat)
  case atStart => exact .inl rfl
  case round =>
    rcases hrel with rfl | ⟨rfl, hx⟩ | ⟨rfl, hx, hy⟩
    · by_cases hx : x = 0
      · have hxb : (x != 0) = false := by rw [hx]; rfl
        have HX := Lib.hid hx
        clear hx
        go_wp2
        exact ⟨.inr (.inl ⟨rfl, HX.out⟩), by simp [intOf]⟩
      · have hxb : (x != 0) = true := by rw [bne_iff_ne]; exact hx
        have HX := Lib.hid hx
        clear hx
        go_wp2
        go_ret
        refine ⟨?_, rfl⟩
        rw [HF.out, if_neg HX.out]; rfl
    · have HX := Lib.hid hx
      clear hx
      by_cases hy : y = 0
      · have hyb : (y != 0) = false := by rw [hy]; rfl
        have HY := Lib.hid hy
        clear hy
        go_wp2
        exact ⟨.inr (.inr ⟨rfl, HX.out, HY.out⟩), by simp [intOf]⟩
      · have hyb : (y != 0) = true := by rw [bne_iff_ne]; exact hy
        have HY := Lib.hid hy
        clear hy
        go_wp2
        go_ret
        refine ⟨?_, rfl⟩
        rw [HF.out, if_pos HX.out, if_neg HY.out]; rfl
    · have HX := Lib.hid hx
      have HY := Lib.hid hy
      clear hx hy
      go_wp2
      go_ret
      refine ⟨?_, rfl⟩
      rw [HF.out, if_pos HX.out, if_pos HY.out]; rfl

theorem natCmp_any (s t : ByteArray) (w : World) (hs : Canon (bs s)) (ht : Canon (bs t)) (hs' : s.size ≤ 1099511627776) (ht' : t.size ≤ 1099511627776) :
    Calls Tryz.prog 51 #[.string s, .string t] w fun e w' => e = .returned (.int .i64 (cmpN (val (bs s)) (val (bs t)))) ∧ Below w.heap.size w w' := by
  have hv := cmp_val hs ht
  rw [bs_length, bs_length] at hv
  rw [← hv]
  clear hv hs ht
  go_enter Tryz.func51, Tryz.ntmps51
  go_wp2_with fail
  refine (Tryz.cmp_Compare_int _ _ _).mono ?_
  rintro e w1 ⟨rfl, hw1⟩
  obtain rfl : w = w1 := hw1.symm
  rw [compareInt_cmpN]
  go_wp2_with fail
  refine (Tryz.strings_Compare _ _ _).mono ?_
  rintro e w2 ⟨rfl, hw2⟩
  obtain rfl : w = w2 := hw2.symm
  have hbb : Lib.compareBytes s.data.toList t.data.toList = Lib.compareBytes (bs s) (bs t) := rfl
  rw [hbb]
  obtain ⟨y, hy⟩ : ∃ y, Lib.compareBytes (bs s) (bs t) = y := ⟨_, rfl⟩
  obtain ⟨x, hx⟩ : ∃ x, cmpN s.size t.size = x := ⟨_, rfl⟩
  rw [hy, hx]
  have HX := Lib.hid hx
  have HY := Lib.hid hy
  clear hbb hx hy
  go_wp2_with fail
  refine (cmpOr_two x y _ _ (by simp) (by simp)).mono ?_
  rintro e w3 ⟨rfl, rfl⟩
  go_wp2
  go_ret
  refine ⟨by rw [HX.out, HY.out]; rfl, ?_⟩
  (repeat (first | exact Below.refl _ _ | assumption | refine Below.drew ?_ | refine Go.below_drewN ?_ _ | (refine Below.alloc ?_ (by first | exact Nat.le_refl _ | (simp; done) | (simp; omega) | (simp at *; omega)) _) | (refine Below.setCell ?_ (by first | exact Nat.le_refl _ | (simp; done) | (simp; omega)) _) | (refine Below.trans ?_ (Below.mono (by assumption) (by first | exact Nat.le_refl _ | (simp; done) | (simp; omega) | (simp at *; omega))))))


end Go.Proofs.YtjjpdoabagnmoaaGreatDoor
/-
  The contract of a natural times a power of ten, the program's. Conditions: a canonical row and a power, no longer than 2 to the 39.
-/
namespace Go.Proofs.YtjjpdoabagnmoaaGreatDoor
open Go.RowKit
set_option linter.unusedVariables false
set_option linter.unusedSimpArgs false

theorem repeat_zs (n : Nat) (w : World) (hn : n ≤ 549755813888) :
    Calls Tryz.prog 71 #[.string ⟨#[48]⟩, .int .i64 (n : Int)] w fun e w' => e = .returned (.string (ofL (zs n))) ∧ Below w.heap.size w w' := by
  refine (Tryz.strings_Repeat ⟨#[48]⟩ n w (by omega) (by show 1 * n ≤ _; omega)).mono ?_
  rintro e w' ⟨rfl, hb⟩
  refine ⟨?_, hb⟩
  rw [← zs_repeat]; rfl

theorem natShift_any (s : ByteArray) (n : Nat) (w : World) (hc : Canon (bs s)) (hs : s.size ≤ 549755813888) (hn : n ≤ 549755813888) :
    Calls Tryz.prog 50 #[.string s, .int .i64 (n : Int)] w fun e w' => e = .returned (.string (ofL (dec (val (bs s) * 10 ^ n)))) ∧ Below w.heap.size w w' := by
  by_cases hz : bs s = [48]
  · have hzb : (s.toList == [48]) = true := by rw [toList_bs, hz]; rfl
    have hv : val (bs s) * 10 ^ n = 0 := by rw [hz, show val [48] = 0 from rfl, Nat.zero_mul]
    have hs0 : s = ofL (dec 0) := by rw [dec_zero, ← hz, ofL_bs]
    rw [hv, ← hs0]
    clear hv hs0 hz hc
    go_enter Tryz.func50, Tryz.ntmps50
    go_wp2
    go_ret
    exact ⟨rfl, Below.refl _ _⟩
  · have hzb : (s.toList == [48]) = false := by rw [toList_bs]; simpa using hz
    have hp : 0 < val (bs s) := by
      by_cases e : val (bs s) = 0
      · have := canon_dec hc
        rw [e, dec_zero] at this; exact absurd this.symm hz
      · omega
    have HD := Lib.hid (dec_shift hc hp n)
    have hsz := size_ofL (zs n)
    rw [zs_len] at hsz
    clear hz hp hc
    go_enter Tryz.func50, Tryz.ntmps50
    go_wp2_with fail
    refine (repeat_zs n _ hn).mono ?_
    rintro e w1 ⟨rfl, hb1⟩
    have HB1 := Lib.hid hb1
    clear hb1
    have hno : ¬ (9223372036854775807 < s.size + n) := by omega
    go_wp2
    go_ret
    refine ⟨?_, HB1.out⟩
    have e : bs (s ++ ofL (zs n)) = dec (val (bs s) * 10 ^ n) := by rw [bs_app, bs_ofL, HD.out]
    rw [← e, ofL_bs]; rfl
end Go.Proofs.YtjjpdoabagnmoaaGreatDoor
/-
  Rows of the call's own: what a walk says of them. No program's function here. No condition.
-/
namespace Go.Proofs.YtjjpdoabagnmoaaGreatDoor
open Go.RowKit

theorem ownsRow_none (w : World) (b : Nat) (e : TypeId) : w.ownsRow b e 1 (.slice none 0 0) 0 [] := ⟨rfl, .inl ⟨rfl, rfl⟩⟩
theorem ownsRow_empty (w : World) (b : Nat) (e : TypeId) (hb : b ≤ w.heap.size) : (w.alloc (.cells #[] e)).ownsRow b e 1 (.slice (some ⟨w.heap.size, 0, none⟩) 0 0) 0 [] :=
  ⟨rfl, .inr ⟨w.heap.size, 0, #[], rfl, hb, (MapKept.heap_alloc w _).1, Nat.le_refl _, Nat.zero_le _, rfl, rfl⟩⟩
theorem ownBlock_lo {w : World} {b : Nat} {e : TypeId} {v : Value} {n : Nat} {xs : List Value} (h : w.ownsRow b e 1 v n xs) : ∀ k, v.ownBlock = some k → b ≤ k := fun k hk => (h.lt k hk).1

/-- a row of the call's own stands behind a call that writes nothing that was there -/
theorem ownsRow_below {w w' : World} {b : Nat} {e : TypeId} {v : Value} {n : Nat} {xs : List Value} (h : w.ownsRow b e 1 v n xs) (hb : Below w.heap.size w w') : w'.ownsRow b e 1 v n xs :=
  h.kept (row := none) ⟨hb.os, hb.tape, hb.output, hb.size, fun k hk _ => hb.block k hk⟩ (by cases v.ownBlock <;> simp)
theorem ownsRow_base {w : World} {b b' : Nat} {e : TypeId} {v : Value} {n : Nat} {xs : List Value} (h : w.ownsRow b e 1 v n xs) (hb : b' ≤ b) : w.ownsRow b' e 1 v n xs := by
  obtain ⟨h1, h2⟩ := h
  refine ⟨h1, ?_⟩
  rcases h2 with h2 | ⟨g, cap, cur, r1, r2, r3⟩
  · exact .inl h2
  · exact .inr ⟨g, cap, cur, r1, by omega, r3⟩

theorem ownsRow_slice {w : World} {b : Nat} {e : TypeId} {v : Value} {n : Nat} {xs : List Value} (h : w.ownsRow b e 1 v n xs) : ∃ a cap, v = .slice a n cap := by
  rcases h.2 with ⟨rfl, rfl⟩ | ⟨g, cap, cur, rfl, _⟩
  · exact ⟨none, 0, rfl⟩
  · exact ⟨_, cap, rfl⟩
end Go.Proofs.YtjjpdoabagnmoaaGreatDoor
/-
  Slices of bytes that a call makes and fills, and their text. Condition: no longer than 2 to the 40.
-/
namespace Go.Proofs.YtjjpdoabagnmoaaGreatDoor
open Go.RowKit
set_option linter.unusedVariables false
set_option linter.unusedSimpArgs false

theorem infoByte : (Tryz.prog.info? 5).map (fun i => (i.zero, i.size, i.bytes)) = some (some (.int .u8 0), 1, 1) := by kernel_rfl

theorem makeBytes (n : Nat) (hn : n ≤ 1099511627776) (u : World) : (Instr.makeSlice 28 (.int .i64 (n : Int)) (.int .i64 (n : Int))).run Tryz.prog u =
      .ok (.slice (some ⟨u.heap.size, 0, none⟩) n n) (u.alloc (.cells (madeCells #[.int .u8 0] n) 5)) := by
  obtain ⟨i0, hi, hz0, hz1, hz2⟩ := info_parts infoByte
  have h := run_make (P := Tryz.prog) u 28 5 i0 (.int .u8 0) Tryz.underlying28 hi hz0 .i64 .i64 (n : Int) (n : Int) (by omega) (Int.le_refl _) (by rw [hz2]; omega) (by omega)
  simpa [hz1, Value.cells] using h
theorem madeBytes_get (z : Value) (n j : Nat) (hj : j < n) : (madeCells #[z] n)[j]? = some z := by
  have e : j % 1 = 0 := Nat.mod_one j
  simp [madeCells, hj, e]
theorem fillBytes (w : World) (n : Nat) : Fill w (w.alloc (.cells (madeCells #[.int .u8 0] n) 5)) w.heap.size n (fun _ => .int .u8 0) := by
  have hF := Fill.made w w (Below.refl _ _) (madeCells #[.int .u8 0] n) 5 (fun _ => .int .u8 0) (fun j hj => madeBytes_get _ _ _ (by simpa [size_madeCells] using hj))
  rw [size_madeCells] at hF
  exact hF
/-- the text of a row of bytes -/
theorem textOfRow (w : World) (g cap n : Nat) (l : List UInt8) (hn : l.length = n) (hc : ∀ j (hj : j < l.length), w.cell? ⟨g, j, none⟩ = some (.int .u8 (l[j].toNat : Int))) :
    (convert 28 9 (.slice (some ⟨g, 0, none⟩) n cap)).run Tryz.prog w = .ok (.string (ofL l)) w := by
  subst hn
  refine run_convert_bytes_back w 28 9 5 ⟨g, 0, none⟩ cap l Tryz.underlying28 Tryz.underlying5 Tryz.underlying9 (fun j hj => ?_)
  rw [← hc j hj]
  congr 1
  unfold Addr.add
  split <;> simp_all
/-- a row that holds a number's places -/
theorem textOfDigs {w wr : World} {g n cap v : Nat} (h : Fill w wr g n (fun j => .int .u8 (48 + (dgt v (n - 1 - j) : Nat)))) :
    (convert 28 9 (.slice (some ⟨g, 0, none⟩) n cap)).run Tryz.prog wr = .ok (.string (ofL (digs v n))) wr := by
  refine textOfRow wr g cap n (digs v n) (digs_length n v) (fun j hj => ?_)
  rw [digs_length] at hj
  rw [h.cell j hj, digs_get n v j hj, ofNat_dig (dgt_lt _ _)]
  rfl

/-- a byte as a cell -/
def byteV (c : UInt8) : Value := .int .u8 (c.toNat : Int)
theorem textOfOwned {w : World} {b : Nat} {g cap n : Nat} {l : List UInt8} (h : w.ownsRow b 5 1 (.slice (some ⟨g, 0, none⟩) n cap) n (l.map byteV)) :
    (convert 28 9 (.slice (some ⟨g, 0, none⟩) n cap)).run Tryz.prog w = .ok (.string (ofL l)) w := by
  have hl : l.length = n := by simpa using h.1
  refine textOfRow w g cap n l hl (fun j hj => ?_)
  rw [h.cellAt j (by omega), List.getElem?_map, List.getElem?_eq_getElem hj]
  rfl
/-- an owned row of at least one element has an address -/
theorem ownsRow_some {w : World} {b : Nat} {e : TypeId} {v : Value} {n : Nat} {xs : List Value} (h : w.ownsRow b e 1 v n xs) (hn : 0 < n) : ∃ g cap, v = .slice (some ⟨g, 0, none⟩) n cap ∧ b ≤ g ∧ g < w.heap.size := by
  rcases h.2 with ⟨_, h0⟩ | ⟨g, cap, cur, hv, hg, hh, _⟩
  · omega
  · exact ⟨g, cap, hv, hg, (Array.getElem?_eq_some_iff.1 hh).1⟩
theorem ownsRow_one (w : World) (b : Nat) (e : TypeId) (x : Value) (hb : b ≤ w.heap.size) : (w.alloc (.cells #[x] e)).ownsRow b e 1 (.slice (some ⟨w.heap.size, 0, none⟩) 1 1) 1 [x] :=
  ⟨rfl, .inr ⟨w.heap.size, 1, #[x], rfl, hb, (MapKept.heap_alloc w _).1, Nat.le_refl _, by unfold maxLen; omega, rfl, rfl⟩⟩
/-- the cells of an owned row, where a law asks for them -/
theorem ownsRow_news {w : World} {b : Nat} {e : TypeId} {g cap n : Nat} {xs : List Value} (h : w.ownsRow b e 1 (.slice (some ⟨g, 0, none⟩) n cap) n xs) : ∀ j u, xs[j]? = some u → w.cell? ((⟨g, 0, none⟩ : Addr).add j) = some u := by
  intro j u hj
  have hjl : j < xs.length := (List.getElem?_eq_some_iff.1 hj).1
  have := h.cellAt j (by have := h.1; omega)
  rw [hj] at this
  rw [← this]
  congr 1
  unfold Addr.add
  split <;> simp_all
theorem byteV_one {l : List UInt8} : ∀ u ∈ l.map byteV, u.oneCell' = true := by
  intro u hu
  obtain ⟨c, _, rfl⟩ := List.mem_map.1 hu
  rfl
end Go.Proofs.YtjjpdoabagnmoaaGreatDoor
/-
  The contract of so many noughts, the reference's. Condition: no more than 2 to the 39.
-/
namespace Go.Proofs.YtjjpdoabagnmoaaGreatDoor
open Go.RowKit
set_option linter.unusedVariables false
set_option linter.unusedSimpArgs false

theorem l02Zeros_any (n : Nat) (w : World) (hn : n ≤ 549755813888) :
    Calls Tryz.prog 40 #[.int .i64 (n : Int)] w fun e w' => e = .returned (.string (ofL (zs n))) ∧ Below w.heap.size w w' := by
  obtain ⟨i0, hinf, hy0, hy1, hy2⟩ := info_parts infoByte
  go_enter Tryz.func40, Tryz.ntmps40
  go_wp2
  go_loopw [3, 4] (fun v i wr => ∃ (k g cap : Nat), k ≤ n ∧ i = .int .i64 k ∧ v = .slice (some ⟨g, 0, none⟩) k cap ∧ wr.ownsRow w.heap.size 5 1 (.slice (some ⟨g, 0, none⟩) k cap) k ((zs k).map byteV) ∧ Below w.heap.size w wr) (fun _ i _ => n - (intOf i).toNat)
  case atStart =>
    exact ⟨0, w.heap.size, 0, Nat.zero_le _, rfl, rfl, ownsRow_empty _ _ _ (Nat.le_refl _), (Below.refl _ _).alloc (Nat.le_refl _) _⟩
  case round =>
    obtain ⟨k, g, cap, hk, rfl, rfl, hown, hb⟩ := hrel
    have HOW := Lib.hid hown
    have HBW := Lib.hid hb
    have hlow := hb.size
    clear hown hb
    by_cases hlt : k < n
    · go_wp2_with (at_builtin; refine wpList_append_own _ rfl _ _ 28 rfl w.heap.size 5 i0 (.int .u8 0) 1 1 Tryz.underlying28 hinf hy0 hy1 hy2 rfl (by decide) _ _ _ rfl (HOW.out.alloc _) ⟨wr.heap.size, 0, none⟩ 1 1 [.int .u8 48] rfl rfl (ownsRow_news (ownsRow_one wr w.heap.size 5 _ hlow)) (fun u hu => by simp at hu; subst hu; rfl) (by unfold maxLen; omega) (by omega) (by simp; omega) ?_; intro v2 w2 hown2 hgr2 hnil2)
      obtain ⟨g2, cap2, rfl, hg2, hg2'⟩ := ownsRow_some hown2 (by omega)
      have hbz : Below w.heap.size w w2 := Below.grown (HBW.out.alloc hlow _) hgr2 (by simp; omega) (ownBlock_lo HOW.out)
      refine ⟨⟨k + 1, g2, cap2, by omega, by go_num, rfl, ?_, hbz⟩, by simp [intOf]; omega⟩
      rw [zs_succ, List.map_append]
      exact hown2
    · obtain rfl : k = n := by omega
      have hconv := textOfOwned HOW.out
      go_wp2
      go_ret
      exact ⟨rfl, HBW.out⟩
end Go.Proofs.YtjjpdoabagnmoaaGreatDoor
/-
  Two numbers by one power of ten: the contracts of digits and aligned, of l03Dig and l03Level. Condition: numbers in form.
-/
namespace Go.Proofs.YtjjpdoabagnmoaaGreatDoor
open Go.RowKit
set_option linter.unusedVariables false
set_option linter.unusedSimpArgs false

/-- a number's digits -/
def dg (s : ByteArray) : ByteArray := if s.size = 0 then ⟨#[48]⟩ else s
theorem dg_nil {s : ByteArray} (h : s.size = 0) : dg s = ⟨#[48]⟩ := if_pos h
theorem dg_some {s : ByteArray} (h : 0 < s.size) : dg s = s := if_neg (by omega)
/-- a number in form: its bounds -/
theorem dec_facts {n : Bool} {s : ByteArray} {x : Int} (h : decOk n (bs s) x = true) :
    s.size ≤ 20 ∧ -119 ≤ x ∧ x ≤ 99 ∧ Canon (bs (dg s)) ∧ val (bs (dg s)) = val (bs s) ∧ 1 ≤ (dg s).size ∧ (dg s).size ≤ 20 ∧ (n = true → 0 < val (bs s)) ∧ (0 < s.size → 0 < val (bs s)) := by
  by_cases h0 : 0 < s.size
  · have hne : bs s ≠ [] := ne_nil h0
    obtain ⟨c, hv, hl, -⟩ := form_same h hne
    rw [bs_length] at hl
    unfold decOk at h
    rw [if_neg hne] at h
    simp only [Bool.and_eq_true, decide_eq_true_eq, bs_length] at h
    obtain ⟨⟨-, h5⟩, h6⟩ := h
    rw [dg_some h0]
    exact ⟨hl, by omega, by omega, c, rfl, by omega, hl, fun _ => by omega, fun _ => by omega⟩
  · obtain ⟨rfl, rfl, rfl⟩ := decOk_zero h (by omega)
    refine ⟨by decide, by decide, by decide, ?_, rfl, by decide, by decide, (fun h => by cases h), (fun h => absurd h (by decide))⟩
    have : bs (dg ⟨#[]⟩) = dec 0 := by rw [dec_zero]; rfl
    rw [this]; exact dec_canon 0
/-- a number's digits by the lower one of two powers of ten -/
def lvl (s : ByteArray) (x y : Int) : Nat := val (bs s) * 10 ^ (x - min x y).toNat

theorem drew_size (u : World) : u.drew.heap.size = u.heap.size := rfl
/-- two numbers just laid -/
theorem two_laid (w : World) (n : Bool) (s : ByteArray) (x : Int) (m : Bool) (t : ByteArray) (y : Int) :
    ∃ w0, (w.alloc (Obj.cells #[.bool n, .string s, .int .i64 x] 23)).alloc (Obj.cells #[.bool m, .string t, .int .i64 y] 23) = w0 ∧ (w.heap.size < w0.heap.size ∧ w.heap.size + 1 < w0.heap.size) ∧ Below w.heap.size w w0 ∧
      (w0.cell? ⟨w.heap.size, 0, none⟩ = some (.bool n) ∧ w0.cell? ⟨w.heap.size, 1, none⟩ = some (.string s) ∧ w0.cell? ⟨w.heap.size, 2, none⟩ = some (.int .i64 x) ∧ w0.cell? ⟨w.heap.size + 1, 0, none⟩ = some (.bool m) ∧ w0.cell? ⟨w.heap.size + 1, 1, none⟩ = some (.string t) ∧ w0.cell? ⟨w.heap.size + 1, 2, none⟩ = some (.int .i64 y)) := by
  refine ⟨_, rfl, ⟨by simp; omega, by simp⟩, ((Below.refl _ w).alloc (Nat.le_refl _) _).alloc (by simp) _, ?_⟩
  simp
/-- a call leaves them -/
theorem two_kept {w w1 : World} {p q : Nat} {n : Bool} {s : ByteArray} {x : Int} {m : Bool} {t : ByteArray} {y : Int} (hb : Below w.heap.size w w1) (hp : p < w.heap.size ∧ q < w.heap.size) {v : World} (hv : Below v.heap.size v w)
    (h : w.cell? ⟨p, 0, none⟩ = some (.bool n) ∧ w.cell? ⟨p, 1, none⟩ = some (.string s) ∧ w.cell? ⟨p, 2, none⟩ = some (.int .i64 x) ∧ w.cell? ⟨q, 0, none⟩ = some (.bool m) ∧ w.cell? ⟨q, 1, none⟩ = some (.string t) ∧ w.cell? ⟨q, 2, none⟩ = some (.int .i64 y)) :
    Below v.heap.size v w1 ∧ (p < w1.heap.size ∧ q < w1.heap.size) ∧ (w1.cell? ⟨p, 0, none⟩ = some (.bool n) ∧ w1.cell? ⟨p, 1, none⟩ = some (.string s) ∧ w1.cell? ⟨p, 2, none⟩ = some (.int .i64 x) ∧ w1.cell? ⟨q, 0, none⟩ = some (.bool m) ∧ w1.cell? ⟨q, 1, none⟩ = some (.string t) ∧ w1.cell? ⟨q, 2, none⟩ = some (.int .i64 y)) := by
  have c := (bcell hb).1
  rw [c p 0 hp.1, c p 1 hp.1, c p 2 hp.1, c q 0 hp.2, c q 1 hp.2, c q 2 hp.2]
  exact ⟨hv.trans (hb.mono hv.size), ⟨Nat.lt_of_lt_of_le hp.1 hb.size, Nat.lt_of_lt_of_le hp.2 hb.size⟩, h⟩

theorem digits_any (n : Bool) (s : ByteArray) (x : Int) (w : World) :
    Calls Tryz.prog 85 #[.agg #[.bool n, .string s, .int .i64 x]] w fun e w' => e = .returned (.string (dg s)) ∧ Below w.heap.size w w' := by
  by_cases h0 : 0 < s.size
  · have hemp := isEmpty_no h0
    rw [dg_some h0]
    go_enter Tryz.func85, Tryz.ntmps85
    go_wp2
    go_ret
    refine ⟨rfl, ?_⟩
    go_light
    (repeat (first | exact Below.refl _ _ | assumption | refine Below.drew ?_ | refine Go.below_drewN ?_ _ | (refine Below.alloc ?_ (by first | exact Nat.le_refl _ | (simp; done) | (simp; omega) | (simp at *; omega)) _) | (refine Below.setCell ?_ (by first | exact Nat.le_refl _ | (simp; done) | (simp; omega)) _) | (refine Below.trans ?_ (Below.mono (by assumption) (by first | exact Nat.le_refl _ | (simp; done) | (simp; omega) | (simp at *; omega))))))
  · have hemp := isEmpty_yes (s := s) (by omega)
    rw [dg_nil (by omega)]
    go_enter Tryz.func85, Tryz.ntmps85
    go_wp2
    go_ret
    refine ⟨rfl, ?_⟩
    go_light
    (repeat (first | exact Below.refl _ _ | assumption | refine Below.drew ?_ | refine Go.below_drewN ?_ _ | (refine Below.alloc ?_ (by first | exact Nat.le_refl _ | (simp; done) | (simp; omega) | (simp at *; omega)) _) | (refine Below.setCell ?_ (by first | exact Nat.le_refl _ | (simp; done) | (simp; omega)) _) | (refine Below.trans ?_ (Below.mono (by assumption) (by first | exact Nat.le_refl _ | (simp; done) | (simp; omega) | (simp at *; omega))))))


set_option maxRecDepth 10000 in
theorem aligned_any (n : Bool) (s : ByteArray) (x : Int) (m : Bool) (t : ByteArray) (y : Int) (w : World) (h1 : decOk n (bs s) x = true) (h2 : decOk m (bs t) y = true) :
    Calls Tryz.prog 81 #[.agg #[.bool n, .string s, .int .i64 x], .agg #[.bool m, .string t, .int .i64 y]] w fun e w' => e = .returned (.tuple #[.string (ofL (dec (lvl s x y))), .string (ofL (dec (lvl t y x))), .int .i64 (min x y)]) ∧ Below w.heap.size w w' := by
  obtain ⟨a1, a2, a3, a4, a5, a6, a7, -, -⟩ := dec_facts h1
  obtain ⟨b1, b2, b3, b4, b5, b6, b7, -, -⟩ := dec_facts h2
  clear h1 h2
  obtain ⟨z, hz⟩ : ∃ z, min x y = z := ⟨_, rfl⟩
  have hzx : z ≤ x := by omega
  have hzy : z ≤ y := by omega
  have hzl : -119 ≤ z := by omega
  have ex : ((x - z).toNat : Int) = x - z := by omega
  have ey : ((y - z).toNat : Int) = y - z := by omega
  have hS := Lib.hid (fun w => by
    have := natShift_any (dg s) (x - z).toNat w a4 (by omega) (by omega)
    rw [a5, ex] at this
    exact this : ∀ w : World, Calls Tryz.prog 50 #[.string (dg s), .int .i64 (x - z)] w fun e w' => e = .returned (.string (ofL (dec (val (bs s) * 10 ^ (x - z).toNat)))) ∧ Below w.heap.size w w')
  have hT := Lib.hid (fun w => by
    have := natShift_any (dg t) (y - z).toNat w b4 (by omega) (by omega)
    rw [b5, ey] at this
    exact this : ∀ w : World, Calls Tryz.prog 50 #[.string (dg t), .int .i64 (y - z)] w fun e w' => e = .returned (.string (ofL (dec (val (bs t) * 10 ^ (y - z).toNat)))) ∧ Below w.heap.size w w')
  have e1 : lvl s x y = val (bs s) * 10 ^ (x - z).toNat := by unfold lvl; rw [hz]
  have e2 : lvl t y x = val (bs t) * 10 ^ (y - z).toNat := by unfold lvl; rw [show min y x = z by omega]
  rw [e1, e2, hz]
  have wx : IntKind.i64.wrap (x - z) = x - z := IntWalk.i64_in _ (by omega)
  have wy : IntKind.i64.wrap (y - z) = y - z := IntWalk.i64_in _ (by omega)
  clear e1 e2 a4 b4 a5 b5 ex ey
  have hl0 : w.heap.size < w.heap.size + 1 + 1 := by omega
  go_enter Tryz.func81, Tryz.ntmps81
  go_wp2_with fail
  obtain ⟨w0, hw0, hz0, hb0, hc0⟩ := two_laid w n s x m t y
  rw [hw0]
  clear hw0
  go_region_held3 (fun w' => w'.cell? ⟨w.heap.size, 0, none⟩ = some (.bool n) ∧ w'.cell? ⟨w.heap.size, 1, none⟩ = some (.string s) ∧ w'.cell? ⟨w.heap.size, 2, none⟩ = some (.int .i64 x) ∧ w'.cell? ⟨w.heap.size + 1, 0, none⟩ = some (.bool m) ∧ w'.cell? ⟨w.heap.size + 1, 1, none⟩ = some (.string t) ∧ w'.cell? ⟨w.heap.size + 1, 2, none⟩ = some (.int .i64 y)) (first | assumption | go_keep)
    (first
      | (go_at_call 85; refine (digits_any _ _ _ _).mono ?_; rintro e w1 ⟨rfl, hb1⟩; obtain ⟨hv1, hz1, hc1⟩ := two_kept hb1 (by assumption) (v := w) (by first | assumption | exact Below.drew (by assumption)) (by assumption); clear hb1)
      | (go_at_call_of 50 (dg s); refine (hS.out _).mono ?_; rintro e w1 ⟨rfl, hb1⟩; obtain ⟨hv1, hz1, hc1⟩ := two_kept hb1 (by assumption) (v := w) (by first | assumption | exact Below.drew (by assumption)) (by assumption); clear hb1)
      | (go_at_call_of 50 (dg t); refine (hT.out _).mono ?_; rintro e w1 ⟨rfl, hb1⟩; obtain ⟨hv1, hz1, hc1⟩ := two_kept hb1 (by assumption) (v := w) (by first | assumption | exact Below.drew (by assumption)) (by assumption); clear hb1))
  clear hS hT
  go_wp2
  refine bodyPost_ret (v := .tuple #[.string (ofL (dec (val (bs s) * 10 ^ (x - z).toNat))), .string (ofL (dec (val (bs t) * 10 ^ (y - z).toNat))), .int .i64 z]) (by simp [results, Tryz.results81, go_sem, *]) rfl ⟨rfl, ?_⟩
  assumption

/-- the digits of a number by the lower one of two powers of ten, as a row -/
def lvL (s : ByteArray) (x y : Int) : List UInt8 := bs (dg s) ++ zs (x - min x y).toNat
theorem lvL_val (s : ByteArray) (x y : Int) (h : val (bs (dg s)) = val (bs s)) : val (lvL s x y) = lvl s x y := by
  unfold lvL lvl; rw [val_zs, h]
theorem lvL_all (s : ByteArray) (x y : Int) (h : Canon (bs (dg s))) : (lvL s x y).all isDig = true := all_zs h.dig _
theorem lvL_of {s : ByteArray} {x y z : Int} (h : min x y = z) : ofL (lvL s x y) = dg s ++ ofL (zs (x - z).toNat) := by
  apply bs_inj
  rw [bs_ofL, bs_app, bs_ofL, ← h]; rfl

end Go.Proofs.YtjjpdoabagnmoaaGreatDoor
/-
  The contracts of adding naturals, the program's: the row of the sum. Conditions: rows of digits, no longer than 2 to the 39.
-/
namespace Go.Proofs.YtjjpdoabagnmoaaGreatDoor
open Go.RowKit
set_option linter.unusedVariables false
set_option linter.unusedSimpArgs false

theorem ret_str {s t : ByteArray} (h : s = t) : Ending.returned (.string s) = .returned (.string t) := by rw [h]

set_option maxHeartbeats 1000000 in
theorem natAdd_any (s t : ByteArray) (w : World) (hs : (bs s).all isDig = true) (ht : (bs t).all isDig = true) (hs' : s.size ≤ 549755813888) (ht' : t.size ≤ 549755813888) :
    Calls Tryz.prog 82 #[.string s, .string t] w fun e w' => e = .returned (.string (ofL (dec (val (bs s) + val (bs t))))) ∧ Below w.heap.size w w' := by
  obtain ⟨n, hn⟩ : ∃ n : Nat, n = max s.size t.size + 1 := ⟨_, rfl⟩
  have hmk := makeBytes n (by omega)
  have HF := Lib.hid (fillBytes w n)
  have HS := Lib.hid hs
  have HT := Lib.hid ht
  have hA := val_lt (bs s) hs
  have hB := val_lt (bs t) ht
  rw [bs_length] at hA hB
  have hlt : val (bs s) + val (bs t) < 10 ^ n := by
    have h1 : 10 ^ s.size ≤ 10 ^ (max s.size t.size) := Nat.pow_le_pow_right (by omega) (by omega)
    have h2 : 10 ^ t.size ≤ 10 ^ (max s.size t.size) := Nat.pow_le_pow_right (by omega) (by omega)
    rw [hn, Nat.pow_succ]; omega
  have HLT := Lib.hid hlt
  have hmax : (max (s.size : Int) (t.size : Int)) + 1 = (n : Int) := by omega
  have hn0 : 1 ≤ n := by omega
  have hnb : n ≤ 549755813889 := by omega
  have HN := Lib.hid hn
  clear hs ht hA hB hlt hn
  go_enter Tryz.func82, Tryz.ntmps82
  go_wp2
  clear hmk hmax
  go_loopw [7, 18] (fun c i wr => ∃ k : Nat, k ≤ n ∧ i = .int .i64 k ∧ c = .int .i64 (car (val (bs s)) (val (bs t)) k : Nat) ∧ Fill w wr w.heap.size n (fun j => if n - k ≤ j then .int .u8 (48 + (dgt (val (bs s) + val (bs t)) (n - 1 - j) : Nat)) else .int .u8 0)) (fun _ i _ => n - (intOf i).toNat)
  case atStart =>
    refine ⟨0, Nat.zero_le _, rfl, by rw [car_zero]; rfl, HF.out.congr (fun j hj => ?_)⟩
    rw [if_neg (by omega)]
  case round =>
    obtain ⟨k, hk, rfl, rfl, hfill⟩ := hrel
    have HI := Lib.hid hfill
    clear hfill
    obtain ⟨A, hA⟩ : ∃ A, val (bs s) = A := ⟨_, rfl⟩
    obtain ⟨B, hB⟩ : ∃ B, val (bs t) = B := ⟨_, rfl⟩
    rw [hA, hB] at HI ⊢
    have HA := Lib.hid hA
    have HB := Lib.hid hB
    clear hA hB
    by_cases hlt : k < n
    · have c1 := car_le A B k
      have c2 := dgt_lt A k
      have c3 := dgt_lt B k
      have HC4 := Lib.hid (car_succ A B k)
      have HC5 := Lib.hid (car_dgt A B k)
      obtain ⟨c, hc⟩ : ∃ c, car A B k = c := ⟨_, rfl⟩
      obtain ⟨x, hx⟩ : ∃ x, dgt A k = x := ⟨_, rfl⟩
      obtain ⟨y, hy⟩ : ∃ y, dgt B k = y := ⟨_, rfl⟩
      rw [hc] at c1 ⊢
      rw [hx] at c2
      rw [hy] at c3
      have HC := Lib.hid hc
      have HX := Lib.hid hx
      have HY := Lib.hid hy
      clear hc hx hy
      have hs0 := HI.out.cell (n - 1 - k) (by omega)
      have hf0 := HI.out.free (n - 1 - k) (by omega)
      rw [if_neg (by omega)] at hs0
      have ht0 : ((n : Int) - 1 - (k : Int)).toNat = n - 1 - k := by omega
      have ht1 : 0 ≤ (n : Int) - 1 - (k : Int) := by omega
      have ht2 : (n : Int) - 1 - (k : Int) < (n : Int) := by omega
      have hkn : (k : Int) < (n : Int) := by omega
      have hd0 : 0 ≤ ((c : Int) + ((x : Int) + (y : Int))) / 10 := by omega
      have hd1 : ((c : Int) + ((x : Int) + (y : Int))) / 10 ≤ 1 := by omega
      have hm0 : 0 ≤ ((c : Int) + ((x : Int) + (y : Int))) % 10 := by omega
      have hm1 : ((c : Int) + ((x : Int) + (y : Int))) % 10 ≤ 9 := by omega
      go_wp2_with fail
      refine (digitAt_any s k _ HS.out (by omega) (by omega)).mono ?_
      rintro e w1 ⟨rfl, hw1⟩
      obtain rfl : wr = w1 := hw1.symm
      rw [HA.out, HX.out]
      go_wp2_with fail
      refine (digitAt_any t k _ HT.out (by omega) (by omega)).mono ?_
      rintro e w2 ⟨rfl, hw2⟩
      obtain rfl : wr = w2 := hw2.symm
      rw [HB.out, HY.out]
      clear hw1 hw2
      go_wp2
      have e4 := HC4.out
      have e5 := HC5.out
      rw [HC.out, HX.out, HY.out] at e4 e5
      refine ⟨⟨k + 1, by omega, by go_num, by rw [← e4]; congr 1; omega, ?_⟩, by simp [intOf]; omega⟩
      refine (HI.out.store (j := n - 1 - k) (by omega) _).congr ?_
      intro j hj
      by_cases e : j = n - 1 - k
      · rw [if_pos e, if_pos (by omega), e, show n - 1 - (n - 1 - k) = k by omega, ← e5]
        congr 1
        omega
      · rw [if_neg e]
        by_cases e1 : n - k ≤ j
        · rw [if_pos e1, if_pos (by omega)]
        · rw [if_neg e1, if_neg (by omega)]
    · obtain rfl : k = n := by omega
      have hconv := textOfDigs (cap := k) (HI.out.congr (fun j hj => if_pos (by omega)))
      have HTD := Lib.hid (trimZ_digs HLT.out)
      go_wp2_with fail
      refine (trimNat_any _ _).mono ?_
      rintro e w1 ⟨rfl, rfl⟩
      go_wp2
      go_ret
      refine ⟨ret_str ?_, HI.out.below⟩
      rw [bs_ofL, ← HA.out, ← HB.out, HTD.out]
end Go.Proofs.YtjjpdoabagnmoaaGreatDoor
