/-
  The contracts of DecOk, the reference's and the program's: each answers decOk. No condition.
-/
import Derived.Test.YtjjpdoabagnmoaaDoorNatOk
namespace Go.Proofs.YtjjpdoabagnmoaaDoor
open Go.RowKit
set_option linter.unusedVariables false
set_option linter.unusedSimpArgs false

/-- a number in form -/
def decOk (n : Bool) (l : List UInt8) (x : Int) : Bool :=
  if l = [] then !n && decide (x = 0)
  else decide (l.length ≤ 20) && natOk l && (l.head? != some 48) && (l.getLast? != some 48) && decide (-99 - (l.length : Int) + 1 ≤ x) && decide (x ≤ 99 - (l.length : Int) + 1)

theorem decOk_nil (n : Bool) (x : Int) : decOk n [] x = (!n && decide (x = 0)) := by simp [decOk]
theorem decOk_long {n : Bool} {s : ByteArray} {x : Int} (h : 20 < s.size) : decOk n (bs s) x = false := by
  unfold decOk; rw [if_neg (ne_nil (by omega)), bs_length, decide_eq_false (p := s.size ≤ 20) (by omega)]; simp
theorem decOk_head {n : Bool} {s : ByteArray} {x : Int} (h0 : 0 < s.size) (h : (s[0].toNat : Int) = 48) : decOk n (bs s) x = false := by
  unfold decOk; rw [if_neg (ne_nil h0), bs_head s h0, u8_48 h]; simp
theorem decOk_last {n : Bool} {s : ByteArray} {x : Int} (h0 : 0 < s.size) (h : ((s[s.size - 1]'(by omega)).toNat : Int) = 48) : decOk n (bs s) x = false := by
  unfold decOk; rw [if_neg (ne_nil h0), bs_last s h0, u8_48 h]; simp
theorem decOk_nat {n : Bool} {s : ByteArray} {x : Int} (h0 : 0 < s.size) (h : natOk (bs s) = false) : decOk n (bs s) x = false := by
  unfold decOk; rw [if_neg (ne_nil h0), h]; simp
theorem decOk_lo {n : Bool} {s : ByteArray} {x : Int} (h0 : 0 < s.size) (h : ¬ (-99 - (s.size : Int) + 1 ≤ x)) : decOk n (bs s) x = false := by
  unfold decOk; rw [if_neg (ne_nil h0), bs_length, decide_eq_false (p := -99 - (s.size : Int) + 1 ≤ x) h]; simp
theorem decOk_fin {n : Bool} {s : ByteArray} {x : Int} (h0 : 0 < s.size) (h1 : s.size ≤ 20) (h2 : ¬ (s[0].toNat : Int) = 48) (h3 : ¬ ((s[s.size - 1]'(by omega)).toNat : Int) = 48)
    (h4 : natOk (bs s) = true) (h5 : -99 - (s.size : Int) + 1 ≤ x) : decOk n (bs s) x = decide (x ≤ 99 - (s.size : Int) + 1) := by
  have e2 := u8_n48 h2
  have e3 := u8_n48 h3
  unfold decOk; rw [if_neg (ne_nil h0), bs_length, bs_head s h0, bs_last s h0, h4, decide_eq_true h1, decide_eq_true h5]; simp [e2, e3]

theorem wf_i64 {x : Int} (h : (Lit.int .i64 x).wf = true) : -9223372036854775808 ≤ x ∧ x ≤ 9223372036854775807 := by
  simpa [Lit.wf, IntKind.min, IntKind.max, IntKind.signed, IntKind.bits] using h

theorem specDecOk_any (n : Bool) (s : ByteArray) (x : Int) (w : World) (hs : s.size ≤ maxLen) (hx : (Lit.int .i64 x).wf = true) :
    Calls Tryd.prog 14 #[.agg #[.bool n, .string s, .int .i64 x]] w fun e w' => e = .returned (.bool (decOk n (bs s) x)) ∧ Below w.heap.size w w' := by
  have hs' := hs
  unfold maxLen at hs'
  by_cases h0 : 0 < s.size
  · cases hn : natOk (bs s)
    all_goals
      have hemp := isEmpty_no h0
      go_enter Tryd.func14, Tryd.ntmps14
      go_wp2_with (go_at_call 35; refine (specNatOk_any _ _ hs).mono ?_; rintro e w' ⟨rfl, rfl⟩)
    all_goals go_ret
    all_goals refine ⟨ret_bool ?_, (Below.refl _ _).alloc (Nat.le_refl _) _⟩
    all_goals symm
    all_goals go_light
    all_goals first
      | exact decOk_long (by omega)
      | exact decOk_head h0 (by assumption)
      | exact decOk_last h0 (by assumption)
      | exact decOk_nat h0 hn
      | exact decOk_lo h0 (by omega)
      | (rw [decOk_fin h0 (by omega) (by assumption) (by assumption) hn (by omega)]; done)
      | (exfalso; rename_i hh; simp only [beq_iff_eq] at hh; omega)
  · have hz : s.size = 0 := by omega
    have hemp := isEmpty_yes hz
    go_enter Tryd.func14, Tryd.ntmps14
    go_wp2
    all_goals go_ret
    all_goals refine ⟨ret_bool ?_, (Below.refl _ _).alloc (Nat.le_refl _) _⟩
    all_goals rw [bs_empty hz, decOk_nil]
    all_goals go_light
    all_goals (first | (simp [*]; done) | (simp [*]; rfl))

theorem isDec_any (n : Bool) (s : ByteArray) (x : Int) (w : World) (hs : s.size ≤ maxLen) (hx : (Lit.int .i64 x).wf = true) :
    Calls Tryd.prog 36 #[.agg #[.bool n, .string s, .int .i64 x]] w fun e w' => e = .returned (.bool (decOk n (bs s) x)) ∧ Below w.heap.size w w' := by
  have hs' := hs
  unfold maxLen at hs'
  by_cases h0 : 0 < s.size
  · cases hn : natOk (bs s)
    all_goals
      have hemp := isEmpty_no h0
      go_enter Tryd.func36, Tryd.ntmps36
      go_wp2_with (first | (go_at_call 68; refine (isNat_any _ _ hs).mono ?_; rintro e w' ⟨rfl, rfl⟩) | go_in)
    all_goals go_ret
    all_goals refine ⟨ret_bool ?_, (Below.refl _ _).alloc (Nat.le_refl _) _⟩
    all_goals symm
    all_goals go_light
    all_goals first
      | exact decOk_long (by omega)
      | exact decOk_head h0 (by assumption)
      | exact decOk_last h0 (by assumption)
      | exact decOk_nat h0 hn
      | exact decOk_lo h0 (by omega)
      | (rw [decOk_fin h0 (by omega) (by assumption) (by assumption) hn (by omega)]; done)
      | (rw [decOk_fin h0 (by omega) (by assumption) (by assumption) hn (by omega)]; simp [*]; done)
  · have hz : s.size = 0 := by omega
    have hemp := isEmpty_yes hz
    go_enter Tryd.func36, Tryd.ntmps36
    go_wp2
    all_goals go_ret
    all_goals refine ⟨ret_bool ?_, (Below.refl _ _).alloc (Nat.le_refl _) _⟩
    all_goals rw [bs_empty hz, decOk_nil]
    all_goals go_light
    all_goals (first | (simp [*]; done) | (simp [*]; rfl))

end Go.Proofs.YtjjpdoabagnmoaaDoor
