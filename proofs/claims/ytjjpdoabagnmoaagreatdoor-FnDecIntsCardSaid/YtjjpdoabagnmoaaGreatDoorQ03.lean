/-
  Texts of this claim in one file, in build order: NatOk, DecOk, DecLaw, DecNeg, Val, Sums, Rounds. Each says ahead what it proves and under which conditions.
-/
import Derived.Test.YtjjpdoabagnmoaaGreatDoorQ01
import Derived.WalkLawsBesides
import Derived.WalkSpells
import Derived.BigQuiet
import Derived.Deep.Light
import Derived.Deep.QuietTactic
import Derived.WalkSmall
import Derived.Lib.Bytealg
import Derived.Lib.Repeat
import Derived.Lib.SmallJoins
/-
  The contracts of NatOk, the reference's and the program's: each answers natOk. No condition.
-/
namespace Go.Proofs.YtjjpdoabagnmoaaGreatDoor
open Go.RowKit
set_option linter.unusedVariables false
set_option linter.unusedSimpArgs false

theorem isNat_any (s : ByteArray) (w : World) (hs : s.size ≤ maxLen) :
    Calls Tryz.prog 70 #[.string s] w fun e w' => e = .returned (.bool (natOk (bs s))) ∧ w = w' := by
  unfold maxLen at hs
  go_enter Tryz.func70, Tryz.ntmps70
  go_wp2
  go_loop [6] (fun i => ∃ k : Nat, k ≤ s.size ∧ i = .int .i64 k ∧ ((bs s).take k).all isDig = true) (fun i => s.size - (intOf i).toNat)
  case atStart => exact ⟨0, Nat.zero_le _, rfl, rfl⟩
  case round =>
    obtain ⟨k, hk, rfl, hall⟩ := hrel
    have HA := Lib.hid hall
    clear hall
    by_cases hlt : k < s.size
    · go_wp2
      all_goals first
        | (go_round
           case rel =>
             refine ⟨k + 1, by omega, by go_num, ?_⟩
             rw [take_snoc s k hlt, List.all_append, HA.out]
             simp [isDig]; omega
           case measure => simp [intOf]; omega)
        | (go_ret
           refine ⟨ret_bool ?_, rfl⟩
           symm
           unfold natOk
           rw [all_no (bs_mem s k hlt) (isDig_no (by omega))]; rfl)
    · obtain rfl : k = s.size := by omega
      go_wp2
      all_goals go_ret
      all_goals refine ⟨ret_bool ?_, rfl⟩
      all_goals have ha := HA.out
      all_goals rw [take_all] at ha
      all_goals first
        | (rw [natOk_big (by rw [bs_length]; omega)]; done)
        | (rw [natOk_empty (by rw [bs_length]; omega)]; done)
        | (obtain ⟨l, hl⟩ := bs_cons s (by omega)
           have hn : (bs s).length ≤ 600 := by rw [bs_length]; omega
           rw [hl] at ha hn
           first
             | (rw [hl, natOk_nz ha hn (by assumption)]; done)
             | (rw [Lib.toList_data, show s.data.toList = bs s from rfl, hl, natOk_z ha hn (by assumption)]; done))

theorem specNatOk_no (s : ByteArray) (w : World) (hs : s.size ≤ maxLen) (h : s.size < 1 ∨ 600 < s.size ∨ (1 < s.size ∧ (bs s).head? = some 48)) :
    Calls Tryz.prog 37 #[.string s] w fun e w' => e = .returned (.bool false) ∧ w = w' := by
  unfold maxLen at hs
  have H := Lib.hid h
  have h1 : s.size < 1 ∨ 600 < s.size ∨ (1 ≤ s.size ∧ s.size ≤ 600) := by omega
  clear h
  rcases h1 with h | h | ⟨h, h'⟩
  · go_enter Tryz.func37, Tryz.ntmps37
    go_wp2
    go_ret
    exact ⟨rfl, rfl⟩
  · go_enter Tryz.func37, Tryz.ntmps37
    go_wp2
    go_ret
    exact ⟨rfl, rfl⟩
  · obtain ⟨h1, h0⟩ : 1 < s.size ∧ ((s[0].toNat : Int) == 48) = true := by
      have e := H.out
      rcases e with e | e | ⟨e, e'⟩
      · omega
      · omega
      · refine ⟨e, ?_⟩
        obtain ⟨l, hl⟩ := bs_cons s (by omega)
        rw [hl] at e'
        simp at e'
        rw [e']; rfl
    clear H
    go_enter Tryz.func37, Tryz.ntmps37
    go_wp2
    go_ret
    exact ⟨rfl, rfl⟩

theorem specNatOk_any (s : ByteArray) (w : World) (hs : s.size ≤ maxLen) :
    Calls Tryz.prog 37 #[.string s] w fun e w' => e = .returned (.bool (natOk (bs s))) ∧ w = w' := by
  by_cases hno : s.size < 1 ∨ 600 < s.size ∨ (1 < s.size ∧ (bs s).head? = some 48)
  · refine (specNatOk_no s w hs hno).mono ?_
    rintro e w' ⟨rfl, rfl⟩
    refine ⟨ret_bool ?_, rfl⟩
    symm
    rcases hno with h | h | ⟨h, h'⟩
    · exact natOk_empty (by rw [bs_length]; omega)
    · exact natOk_big (by rw [bs_length]; omega)
    · unfold natOk
      rw [h', bs_length, decide_eq_false (p := s.size = 1) (by omega)]; simp
  · have h1 : 1 ≤ s.size := by omega
    have h2 : s.size ≤ 600 := by omega
    have hyes : (bs s).all isDig = true → natOk (bs s) = true := by
      intro ha
      unfold natOk
      rw [ha, bs_length, decide_eq_true h1, decide_eq_true h2]
      by_cases e : s.size = 1
      · simp [e]
      · have : ¬ (bs s).head? = some 48 := fun e' => hno (.inr (.inr ⟨by omega, e'⟩))
        simp [this]
    have hz : s.size ≤ 1 ∨ (1 < s.size ∧ ((s[0].toNat : Int) == 48) = false) := by
      by_cases e : s.size ≤ 1
      · exact .inl e
      · refine .inr ⟨by omega, ?_⟩
        obtain ⟨l, hl⟩ := bs_cons s (by omega)
        rw [hl] at hno
        have : ¬ s[0] = 48 := fun e' => hno (.inr (.inr ⟨by omega, by simp [e']⟩))
        rw [beq_eq_false_iff_ne]
        intro e'
        exact this (UInt8.toNat_inj.1 (by have e : (48 : UInt8).toNat = 48 := rfl; omega))
    have HY := Lib.hid hyes
    clear hyes hno
    unfold maxLen at hs
    rcases hz with h | ⟨h, h0⟩
    all_goals
      go_enter Tryz.func37, Tryz.ntmps37
      go_wp2
      go_loop [3] (fun i => ∃ k : Nat, k ≤ s.size ∧ i = .int .i64 k ∧ ((bs s).take k).all isDig = true) (fun i => s.size - (intOf i).toNat)
      case atStart => exact ⟨0, Nat.zero_le _, rfl, rfl⟩
      case round =>
        obtain ⟨k, hk, rfl, hall⟩ := hrel
        have HA := Lib.hid hall
        clear hall
        by_cases hlt : k < s.size
        · have hw : wrap64 (s[k].toNat : Int) = (s[k].toNat : Int) := wrap64_u8 _
          rcases (by omega : (48 ≤ (s[k].toNat : Int) ∧ (s[k].toNat : Int) ≤ 57) ∨ (s[k].toNat : Int) < 48 ∨ 57 < (s[k].toNat : Int)) with ⟨hd, hd'⟩ | hd | hd
          · go_wp2
            go_round
            case rel =>
              refine ⟨k + 1, by omega, by go_num, ?_⟩
              rw [take_snoc s k hlt, List.all_append, HA.out]
              simp [isDig]; omega
            case measure => simp [intOf]; omega
          · go_wp2
            go_ret
            refine ⟨ret_bool ?_, rfl⟩
            symm
            unfold natOk
            rw [all_no (bs_mem s k hlt) (isDig_no (by omega))]; rfl
          · have hd2 : decide ((s[k].toNat : Int) ≤ 57) = false := decide_eq_false (by omega)
            go_wp2
            go_ret
            refine ⟨ret_bool ?_, rfl⟩
            symm
            unfold natOk
            rw [all_no (bs_mem s k hlt) (isDig_no (by omega))]; rfl
        · obtain rfl : k = s.size := by omega
          go_wp2
          go_ret
          refine ⟨ret_bool ?_, rfl⟩
          have ha := HA.out
          rw [take_all] at ha
          exact (HY.out ha).symm


end Go.Proofs.YtjjpdoabagnmoaaGreatDoor
/-
  The contracts of DecOk, the reference's and the program's: each answers decOk. No condition.
-/
namespace Go.Proofs.YtjjpdoabagnmoaaGreatDoor
open Go.RowKit
set_option linter.unusedVariables false
set_option linter.unusedSimpArgs false

/-- a number in form -/
def decOk (n : Bool) (l : List UInt8) (x : Int) : Bool :=
  if l = [] then !n && decide (x = 0)
  else decide (l.length ≤ 20) && natOk l && (l.head? != some 48) && (l.getLast? != some 48) && decide (-99 - (l.length : Int) + 1 ≤ x) && decide (x ≤ 99 - (l.length : Int) + 1)

theorem decOk_nil (n : Bool) (x : Int) : decOk n [] x = (!n && decide (x = 0)) := by simp [decOk]
theorem decOk_long {n : Bool} {s : ByteArray} {x : Int} (h : 20 < s.size) : decOk n (bs s) x = false := by
  unfold decOk; rw [if_neg (ne_nil (by omega)), bs_length, decide_eq_false (p := s.size ≤ 20) (by omega)]; simp
theorem decOk_head {n : Bool} {s : ByteArray} {x : Int} (h0 : 0 < s.size) (h : (s[0].toNat : Int) = 48) : decOk n (bs s) x = false := by
  unfold decOk; rw [if_neg (ne_nil h0), bs_head s h0, u8_48 h]; simp
theorem decOk_last {n : Bool} {s : ByteArray} {x : Int} (h0 : 0 < s.size) (h : ((s[s.size - 1]'(by omega)).toNat : Int) = 48) : decOk n (bs s) x = false := by
  unfold decOk; rw [if_neg (ne_nil h0), bs_last s h0, u8_48 h]; simp
theorem decOk_nat {n : Bool} {s : ByteArray} {x : Int} (h0 : 0 < s.size) (h : natOk (bs s) = false) : decOk n (bs s) x = false := by
  unfold decOk; rw [if_neg (ne_nil h0), h]; simp
theorem decOk_lo {n : Bool} {s : ByteArray} {x : Int} (h0 : 0 < s.size) (h : ¬ (-99 - (s.size : Int) + 1 ≤ x)) : decOk n (bs s) x = false := by
  unfold decOk; rw [if_neg (ne_nil h0), bs_length, decide_eq_false (p := -99 - (s.size : Int) + 1 ≤ x) h]; simp
theorem decOk_fin {n : Bool} {s : ByteArray} {x : Int} (h0 : 0 < s.size) (h1 : s.size ≤ 20) (h2 : ¬ (s[0].toNat : Int) = 48) (h3 : ¬ ((s[s.size - 1]'(by omega)).toNat : Int) = 48)
    (h4 : natOk (bs s) = true) (h5 : -99 - (s.size : Int) + 1 ≤ x) : decOk n (bs s) x = decide (x ≤ 99 - (s.size : Int) + 1) := by
  have e2 := u8_n48 h2
  have e3 := u8_n48 h3
  unfold decOk; rw [if_neg (ne_nil h0), bs_length, bs_head s h0, bs_last s h0, h4, decide_eq_true h1, decide_eq_true h5]; simp [e2, e3]

theorem wf_i64 {x : Int} (h : (Lit.int .i64 x).wf = true) : -9223372036854775808 ≤ x ∧ x ≤ 9223372036854775807 := by
  simpa [Lit.wf, IntKind.min, IntKind.max, IntKind.signed, IntKind.bits] using h

theorem specDecOk_any (n : Bool) (s : ByteArray) (x : Int) (w : World) (hs : s.size ≤ maxLen) (hx : (Lit.int .i64 x).wf = true) :
    Calls Tryz.prog 15 #[.agg #[.bool n, .string s, .int .i64 x]] w fun e w' => e = .returned (.bool (decOk n (bs s) x)) ∧ Below w.heap.size w w' := by
  have hs' := hs
  unfold maxLen at hs'
  by_cases h0 : 0 < s.size
  · cases hn : natOk (bs s)
    all_goals
      have hemp := isEmpty_no h0
      go_enter Tryz.func15, Tryz.ntmps15
      go_wp2_with (go_at_call 37; refine (specNatOk_any _ _ hs).mono ?_; rintro e w' ⟨rfl, rfl⟩)
    all_goals go_ret
    all_goals refine ⟨ret_bool ?_, (Below.refl _ _).alloc (Nat.le_refl _) _⟩
    all_goals symm
    all_goals go_light
    all_goals first
      | exact decOk_long (by omega)
      | exact decOk_head h0 (by assumption)
      | exact decOk_last h0 (by assumption)
      | exact decOk_nat h0 hn
      | exact decOk_lo h0 (by omega)
      | (rw [decOk_fin h0 (by omega) (by assumption) (by assumption) hn (by omega)]; done)
      | (exfalso; rename_i hh; simp only [beq_iff_eq] at hh; omega)
  · have hz : s.size = 0 := by omega
    have hemp := isEmpty_yes hz
    go_enter Tryz.func15, Tryz.ntmps15
    go_wp2
    all_goals go_ret
    all_goals refine ⟨ret_bool ?_, (Below.refl _ _).alloc (Nat.le_refl _) _⟩
    all_goals rw [bs_empty hz, decOk_nil]
    all_goals go_light
    all_goals (first | (simp [*]; done) | (simp [*]; rfl))

theorem isDec_any (n : Bool) (s : ByteArray) (x : Int) (w : World) (hs : s.size ≤ maxLen) (hx : (Lit.int .i64 x).wf = true) :
    Calls Tryz.prog 41 #[.agg #[.bool n, .string s, .int .i64 x]] w fun e w' => e = .returned (.bool (decOk n (bs s) x)) ∧ Below w.heap.size w w' := by
  have hs' := hs
  unfold maxLen at hs'
  by_cases h0 : 0 < s.size
  · cases hn : natOk (bs s)
    all_goals
      have hemp := isEmpty_no h0
      go_enter Tryz.func41, Tryz.ntmps41
      go_wp2_with (first | (go_at_call 70; refine (isNat_any _ _ hs).mono ?_; rintro e w' ⟨rfl, rfl⟩) | go_in)
    all_goals go_ret
    all_goals refine ⟨ret_bool ?_, (Below.refl _ _).alloc (Nat.le_refl _) _⟩
    all_goals symm
    all_goals go_light
    all_goals first
      | exact decOk_long (by omega)
      | exact decOk_head h0 (by assumption)
      | exact decOk_last h0 (by assumption)
      | exact decOk_nat h0 hn
      | exact decOk_lo h0 (by omega)
      | (rw [decOk_fin h0 (by omega) (by assumption) (by assumption) hn (by omega)]; done)
      | (rw [decOk_fin h0 (by omega) (by assumption) (by assumption) hn (by omega)]; simp [*]; done)
  · have hz : s.size = 0 := by omega
    have hemp := isEmpty_yes hz
    go_enter Tryz.func41, Tryz.ntmps41
    go_wp2
    all_goals go_ret
    all_goals refine ⟨ret_bool ?_, (Below.refl _ _).alloc (Nat.le_refl _) _⟩
    all_goals rw [bs_empty hz, decOk_nil]
    all_goals go_light
    all_goals (first | (simp [*]; done) | (simp [*]; rfl))

theorem implDecOk_any (n : Bool) (s : ByteArray) (x : Int) (w : World) (hs : s.size ≤ maxLen) (hx : (Lit.int .i64 x).wf = true) :
    Calls Tryz.prog 19 #[.agg #[.bool n, .string s, .int .i64 x]] w fun e w' => e = .returned (.bool (decOk n (bs s) x)) ∧ Below w.heap.size w w' := by
  go_enter Tryz.func19, Tryz.ntmps19
  go_wp2_with (go_at_call 41; refine (isDec_any _ _ _ _ hs hx).mono ?_; rintro e w' ⟨rfl, hb⟩)
  go_ret
  exact ⟨rfl, ((Below.refl _ _).alloc (Nat.le_refl _) _).trans (hb.mono (by simp))⟩
end Go.Proofs.YtjjpdoabagnmoaaGreatDoor
/-
  The contracts of the laws' own helpers on numbers (toDec, szDec, eqDec). No condition.
-/
namespace Go.Proofs.YtjjpdoabagnmoaaGreatDoor
open Go.RowKit
set_option linter.unusedVariables false
set_option linter.unusedSimpArgs false


/-- two numbers are the same -/
def decSame (n : Bool) (l : List UInt8) (x : Int) (n' : Bool) (l' : List UInt8) (x' : Int) : Bool := (n == n') && (l == l') && decide (x = x')

theorem eqDec_same (n : Bool) (s : ByteArray) (x : Int) (w : World) :
    Calls Tryz.prog 10 #[.agg #[.bool n, .string s, .int .i64 x], .agg #[.bool n, .string s, .int .i64 x]] w fun e w' => e = .returned (.bool true) ∧ Below w.heap.size w w' := by
  have h1 : (n != n) = false := by simp
  have h2 : (s.toList != s.toList) = false := by simp
  have h3 : (x != x) = false := by simp
  go_enter Tryz.func10, Tryz.ntmps10
  go_wp2
  go_ret
  go_light
  refine ⟨rfl, ?_⟩
  (repeat (first | exact Below.refl _ _ | assumption | refine Below.drew ?_ | refine Go.below_drewN ?_ _ | (refine Below.alloc ?_ (by first | exact Nat.le_refl _ | (simp; done) | (simp; omega) | (simp at *; omega)) _) | (refine Below.setCell ?_ (by first | exact Nat.le_refl _ | (simp; done) | (simp; omega)) _) | (refine Below.trans ?_ (Below.mono (by assumption) (by first | exact Nat.le_refl _ | (simp; done) | (simp; omega) | (simp at *; omega))))))
end Go.Proofs.YtjjpdoabagnmoaaGreatDoor
/-
  The contracts of DecNeg, the reference's and the program's. No condition.
-/
namespace Go.Proofs.YtjjpdoabagnmoaaGreatDoor
open Go.RowKit
set_option linter.unusedVariables false
set_option linter.unusedSimpArgs false

theorem empty_of {s : ByteArray} (h : s.size = 0) : s = ⟨#[]⟩ := by
  cases s with
  | mk d =>
    have : d.size = 0 := h
    simp at this
    rw [this]

theorem decOk_zero {n : Bool} {s : ByteArray} {x : Int} (h : decOk n (bs s) x = true) (h0 : s.size = 0) : n = false ∧ s = ⟨#[]⟩ ∧ x = 0 := by
  rw [bs_empty h0, decOk_nil] at h
  simp at h
  exact ⟨h.1, empty_of h0, h.2⟩



end Go.Proofs.YtjjpdoabagnmoaaGreatDoor
/-
  Plain facts on naturals as rows of digits: a row's number (val), a number's row (dec), a row of so many places (digs). No program here. No condition.
-/
namespace Go.Proofs.YtjjpdoabagnmoaaGreatDoor

/-- the number of a row of digits -/
def val (l : List UInt8) : Nat := l.foldl (fun a c => 10 * a + (c.toNat - 48)) 0

theorem val_nil : val [] = 0 := rfl
theorem val_snoc (l : List UInt8) (c : UInt8) : val (l ++ [c]) = 10 * val l + (c.toNat - 48) := by
  unfold val; rw [List.foldl_append]; rfl
theorem val_fold (l : List UInt8) : ∀ a, l.foldl (fun a c => 10 * a + (c.toNat - 48)) a = a * 10 ^ l.length + val l := by
  induction l with
  | nil => intro a; simp [val]
  | cons c l ih =>
    intro a
    unfold val
    rw [List.foldl_cons, List.foldl_cons, ih, ih (10 * 0 + (c.toNat - 48)), List.length_cons, Nat.pow_succ, Nat.add_mul, Nat.mul_zero, Nat.zero_add, Nat.mul_comm 10 a, Nat.mul_assoc, Nat.mul_comm 10]
    omega
theorem val_append (l r : List UInt8) : val (l ++ r) = val l * 10 ^ r.length + val r := by
  unfold val; rw [List.foldl_append, val_fold]; rfl
theorem val_cons (c : UInt8) (l : List UInt8) : val (c :: l) = (c.toNat - 48) * 10 ^ l.length + val l := by
  have := val_append [c] l
  simpa [val] using this
theorem isDig_le {c : UInt8} (h : isDig c = true) : 48 ≤ c.toNat ∧ c.toNat ≤ 57 := by
  have := (isDig_iff c).1 h; omega
theorem val_lt : ∀ (l : List UInt8), l.all isDig = true → val l < 10 ^ l.length
  | [], _ => by simp [val]
  | c :: l, h => by
    rw [List.all_cons, Bool.and_eq_true] at h
    have hc := isDig_le h.1
    have ih := val_lt l h.2
    rw [val_cons, List.length_cons, Nat.pow_succ]
    have : (c.toNat - 48) * 10 ^ l.length ≤ 9 * 10 ^ l.length := Nat.mul_le_mul_right _ (by omega)
    omega

/-- a number's row, without needless noughts -/
def dec (n : Nat) : List UInt8 := if n < 10 then [UInt8.ofNat (48 + n)] else dec (n / 10) ++ [UInt8.ofNat (48 + n % 10)]
termination_by n
decreasing_by omega

theorem ofNat_dig {d : Nat} (h : d < 10) : (UInt8.ofNat (48 + d)).toNat = 48 + d := by
  rw [UInt8.toNat_ofNat']; omega
theorem isDig_of {d : Nat} (h : d < 10) : isDig (UInt8.ofNat (48 + d)) = true := by
  rw [isDig_iff, ofNat_dig h]; omega
theorem dec_small {n : Nat} (h : n < 10) : dec n = [UInt8.ofNat (48 + n)] := by rw [dec, if_pos h]
theorem dec_big {n : Nat} (h : ¬ n < 10) : dec n = dec (n / 10) ++ [UInt8.ofNat (48 + n % 10)] := by rw [dec, if_neg h]
theorem dec_zero : dec 0 = [48] := dec_small (by omega)

theorem dec_all : ∀ n : Nat, (dec n).all isDig = true := by
  intro n
  induction n using Nat.strongRecOn with
  | ind n ih =>
    by_cases h : n < 10
    · rw [dec_small h, List.all_cons, List.all_nil, isDig_of h]; rfl
    · rw [dec_big h, List.all_append, ih (n / 10) (by omega), List.all_cons, List.all_nil, isDig_of (Nat.mod_lt n (by omega : 10 > 0))]; rfl
theorem val_dec : ∀ n : Nat, val (dec n) = n := by
  intro n
  induction n using Nat.strongRecOn with
  | ind n ih =>
    by_cases h : n < 10
    · rw [dec_small h, ← List.nil_append [_], val_snoc, val_nil, ofNat_dig h]; omega
    · rw [dec_big h, val_snoc, ih (n / 10) (by omega), ofNat_dig (Nat.mod_lt n (by omega : 10 > 0))]; omega
theorem dec_ne (n : Nat) : dec n ≠ [] := by
  by_cases h : n < 10
  · rw [dec_small h]; simp
  · rw [dec_big h]; simp
theorem dec_len (n : Nat) : 1 ≤ (dec n).length := by
  have := dec_ne n
  cases h : dec n with
  | nil => exact absurd h this
  | cons c l => simp

/-- a row without needless noughts -/
structure Canon (l : List UInt8) : Prop where
  dig : l.all isDig = true
  ne : l ≠ []
  head : l.length = 1 ∨ l.head? ≠ some 48

theorem head_app (l : List UInt8) (r : List UInt8) (h : l ≠ []) : (l ++ r).head? = l.head? := by
  cases l with
  | nil => exact absurd rfl h
  | cons c l => rfl
theorem dec_head : ∀ n : Nat, n ≠ 0 → (dec n).head? ≠ some 48 := by
  intro n
  induction n using Nat.strongRecOn with
  | ind n ih =>
    intro h0
    by_cases h : n < 10
    · rw [dec_small h]
      simp only [List.head?_cons, ne_eq, Option.some.injEq]
      intro e
      have := congrArg UInt8.toNat e
      rw [ofNat_dig h] at this
      have z : (48 : UInt8).toNat = 48 := rfl
      omega
    · rw [dec_big h, head_app _ _ (dec_ne _)]
      exact ih (n / 10) (by omega) (by omega)
theorem dec_canon (n : Nat) : Canon (dec n) := by
  refine ⟨dec_all n, dec_ne n, ?_⟩
  by_cases h : n = 0
  · left; rw [h, dec_zero]; rfl
  · right; exact dec_head n h

theorem ofNat_back {c : UInt8} (h : isDig c = true) : UInt8.ofNat (48 + (c.toNat - 48)) = c := by
  have := isDig_le h
  apply UInt8.toNat_inj.1
  rw [UInt8.toNat_ofNat']
  have := c.toNat_lt
  omega

/-- a row of digits with something in it is taken up by dec, its noughts ahead dropped -/
theorem dec_val_snoc (l : List UInt8) (c : UInt8) (hc : isDig c = true) (hl : 0 < val l) : dec (val (l ++ [c])) = dec (val l) ++ [c] := by
  have hc' := isDig_le hc
  rw [val_snoc, dec_big (by omega)]
  congr 2
  · congr 1; omega
  · rw [show (10 * val l + (c.toNat - 48)) % 10 = c.toNat - 48 by omega, ofNat_back hc]

theorem val_pos {c : UInt8} {l : List UInt8} (h : isDig c = true) (hn : c ≠ 48) : 0 < val (c :: l) := by
  have hc := isDig_le h
  have : c.toNat ≠ 48 := fun e => hn (UInt8.toNat_inj.1 (by rw [e]; rfl))
  rw [val_cons]
  have := Nat.mul_le_mul_right (10 ^ l.length) (show 1 ≤ c.toNat - 48 by omega)
  have := Nat.pow_pos (n := l.length) (show 0 < 10 by omega)
  omega

theorem rev_ind {P : List UInt8 → Prop} (h0 : P []) (h1 : ∀ l c, P l → P (l ++ [c])) : ∀ l, P l := by
  intro l
  have : ∀ r : List UInt8, P r.reverse := by
    intro r
    induction r with
    | nil => exact h0
    | cons c r ih => rw [List.reverse_cons]; exact h1 _ _ ih
  have e := this l.reverse
  rwa [List.reverse_reverse] at e

theorem dec_val_head (c : UInt8) (hc : isDig c = true) (hn : c ≠ 48) : ∀ l : List UInt8, l.all isDig = true → dec (val (c :: l)) = c :: l := by
  intro l
  refine rev_ind (P := fun l => l.all isDig = true → dec (val (c :: l)) = c :: l) ?_ ?_ l
  · intro _
    have hc' := isDig_le hc
    rw [val_cons, val_nil, List.length_nil, Nat.pow_zero, Nat.mul_one, Nat.add_zero, dec_small (by omega), ofNat_back hc]
  · intro l d ih ha
    rw [List.all_append, Bool.and_eq_true] at ha
    have hd : isDig d = true := by simpa using ha.2
    rw [← List.cons_append, dec_val_snoc (c :: l) d hd (val_pos hc hn), ih ha.1]

theorem canon_dec {l : List UInt8} (h : Canon l) : dec (val l) = l := by
  obtain ⟨ha, hne, hh⟩ := h
  cases l with
  | nil => exact absurd rfl hne
  | cons c l =>
    rw [List.all_cons, Bool.and_eq_true] at ha
    by_cases hc : c = 48
    · subst hc
      rcases hh with hh | hh
      · have : l = [] := by simpa using hh
        subst this
        rw [show val [48] = 0 from rfl, dec_zero]
      · simp at hh
    · exact dec_val_head c ha.1 hc l ha.2
theorem canon_inj {l r : List UInt8} (hl : Canon l) (hr : Canon r) (h : val l = val r) : l = r := by
  rw [← canon_dec hl, ← canon_dec hr, h]

/-- noughts ahead are dropped; "0" where nothing is left -/
def trimZ : List UInt8 → List UInt8
  | [] => [48]
  | c :: l => if c = 48 then trimZ l else c :: l
theorem trimZ_dec : ∀ l : List UInt8, l.all isDig = true → trimZ l = dec (val l)
  | [], _ => by rw [val_nil, dec_zero]; rfl
  | c :: l, h => by
    rw [List.all_cons, Bool.and_eq_true] at h
    unfold trimZ
    by_cases hc : c = 48
    · rw [if_pos hc, trimZ_dec l h.2, hc, val_cons]
      simp
    · rw [if_neg hc, dec_val_head c h.1 hc l h.2]

theorem natOk_canon {l : List UInt8} (h : natOk l = true) : Canon l ∧ l.length ≤ 600 := by
  unfold natOk at h
  simp only [Bool.and_eq_true, decide_eq_true_eq, Bool.or_eq_true, bne_iff_ne] at h
  obtain ⟨h1, ⟨h2, h3⟩, h4⟩ := h
  exact ⟨⟨h1, fun e => by rw [e] at h2; simp at h2, h4⟩, h3⟩
theorem canon_natOk {l : List UInt8} (h : Canon l) (h3 : l.length ≤ 600) : natOk l = true := by
  obtain ⟨h1, h2, h4⟩ := h
  unfold natOk
  simp only [Bool.and_eq_true, decide_eq_true_eq, Bool.or_eq_true, bne_iff_ne]
  exact ⟨h1, ⟨List.length_pos_iff.2 h2, h3⟩, h4⟩

/-- how long a number's row is -/
theorem dec_len_le : ∀ (k n : Nat), 1 ≤ k → n < 10 ^ k → (dec n).length ≤ k
  | 0, _, h, _ => by omega
  | k + 1, n, _, h => by
    by_cases hn : n < 10
    · rw [dec_small hn]; simp
    · rw [dec_big hn, List.length_append]
      have hk : 1 ≤ k := by
        by_cases e : k = 0
        · subst e; simp at h; omega
        · omega
      have := dec_len_le k (n / 10) hk (by rw [Nat.pow_succ] at h; omega)
      simp; omega
theorem dec_len_ge (n : Nat) (h0 : n ≠ 0) : 10 ^ ((dec n).length - 1) ≤ n := by
  induction n using Nat.strongRecOn with
  | ind n ih =>
    by_cases hn : n < 10
    · rw [dec_small hn]; simp; omega
    · have ih' := ih (n / 10) (by omega) (by omega)
      rw [dec_big hn, List.length_append]
      have := dec_len (n / 10)
      have e : (dec (n / 10)).length + [UInt8.ofNat (48 + n % 10)].length - 1 = ((dec (n / 10)).length - 1) + 1 := by simp; omega
      rw [e, Nat.pow_succ]
      omega

/-- the digit of a number at a place from its end -/
def dgt (v i : Nat) : Nat := v / 10 ^ i % 10
theorem dgt_lt (v i : Nat) : dgt v i < 10 := Nat.mod_lt _ (by omega)
theorem dgt_zero (v : Nat) : dgt v 0 = v % 10 := by simp [dgt]
theorem dgt_succ (v i : Nat) : dgt v (i + 1) = dgt (v / 10) i := by
  unfold dgt; rw [Nat.pow_succ, Nat.mul_comm, Nat.div_div_eq_div_mul]
theorem dgt_val : ∀ (l : List UInt8), l.all isDig = true → ∀ i (h : i < l.length), dgt (val l) i = (l[l.length - 1 - i]'(by omega)).toNat - 48 := by
  intro l
  refine rev_ind (P := fun l => l.all isDig = true → ∀ i (h : i < l.length), dgt (val l) i = (l[l.length - 1 - i]'(by omega)).toNat - 48) ?_ ?_ l
  · intro _ i h; simp at h
  · intro l c ih ha i h
    rw [List.all_append, Bool.and_eq_true] at ha
    have hc : isDig c = true := by simpa using ha.2
    have hc' := isDig_le hc
    rw [val_snoc]
    cases i with
    | zero =>
      rw [dgt_zero]
      have e : (l ++ [c])[(l ++ [c]).length - 1 - 0]'(by simp) = c := by simp
      rw [e]; omega
    | succ i =>
      rw [dgt_succ, show (10 * val l + (c.toNat - 48)) / 10 = val l by omega]
      simp at h
      rw [ih ha.1 i h]
      congr 2
      rw [List.getElem_append_left (by simp; omega)]
      congr 1
      simp; omega
theorem dgt_over {v i : Nat} (h : v < 10 ^ i) : dgt v i = 0 := by
  unfold dgt; rw [Nat.div_eq_of_lt h]

/-- a row of n places -/
def digs (v : Nat) : Nat → List UInt8
  | 0 => []
  | n + 1 => digs (v / 10) n ++ [UInt8.ofNat (48 + v % 10)]
theorem digs_length : ∀ (n v : Nat), (digs v n).length = n
  | 0, _ => rfl
  | n + 1, v => by simp [digs, digs_length n]
theorem digs_all : ∀ (n v : Nat), (digs v n).all isDig = true
  | 0, _ => rfl
  | n + 1, v => by rw [digs, List.all_append, digs_all n, List.all_cons, List.all_nil, isDig_of (Nat.mod_lt v (by omega : 10 > 0))]; rfl
theorem val_digs : ∀ (n v : Nat), v < 10 ^ n → val (digs v n) = v
  | 0, v, h => by simp at h; subst h; rfl
  | n + 1, v, h => by
    rw [digs, val_snoc, val_digs n (v / 10) (by rw [Nat.pow_succ] at h; omega), ofNat_dig (Nat.mod_lt v (by omega : 10 > 0))]; omega
theorem digs_cons : ∀ (n v : Nat), digs v (n + 1) = UInt8.ofNat (48 + dgt v n) :: digs v n
  | 0, v => by simp [digs, dgt]
  | n + 1, v => by
    have e : digs v (n + 2) = digs (v / 10) (n + 1) ++ [UInt8.ofNat (48 + v % 10)] := rfl
    have e2 : digs v (n + 1) = digs (v / 10) n ++ [UInt8.ofNat (48 + v % 10)] := rfl
    rw [e, digs_cons n (v / 10), e2, dgt_succ, List.cons_append]
theorem digs_get : ∀ (n v j : Nat) (h : j < n), (digs v n)[j]'(by rw [digs_length]; exact h) = UInt8.ofNat (48 + dgt v (n - 1 - j))
  | 0, _, j, h => by omega
  | n + 1, v, 0, h => by simp [digs_cons]
  | n + 1, v, j + 1, h => by
    have := digs_get n v j (by omega)
    simp only [digs_cons, List.getElem_cons_succ]
    rw [this]
    congr 3
    omega
/-- a row of places, trimmed -/
theorem trimZ_digs {n v : Nat} (h : v < 10 ^ n) : trimZ (digs v n) = dec v := by
  rw [trimZ_dec _ (digs_all n v), val_digs n v h]

/-! ### comparing -/
def cmpN (a b : Nat) : Int := if a < b then -1 else if a = b then 0 else 1

theorem canon_low {l : List UInt8} (h : Canon l) (h2 : 2 ≤ l.length) : 10 ^ (l.length - 1) ≤ val l := by
  obtain ⟨ha, hne, hh⟩ := h
  cases l with
  | nil => exact absurd rfl hne
  | cons c l =>
    rw [List.all_cons, Bool.and_eq_true] at ha
    have hc : c ≠ 48 := by
      rcases hh with hh | hh
      · omega
      · intro e; subst e; simp at hh
    have hd := isDig_le ha.1
    have : c.toNat ≠ 48 := fun e => hc (UInt8.toNat_inj.1 (by rw [e]; rfl))
    rw [val_cons, List.length_cons, Nat.add_sub_cancel]
    have := Nat.mul_le_mul_right (10 ^ l.length) (show 1 ≤ c.toNat - 48 by omega)
    omega
theorem canon_shorter {l r : List UInt8} (hl : Canon l) (hr : Canon r) (h : l.length < r.length) : val l < val r := by
  have h1 := val_lt l hl.dig
  have hl0 : 1 ≤ l.length := List.length_pos_iff.2 hl.ne
  have h2 := canon_low hr (by omega)
  have h3 : 10 ^ l.length ≤ 10 ^ (r.length - 1) := Nat.pow_le_pow_right (by omega) (by omega)
  omega
theorem val_pad (c d : UInt8) (x y : List UInt8) (hx : x.all isDig = true) (hy : y.all isDig = true) (hc : isDig c = true) (hd : isDig d = true) (h : x.length = y.length) :
    (c.toNat < d.toNat → val (c :: x) < val (d :: y)) ∧ (c = d → (val (c :: x) < val (d :: y) ↔ val x < val y)) := by
  have h1 := val_lt x hx
  have h2 := val_lt y hy
  have h3 := isDig_le hc
  have h4 := isDig_le hd
  rw [val_cons, val_cons, h] at *
  refine ⟨fun hlt => ?_, fun e => ?_⟩
  · have h5 := Nat.mul_le_mul_right (10 ^ y.length) (show c.toNat - 48 + 1 ≤ d.toNat - 48 by omega)
    rw [Nat.add_mul] at h5
    omega
  · subst e; omega
theorem u8_lt_iff (c d : UInt8) : c < d ↔ c.toNat < d.toNat := UInt8.lt_iff_toNat_lt
theorem less_val : ∀ (x y : List UInt8), x.all isDig = true → y.all isDig = true → x.length = y.length → Op.bytesLess x y = decide (val x < val y)
  | [], [], _, _, _ => by simp [Op.bytesLess]
  | [], _ :: _, _, _, h => by simp at h
  | _ :: _, [], _, _, h => by simp at h
  | c :: x, d :: y, hx, hy, h => by
    rw [List.all_cons, Bool.and_eq_true] at hx hy
    have hl : x.length = y.length := by simpa using h
    obtain ⟨p1, p2⟩ := val_pad c d x y hx.2 hy.2 hx.1 hy.1 hl
    obtain ⟨q1, _⟩ := val_pad d c y x hy.2 hx.2 hy.1 hx.1 hl.symm
    have ih := less_val x y hx.2 hy.2 hl
    unfold Op.bytesLess
    by_cases h1 : c.toNat < d.toNat
    · rw [decide_eq_true (p := c < d) ((u8_lt_iff _ _).2 h1), decide_eq_true (p1 h1)]; rfl
    · by_cases h2 : c = d
      · rw [decide_eq_false (p := c < d) (fun h => h1 ((u8_lt_iff _ _).1 h)), ih, h2]
        subst h2
        simp [p2 rfl]
      · have h3 : d.toNat < c.toNat := by
          have : c.toNat ≠ d.toNat := fun e => h2 (UInt8.toNat_inj.1 e)
          omega
        have := q1 h3
        rw [decide_eq_false (p := c < d) (fun h => h1 ((u8_lt_iff _ _).1 h)), decide_eq_false (p := val (c :: x) < val (d :: y)) (by omega)]
        simp [h2]
theorem compare_val : ∀ (x y : List UInt8), x.all isDig = true → y.all isDig = true → x.length = y.length → Lib.compareBytes x y = cmpN (val x) (val y)
  | [], [], _, _, _ => by simp [Lib.compareBytes, cmpN, val]
  | [], _ :: _, _, _, h => by simp at h
  | _ :: _, [], _, _, h => by simp at h
  | c :: x, d :: y, hx, hy, h => by
    rw [List.all_cons, Bool.and_eq_true] at hx hy
    have hl : x.length = y.length := by simpa using h
    obtain ⟨p1, p2⟩ := val_pad c d x y hx.2 hy.2 hx.1 hy.1 hl
    obtain ⟨q1, _⟩ := val_pad d c y x hy.2 hx.2 hy.1 hx.1 hl.symm
    have ih := compare_val x y hx.2 hy.2 hl
    unfold Lib.compareBytes
    by_cases h1 : c.toNat < d.toNat
    · rw [if_pos ((u8_lt_iff _ _).2 h1)]
      unfold cmpN; rw [if_pos (p1 h1)]
    · rw [if_neg (fun h => h1 ((u8_lt_iff _ _).1 h))]
      by_cases h3 : d.toNat < c.toNat
      · have := q1 h3
        rw [if_pos ((u8_lt_iff _ _).2 h3)]
        unfold cmpN; rw [if_neg (by omega), if_neg (by omega)]
      · rw [if_neg (fun h => h3 ((u8_lt_iff _ _).1 h)), ih]
        have h2 : c = d := UInt8.toNat_inj.1 (by omega)
        have p := p2 h2
        subst h2
        unfold cmpN
        by_cases h4 : val x < val y
        · rw [if_pos h4, if_pos (p.2 h4)]
        · rw [if_neg h4, if_neg (fun h => h4 (p.1 h))]
          by_cases h5 : val x = val y
          · rw [if_pos h5, if_pos (by rw [val_cons, val_cons, hl, h5])]
          · rw [if_neg h5, if_neg (fun e => h5 (by rw [val_cons, val_cons, hl] at e; omega))]

/-! ### texts given by their bytes -/
def ofL (l : List UInt8) : ByteArray := ⟨l.toArray⟩
theorem bs_ofL (l : List UInt8) : bs (ofL l) = l := rfl
theorem size_ofL (l : List UInt8) : (ofL l).size = l.length := by rw [← bs_length, bs_ofL]
theorem ofL_bs (s : ByteArray) : ofL (bs s) = s := rfl
theorem bs_inj {s t : ByteArray} (h : bs s = bs t) : s = t := by rw [← ofL_bs s, ← ofL_bs t, h]
theorem trimZ_drop : ∀ l : List UInt8, (match l.dropWhile (· == 48) with | [] => [48] | r => r) = trimZ l
  | [] => rfl
  | c :: l => by
    unfold trimZ
    by_cases h : c = 48
    · rw [if_pos h, List.dropWhile_cons, if_pos (by rw [h]; rfl)]; exact trimZ_drop l
    · rw [if_neg h, List.dropWhile_cons, if_neg (by simpa using h)]
theorem trimZ_canon {l : List UInt8} (h : l.all isDig = true) : Canon (trimZ l) := by rw [trimZ_dec l h]; exact dec_canon _
theorem val_trimZ {l : List UInt8} (h : l.all isDig = true) : val (trimZ l) = val l := by rw [trimZ_dec l h, val_dec]
theorem trimZ_len : ∀ l : List UInt8, (trimZ l).length ≤ l.length + 1
  | [] => by simp [trimZ]
  | c :: l => by
    unfold trimZ
    split
    · have := trimZ_len l; simp; omega
    · simp
end Go.Proofs.YtjjpdoabagnmoaaGreatDoor
/-
  Plain facts on adding, taking away and multiplying place by place. No program here. No condition.
-/
namespace Go.Proofs.YtjjpdoabagnmoaaGreatDoor

theorem mod_succ (a i : Nat) : a % 10 ^ (i + 1) = a % 10 ^ i + 10 ^ i * dgt a i := by
  rw [Nat.pow_succ, Nat.mod_mul]; rfl
theorem pow_pos' (i : Nat) : 0 < 10 ^ i := Nat.pow_pos (by omega)
theorem dgt_div (v i : Nat) : v / 10 ^ (i + 1) = v / 10 ^ i / 10 := by rw [Nat.pow_succ, Nat.div_div_eq_div_mul]
theorem dgt_mod (x v i : Nat) (h : x % 10 ^ (i + 1) = v % 10 ^ (i + 1)) : dgt x i = dgt v i := by
  have h1 := mod_succ x i
  have h2 := mod_succ v i
  have h3 : x % 10 ^ i = v % 10 ^ i := by
    have := congrArg (· % 10 ^ i) h
    simpa [Nat.pow_succ, Nat.mod_mul_right_mod] using this
  rw [h, h2, h3] at h1
  have h4 : 10 ^ i * dgt v i = 10 ^ i * dgt x i := by omega
  exact (Nat.eq_of_mul_eq_mul_left (pow_pos' i) h4).symm

/-- what is carried behind i places -/
def car (a b i : Nat) : Nat := (a % 10 ^ i + b % 10 ^ i) / 10 ^ i
theorem car_zero (a b : Nat) : car a b 0 = 0 := by simp [car, Nat.mod_one]
theorem car_step (a b i : Nat) : car a b i + dgt a i + dgt b i = (a % 10 ^ (i + 1) + b % 10 ^ (i + 1)) / 10 ^ i := by
  rw [mod_succ a i, mod_succ b i]
  have e : a % 10 ^ i + 10 ^ i * dgt a i + (b % 10 ^ i + 10 ^ i * dgt b i) = (a % 10 ^ i + b % 10 ^ i) + 10 ^ i * (dgt a i + dgt b i) := by rw [Nat.mul_add]; omega
  rw [e, Nat.add_mul_div_left _ _ (pow_pos' i)]
  unfold car; omega
theorem car_succ (a b i : Nat) : (car a b i + dgt a i + dgt b i) / 10 = car a b (i + 1) := by
  rw [car_step, Nat.div_div_eq_div_mul, ← Nat.pow_succ]; rfl
theorem car_dgt (a b i : Nat) : (car a b i + dgt a i + dgt b i) % 10 = dgt (a + b) i := by
  rw [car_step]
  show dgt (a % 10 ^ (i + 1) + b % 10 ^ (i + 1)) i = _
  exact dgt_mod _ _ _ (by rw [Nat.add_mod a b])
theorem car_le (a b i : Nat) : car a b i ≤ 1 := by
  unfold car
  have h1 := Nat.mod_lt a (pow_pos' i)
  have h2 := Nat.mod_lt b (pow_pos' i)
  have : (a % 10 ^ i + b % 10 ^ i) / 10 ^ i < 2 := by
    rw [Nat.div_lt_iff_lt_mul (pow_pos' i)]; omega
  omega
theorem car_end {a b i : Nat} (ha : a < 10 ^ i) (hb : b < 10 ^ i) (h : car a b i = 0) : a + b < 10 ^ i := by
  unfold car at h
  rw [Nat.mod_eq_of_lt ha, Nat.mod_eq_of_lt hb, Nat.div_eq_zero_iff] at h
  have := pow_pos' i
  omega

theorem car_over {a b n i : Nat} (ha : a < 10 ^ n) (hb : b < 10 ^ n) (h : n < i) : car a b i = 0 := by
  have h1 : 10 ^ (n + 1) ≤ 10 ^ i := Nat.pow_le_pow_right (by omega) h
  rw [Nat.pow_succ] at h1
  unfold car
  rw [Nat.div_eq_zero_iff]
  right
  rw [Nat.mod_eq_of_lt (by omega), Nat.mod_eq_of_lt (by omega)]
  omega

/-- what is owed behind i places: what adding the difference carries -/
def owe (a b i : Nat) : Nat := car b (a - b) i
theorem owe_zero (a b : Nat) : owe a b 0 = 0 := car_zero _ _
theorem owe_le (a b i : Nat) : owe a b i ≤ 1 := car_le _ _ _
theorem owe_step (a b i : Nat) (h : b ≤ a) :
    (dgt b i + owe a b i ≤ dgt a i → owe a b (i + 1) = 0 ∧ dgt (a - b) i = dgt a i - dgt b i - owe a b i) ∧
    (dgt a i < dgt b i + owe a b i → owe a b (i + 1) = 1 ∧ dgt (a - b) i = dgt a i + 10 - dgt b i - owe a b i) := by
  have h1 := car_succ b (a - b) i
  have h2 := car_dgt b (a - b) i
  rw [show b + (a - b) = a from Nat.add_sub_cancel' h] at h2
  have d1 := dgt_lt (a - b) i
  have d2 := dgt_lt b i
  have d3 := car_le b (a - b) i
  unfold owe
  rw [← h1, ← h2]
  generalize car b (a - b) i = c at *
  generalize dgt b i = x at *
  generalize dgt (a - b) i = y at *
  omega

/-! ### a product's columns -/
/-- the sum of the products of the digits whose places add up to j, the first i places of a taken, of the next k places -/
def colTo (a b la : Nat) : Nat → Nat → Nat
  | 0, _ => 0
  | i + 1, j => colTo a b la i j + (if i ≤ j then dgt a i * dgt b (j - i) else 0)
end Go.Proofs.YtjjpdoabagnmoaaGreatDoor
/-
  Plain facts on noughts behind a row and on rounding half to even. No program here. No condition.
-/
namespace Go.Proofs.YtjjpdoabagnmoaaGreatDoor

theorem bs_app (a b : ByteArray) : bs (a ++ b) = bs a ++ bs b := by
  show (a ++ b).data.toList = _
  exact Joins.data_append a b

/-- so many noughts -/
def zs (n : Nat) : List UInt8 := List.replicate n 48
theorem zs_succ (n : Nat) : zs (n + 1) = zs n ++ [48] := List.replicate_succ'
theorem zs_len (n : Nat) : (zs n).length = n := List.length_replicate
theorem zs_all (n : Nat) : (zs n).all isDig = true := by
  rw [List.all_eq_true]; intro c hc
  rw [List.eq_of_mem_replicate hc]; rfl
theorem zs_repeat : ∀ n, Lib.repeatL [48] n = zs n
  | 0 => rfl
  | n + 1 => by show [48] ++ Lib.repeatL [48] n = _; rw [zs_repeat n]; rfl
theorem val_zs (l : List UInt8) : ∀ n, val (l ++ zs n) = val l * 10 ^ n
  | 0 => by simp [zs]
  | n + 1 => by
    have h0 : (48 : UInt8).toNat - 48 = 0 := rfl
    rw [zs_succ, ← List.append_assoc, val_snoc, val_zs l n, h0, Nat.add_zero, Nat.pow_succ, Nat.mul_comm 10, Nat.mul_assoc]
theorem all_zs {l : List UInt8} (h : l.all isDig = true) (n : Nat) : (l ++ zs n).all isDig = true := by
  rw [List.all_append, h, zs_all]; rfl
theorem val_zs_ahead (l : List UInt8) (n : Nat) : val (zs n ++ l) = val l := by
  have h0 := val_zs [] n
  rw [List.nil_append, val_nil, Nat.zero_mul] at h0
  rw [val_append, h0, Nat.zero_mul, Nat.zero_add]
theorem dec_shift {l : List UInt8} (hc : Canon l) (h : 0 < val l) : ∀ n, l ++ zs n = dec (val l * 10 ^ n)
  | 0 => by rw [Nat.pow_zero, Nat.mul_one, canon_dec hc]; simp [zs]
  | n + 1 => by
    rw [zs_succ, ← List.append_assoc, ← val_zs, zs_succ, ← List.append_assoc, dec_val_snoc _ _ (by decide) (by rw [val_zs]; exact Nat.mul_pos h (pow_pos' n)), val_zs, ← dec_shift hc h n]

/-- a number by a power of ten, rounded half to even -/
def roundV (v n : Nat) : Nat := if 10 ^ n < 2 * (v % 10 ^ n) ∨ (2 * (v % 10 ^ n) = 10 ^ n ∧ v / 10 ^ n % 2 = 1) then v / 10 ^ n + 1 else v / 10 ^ n
theorem roundV_zero (v : Nat) : roundV v 0 = v := by
  unfold roundV
  rw [if_neg (by simp [Nat.mod_one])]; simp
theorem roundV_small {v n k : Nat} (h : v < 10 ^ k) (h2 : k < n) : roundV v n = 0 := by
  have h3 : 10 ^ (k + 1) ≤ 10 ^ n := Nat.pow_le_pow_right (by omega) h2
  rw [Nat.pow_succ] at h3
  unfold roundV
  rw [Nat.mod_eq_of_lt (by omega), Nat.div_eq_of_lt (by omega), if_neg (by omega)]
theorem val_front {l : List UInt8} (ha : l.all isDig = true) {n : Nat} (h : n ≤ l.length) :
    val (l.take (l.length - n)) = val l / 10 ^ n ∧ val (l.drop (l.length - n)) = val l % 10 ^ n := by
  have e := val_append (l.take (l.length - n)) (l.drop (l.length - n))
  rw [List.take_append_drop, List.length_drop, show l.length - (l.length - n) = n by omega] at e
  have hd : (l.drop (l.length - n)).all isDig = true := by
    rw [List.all_eq_true] at ha ⊢
    exact fun c hc => ha c (List.mem_of_mem_drop hc)
  have hlt := val_lt _ hd
  rw [List.length_drop, show l.length - (l.length - n) = n by omega] at hlt
  generalize val (l.drop (l.length - n)) = r at *
  generalize val (l.take (l.length - n)) = q at *
  rw [e, Nat.mul_comm]
  constructor
  · rw [Nat.mul_add_div (pow_pos' n), Nat.div_eq_of_lt hlt]; omega
  · rw [Nat.mul_add_mod, Nat.mod_eq_of_lt hlt]
/-- the half of a power of ten -/
theorem val_half (n : Nat) : 2 * val (53 :: zs n) = 10 ^ (n + 1) := by
  have h0 := val_zs [] n
  rw [List.nil_append, val_nil, Nat.zero_mul] at h0
  rw [val_cons, h0, zs_len, Nat.pow_succ]
  have : (53 : UInt8).toNat - 48 = 5 := rfl
  rw [this]; omega
theorem half_all (n : Nat) : (53 :: zs n).all isDig = true := by rw [List.all_cons, zs_all]; rfl
theorem dig_inj {c d : UInt8} (hc : isDig c = true) (hd : isDig d = true) (h : c.toNat - 48 = d.toNat - 48) : c = d := by
  have h1 := isDig_le hc
  have h2 := isDig_le hd
  exact UInt8.toNat_inj.1 (by omega)
theorem val_inj : ∀ (x y : List UInt8), x.all isDig = true → y.all isDig = true → x.length = y.length → val x = val y → x = y
  | [], [], _, _, _, _ => rfl
  | [], _ :: _, _, _, h, _ => by simp at h
  | _ :: _, [], _, _, h, _ => by simp at h
  | c :: x, d :: y, hx, hy, h, hv => by
    rw [List.all_cons, Bool.and_eq_true] at hx hy
    have hl : x.length = y.length := by simpa using h
    have h1 := val_lt x hx.2
    have h2 := val_lt y hy.2
    rw [val_cons, val_cons, hl] at hv
    rw [hl] at h1
    have e : c.toNat - 48 = d.toNat - 48 := by
      have e1 : ((c.toNat - 48) * 10 ^ y.length + val x) / 10 ^ y.length = c.toNat - 48 := by
        rw [Nat.mul_comm, Nat.mul_add_div (pow_pos' _), Nat.div_eq_of_lt h1]; omega
      have e2 : ((d.toNat - 48) * 10 ^ y.length + val y) / 10 ^ y.length = d.toNat - 48 := by
        rw [Nat.mul_comm, Nat.mul_add_div (pow_pos' _), Nat.div_eq_of_lt h2]; omega
      rw [← e1, ← e2, hv]
    rw [e] at hv
    rw [dig_inj hx.1 hy.1 e, val_inj x y hx.2 hy.2 hl (by omega)]
theorem dec_last (m : Nat) : (dec m)[(dec m).length - 1]'(by have := dec_len m; omega) = UInt8.ofNat (48 + m % 10) := by
  by_cases h : m < 10
  · have e := dec_small h
    simp only [e, List.length_singleton]
    rw [Nat.mod_eq_of_lt h]; rfl
  · have e := dec_big h
    simp only [e, List.length_append, List.length_singleton, Nat.add_sub_cancel]
    simp
/-- what the two tests of a rounding say -/
theorem round_cases {x : List UInt8} {v n : Nat} (hx : x.all isDig = true) (hl : x.length = n + 1) (hv : val x = v % 10 ^ (n + 1)) :
    (Op.bytesLess (53 :: zs n) x = true → roundV v (n + 1) = v / 10 ^ (n + 1) + 1) ∧
    (Op.bytesLess (53 :: zs n) x = false → (x == 53 :: zs n) = true → v / 10 ^ (n + 1) % 2 = 1 → roundV v (n + 1) = v / 10 ^ (n + 1) + 1) ∧
    (Op.bytesLess (53 :: zs n) x = false → (x == 53 :: zs n) = true → v / 10 ^ (n + 1) % 2 ≠ 1 → roundV v (n + 1) = v / 10 ^ (n + 1)) ∧
    (Op.bytesLess (53 :: zs n) x = false → (x == 53 :: zs n) = false → roundV v (n + 1) = v / 10 ^ (n + 1)) := by
  have hh := val_half n
  have hlen : (53 :: zs n).length = x.length := by rw [hl, List.length_cons, zs_len]
  rw [less_val _ _ (half_all n) hx hlen]
  have heq : (x == 53 :: zs n) = decide (val x = val (53 :: zs n)) := by
    by_cases e : val x = val (53 :: zs n)
    · rw [decide_eq_true e, val_inj _ _ hx (half_all n) hlen.symm e]; simp
    · rw [decide_eq_false e, beq_eq_false_iff_ne]; exact fun e' => e (by rw [e'])
  rw [heq]
  simp only [decide_eq_true_eq, decide_eq_false_iff_not]
  rw [hv] at *
  unfold roundV
  generalize v % 10 ^ (n + 1) = r at *
  generalize v / 10 ^ (n + 1) = q at *
  generalize val (53 :: zs n) = h at *
  refine ⟨fun a => ?_, fun a b c => ?_, fun a b c => ?_, fun a b => ?_⟩
  · rw [if_pos (by omega)]
  · rw [if_pos (by omega)]
  · rw [if_neg (by omega)]
  · rw [if_neg (by omega)]
/-- .. as the tests ask them -/
theorem round_three {x : List UInt8} {v n : Nat} (hx : x.all isDig = true) (hl : x.length = n + 1) (hv : val x = v % 10 ^ (n + 1)) :
    (Op.bytesLess x (53 :: zs n) = false ∧ x ≠ 53 :: zs n ∧ roundV v (n + 1) = v / 10 ^ (n + 1) + 1) ∨
    (Op.bytesLess x (53 :: zs n) = true ∧ x ≠ 53 :: zs n ∧ roundV v (n + 1) = v / 10 ^ (n + 1)) ∨
    (x = 53 :: zs n ∧ v / 10 ^ (n + 1) % 2 = 1 ∧ roundV v (n + 1) = v / 10 ^ (n + 1) + 1) ∨
    (x = 53 :: zs n ∧ v / 10 ^ (n + 1) % 2 = 0 ∧ roundV v (n + 1) = v / 10 ^ (n + 1)) := by
  obtain ⟨c1, c2, c3, c4⟩ := round_cases hx hl hv
  have hlen : (53 :: zs n).length = x.length := by rw [hl, List.length_cons, zs_len]
  have e1 := less_val _ _ (half_all n) hx hlen
  have e2 := less_val _ _ hx (half_all n) hlen.symm
  by_cases h : x = 53 :: zs n
  · have hb : (x == 53 :: zs n) = true := by rw [h]; simp
    have hf : Op.bytesLess (53 :: zs n) x = false := by rw [e1, h]; simp
    by_cases ho : v / 10 ^ (n + 1) % 2 = 1
    · exact .inr (.inr (.inl ⟨h, ho, c2 hf hb ho⟩))
    · exact .inr (.inr (.inr ⟨h, by omega, c3 hf hb ho⟩))
  · have hb : (x == 53 :: zs n) = false := beq_eq_false_iff_ne.2 h
    have hne : val x ≠ val (53 :: zs n) := fun e => h (val_inj _ _ hx (half_all n) hlen.symm e)
    by_cases hlt : val (53 :: zs n) < val x
    · exact .inl ⟨by rw [e2]; exact decide_eq_false (by omega), h, c1 (by rw [e1]; exact decide_eq_true hlt)⟩
    · exact .inr (.inl ⟨by rw [e2]; exact decide_eq_true (by omega), h, c4 (by rw [e1]; exact decide_eq_false hlt) hb⟩)
theorem less_self (l : List UInt8) : Op.bytesLess l l = false := by
  induction l with
  | nil => rfl
  | cons c l ih => unfold Op.bytesLess; simp [ih]
end Go.Proofs.YtjjpdoabagnmoaaGreatDoor
