/-
  The contracts of RxHas, the reference's and the program's: each answers rxHas. No condition.
-/
import Derived.Test.YtobpecgecopdnaaDoorIntsLaw
import Derived.Test.YtobpecgecopdnaaDoorBetw
namespace Go.Proofs.YtobpecgecopdnaaDoor
open Go.RowKit
set_option linter.unusedVariables false
set_option linter.unusedSimpArgs false

theorem specRxHas_any (a : Option Addr) (cap : Nat) (l : List Int) (neg : Bool) (c : Int) (w : World) (h : RowI .i64 w a l) (hl : l.length ≤ 1099511627776) :
    Calls Tryd.prog 45 #[.slice a l.length cap, .bool neg, .int .i64 c] w fun e w' => e = .returned (.bool (rxHas l neg c)) ∧ Below w.heap.size w w' := by
  have HR := Lib.hid h
  clear h
  go_enter Tryd.func45, Tryd.ntmps45
  go_wp2
  go_loopw [7] (fun i wr => ∃ k : Nat, k ≤ l.length + 1 ∧ i = .int .i64 k ∧ Below w.heap.size w wr ∧ inSet l c = inSet (l.drop k) c) (fun i _ => l.length + 2 - (intOf i).toNat)
  case atStart => exact ⟨0, Nat.zero_le _, rfl, Below.refl _ _, rfl⟩
  case round =>
    obtain ⟨k, hk, rfl, hb, hin⟩ := hrel
    have HB := Lib.hid hb
    have HI := Lib.hid hin
    clear hb hin
    by_cases hlt : k + 1 < l.length
    · have hR : RowI .i64 wr a l := HR.out.below HB.out
      rcases hR with h0 | ⟨b, off, rfl, hbl, hc⟩
      · rw [h0] at hlt; exact absurd hlt (Nat.not_lt_zero _)
      have hc0 := hc k (by omega)
      have hc1 := hc (k + 1) hlt
      rw [getD_get l k (by omega)] at hc0
      rw [getD_get l (k + 1) hlt] at hc1
      clear hc
      have hlt' : (k : Int) + 1 < l.length := by omega
      have hlt2 : (k : Int) < l.length := by omega
      have h0' : (0 : Int) ≤ k := by omega
      have e1 : IntKind.i64.wrap ((k : Int) + 1) = (k : Int) + 1 := IntWalk.i64_in _ (by omega)
      have e2 : ((k : Int) + 1).toNat = k + 1 := by omega
      go_wp2
      go_quiet ((go_at_call 24; exact Calls.quiet_of_same (l01Between_any _ _ _ _)))
      go_wp2
      · go_ret
        have hbt : betw c l[k] l[k + 1] = true := by assumption
        refine ⟨ret_bool ?_, Go.below_drewN HB.out _⟩
        simp only [betw, Bool.and_eq_true, decide_eq_true_eq] at hbt
        unfold rxHas
        rw [HI.out, inSet_hit l k c hlt hbt.1 hbt.2]; rfl
      · have hbt : betw c l[k] l[k + 1] = false := by assumption
        refine ⟨⟨k + 2, by omega, by go_num, Go.below_drewN HB.out _, ?_⟩, by simp [intOf]; omega⟩
        simp only [betw, Bool.and_eq_false_iff, decide_eq_false_iff_not] at hbt
        rw [HI.out, inSet_miss l k c hlt (by omega)]
    · go_wp2
      go_ret
      refine ⟨ret_bool ?_, HB.out⟩
      unfold rxHas
      rw [HI.out, inSet_short _ _ (by rw [List.length_drop]; omega)]; rfl

theorem implRxHas_any (a : Option Addr) (cap : Nat) (l : List Int) (neg : Bool) (c : Int) (w : World) (h : RowI .i64 w a l) (hl : l.length ≤ 1099511627776) :
    Calls Tryd.prog 70 #[.slice a l.length cap, .bool neg, .int .i64 c] w fun e w' => e = .returned (.bool (rxHas l neg c)) ∧ Below w.heap.size w w' := by
  have HR := Lib.hid h
  clear h
  go_enter Tryd.func70, Tryd.ntmps70
  go_wp2
  go_loopw [7] (fun i wr => ∃ k : Nat, k ≤ l.length + 1 ∧ i = .int .i64 k ∧ Below w.heap.size w wr ∧ inSet l c = inSet (l.drop k) c) (fun i _ => l.length + 2 - (intOf i).toNat)
  case atStart => exact ⟨0, Nat.zero_le _, rfl, Below.refl _ _, rfl⟩
  case round =>
    obtain ⟨k, hk, rfl, hb, hin⟩ := hrel
    have HB := Lib.hid hb
    have HI := Lib.hid hin
    clear hb hin
    by_cases hlt : k + 1 < l.length
    · have hR : RowI .i64 wr a l := HR.out.below HB.out
      rcases hR with h0 | ⟨b, off, rfl, hbl, hc⟩
      · rw [h0] at hlt; exact absurd hlt (Nat.not_lt_zero _)
      have hc0 := hc k (by omega)
      have hc1 := hc (k + 1) hlt
      rw [getD_get l k (by omega)] at hc0
      rw [getD_get l (k + 1) hlt] at hc1
      clear hc
      have hlt' : (k : Int) + 1 < l.length := by omega
      have hlt2 : (k : Int) < l.length := by omega
      have h0' : (0 : Int) ≤ k := by omega
      have e1 : IntKind.i64.wrap ((k : Int) + 1) = (k : Int) + 1 := IntWalk.i64_in _ (by omega)
      have e2 : ((k : Int) + 1).toNat = k + 1 := by omega
      go_wp2
      go_quiet ((go_at_call 29; exact Calls.quiet_of_same (within_any _ _ _ _)))
      go_wp2
      · go_ret
        have hbt : betw c l[k] l[k + 1] = true := by assumption
        refine ⟨ret_bool ?_, Go.below_drewN HB.out _⟩
        simp only [betw, Bool.and_eq_true, decide_eq_true_eq] at hbt
        unfold rxHas
        rw [HI.out, inSet_hit l k c hlt hbt.1 hbt.2]; rfl
      · have hbt : betw c l[k] l[k + 1] = false := by assumption
        refine ⟨⟨k + 2, by omega, by go_num, Go.below_drewN HB.out _, ?_⟩, by simp [intOf]; omega⟩
        simp only [betw, Bool.and_eq_false_iff, decide_eq_false_iff_not] at hbt
        rw [HI.out, inSet_miss l k c hlt (by omega)]
    · go_wp2
      go_ret
      refine ⟨ret_bool ?_, HB.out⟩
      unfold rxHas
      rw [HI.out, inSet_short _ _ (by rw [List.length_drop]; omega)]; rfl
end Go.Proofs.YtobpecgecopdnaaDoor
