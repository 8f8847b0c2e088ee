/-
  The walk of FnExactDecCmp, out of the contracts. Condition: numbers in form.
-/
import Derived.Test.YtbfkmpignbppfaaDecCmp
import Derived.Test.YtbfkmpignbppfaaDecLaw
namespace Go.Proofs.Ytbfkmpignbppfaa
open Go.RowKit
set_option linter.unusedVariables false
set_option linter.unusedSimpArgs false

set_option maxRecDepth 10000 in
set_option maxHeartbeats 1000000 in
theorem fnExactDecCmp_law (n : Bool) (s : ByteArray) (x : Int) (m : Bool) (t : ByteArray) (y : Int) (w : World) (h : s.size + t.size ≤ 1048576) (c : Int)
    (hA : ∀ w, Calls Try.prog 5 #[.agg #[.bool n, .string s, .int .i64 x], .agg #[.bool m, .string t, .int .i64 y]] w fun e w' => e = .returned (.int .i64 c) ∧ Below w.heap.size w w')
    (hB : ∀ w, Calls Try.prog 7 #[.agg #[.bool n, .string s, .int .i64 x], .agg #[.bool m, .string t, .int .i64 y]] w fun e w' => e = .returned (.int .i64 c) ∧ Below w.heap.size w w') :
    Calls Try.prog 3 #[.agg #[.bool n, .string s, .int .i64 x], .agg #[.bool m, .string t, .int .i64 y]] w fun e w' => e = .returned (.bool true) ∧ Below w.heap.size w w' := by
  have HA := Lib.hid hA
  have HB := Lib.hid hB
  clear hA hB
  go_enter Try.func3, Try.ntmps3
  go_wp2_with fail
  refine (szDec_fit n s x _ _ (by omega) (by omega)).mono ?_
  rintro e w1 ⟨rfl, hb1⟩
  obtain ⟨w0, hw0, hz0, hb0, hc0⟩ := two_laidL w n s x m t y
  rw [hw0] at hb1
  obtain ⟨hv1, hz1, hc1⟩ := two_kept hb1 hz0 hb0 hc0
  clear hb1 hz0 hb0 hc0 hw0
  go_wp2_with fail
  refine (szDec_fit m t y _ _ (by omega) (by omega)).mono ?_
  rintro e w2 ⟨rfl, hb2⟩
  obtain ⟨hv2, hz2, hc2⟩ := two_kept hb2 hz1 hv1 hc1
  clear hb2 hz1 hv1 hc1
  go_wp2_with fail
  go_region_held3 (fun w' => w'.cell? ⟨w.heap.size, 0, none⟩ = some (.bool n) ∧ w'.cell? ⟨w.heap.size, 1, none⟩ = some (.string s) ∧ w'.cell? ⟨w.heap.size, 2, none⟩ = some (.int .i64 x) ∧ w'.cell? ⟨w.heap.size + 1, 0, none⟩ = some (.bool m) ∧ w'.cell? ⟨w.heap.size + 1, 1, none⟩ = some (.string t) ∧ w'.cell? ⟨w.heap.size + 1, 2, none⟩ = some (.int .i64 y)) (first | assumption | go_keep)
    (first
      | (go_at_call 6; refine (toDec_any _ _ _ _).mono ?_; rintro e w1 ⟨rfl, hb1⟩; obtain ⟨hv1, hz1, hc1⟩ := two_kept hb1 (by assumption) (v := w) (by first | assumption | exact Below.drew (by assumption)) (by assumption); clear hb1)
      | (go_at_call 5; refine (HA.out _).mono ?_; rintro e w1 ⟨rfl, hb1⟩; obtain ⟨hv1, hz1, hc1⟩ := two_kept hb1 (by assumption) (v := w) (by first | assumption | exact Below.drew (by assumption)) (by assumption); clear hb1))
  go_wp2_with fail
  go_region_held3 (fun w' => w'.cell? ⟨w.heap.size, 0, none⟩ = some (.bool n) ∧ w'.cell? ⟨w.heap.size, 1, none⟩ = some (.string s) ∧ w'.cell? ⟨w.heap.size, 2, none⟩ = some (.int .i64 x) ∧ w'.cell? ⟨w.heap.size + 1, 0, none⟩ = some (.bool m) ∧ w'.cell? ⟨w.heap.size + 1, 1, none⟩ = some (.string t) ∧ w'.cell? ⟨w.heap.size + 1, 2, none⟩ = some (.int .i64 y)) (first | assumption | go_keep)
    (first
      | (go_at_call 6; refine (toDec_any _ _ _ _).mono ?_; rintro e w1 ⟨rfl, hb1⟩; obtain ⟨hv1, hz1, hc1⟩ := two_kept hb1 (by assumption) (v := w) (by first | assumption | exact Below.drew (by assumption)) (by assumption); clear hb1)
      | (go_at_call 7; refine (HB.out _).mono ?_; rintro e w1 ⟨rfl, hb1⟩; obtain ⟨hv1, hz1, hc1⟩ := two_kept hb1 (by assumption) (v := w) (by first | assumption | exact Below.drew (by assumption)) (by assumption); clear hb1))
  clear HA HB
  have hcc : (c != c) = false := by simp
  go_wp2
  go_ret
  exact ⟨rfl, by assumption⟩

theorem fnExactDecCmp_big (n : Bool) (s : ByteArray) (x : Int) (m : Bool) (t : ByteArray) (y : Int) (w : World) (h : ¬ s.size + t.size ≤ 1048576) (hs : s.size ≤ maxLen) (ht : t.size ≤ maxLen) :
    Calls Try.prog 3 #[.agg #[.bool n, .string s, .int .i64 x], .agg #[.bool m, .string t, .int .i64 y]] w fun e w' => e = .returned (.bool true) ∧ Below w.heap.size w w' := by
  by_cases h1 : s.size ≤ 1048576
  · go_enter Try.func3, Try.ntmps3
    go_wp2_with fail
    refine (szDec_fit n s x _ _ (by omega) (by omega)).mono ?_
    rintro e w1 ⟨rfl, hb1⟩
    obtain ⟨w0, hw0, hz0, hb0, hc0⟩ := two_laidL w n s x m t y
    rw [hw0] at hb1
    obtain ⟨hv1, hz1, hc1⟩ := two_kept hb1 hz0 hb0 hc0
    clear hb1 hz0 hb0 hc0 hw0
    go_wp2_with fail
    refine (szDec_over m t y _ _ (by omega) (by omega) (by omega) ht).mono ?_
    rintro e w2 ⟨rfl, hb2⟩
    go_wp2
    go_ret
    exact ⟨rfl, hv1.trans (hb2.mono hv1.size)⟩
  · go_enter Try.func3, Try.ntmps3
    go_wp2_with fail
    refine (szDec_over n s x _ _ (by omega) (by omega) (by omega) hs).mono ?_
    rintro e w1 ⟨rfl, hb1⟩
    obtain ⟨w0, hw0, hz0, hb0, hc0⟩ := two_laidL w n s x m t y
    rw [hw0] at hb1
    go_wp2
    go_ret
    exact ⟨rfl, hb0.trans (hb1.mono hb0.size)⟩

theorem fnExactDecCmp_walk (n : Bool) (s : ByteArray) (x : Int) (hs : s.size ≤ maxLen) (hx : (Lit.int .i64 x).wf = true) (m : Bool) (t : ByteArray) (y : Int) (ht : t.size ≤ maxLen) (hy : (Lit.int .i64 y).wf = true) (w : World) :
    Calls Try.prog 3 #[.agg #[.bool n, .string s, .int .i64 x], .agg #[.bool m, .string t, .int .i64 y]] w fun e w' => e = .returned (.bool true) ∧ Below w.heap.size w w' := by
  by_cases hsz : s.size + t.size ≤ 1048576
  · by_cases h : decOk n (bs s) x = false ∨ decOk m (bs t) y = false
    · exact fnExactDecCmp_law n s x m t y w hsz 2 (fun w => specDecCmp_no n s x m t y w hs hx ht hy h) (fun w => implDecCmp_no n s x m t y w hs hx ht hy h)
    · have h1 : decOk n (bs s) x = true := by cases e : decOk n (bs s) x with | true => rfl | false => exact absurd (.inl e) h
      have h2 : decOk m (bs t) y = true := by cases e : decOk m (bs t) y with | true => rfl | false => exact absurd (.inr e) h
      exact fnExactDecCmp_law n s x m t y w hsz _ (fun w => specDecCmp_yes n s x m t y w hs hx ht hy h1 h2) (fun w => implDecCmp_yes n s x m t y w hs hx ht hy h1 h2)
  · exact fnExactDecCmp_big n s x m t y w hsz hs ht
end Go.Proofs.Ytbfkmpignbppfaa
