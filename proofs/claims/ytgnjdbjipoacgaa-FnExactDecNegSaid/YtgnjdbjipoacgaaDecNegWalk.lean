/-
  The walk of FnExactDecNeg, out of the contracts. No condition.
-/
import Derived.Test.YtgnjdbjipoacgaaDecNeg
namespace Go.Proofs.Ytgnjdbjipoacgaa
open Go.RowKit
set_option linter.unusedVariables false
set_option linter.unusedSimpArgs false

theorem implDecNeg_no (n : Bool) (s : ByteArray) (x : Int) (w : World) (hs : s.size ≤ maxLen) (hx : (Lit.int .i64 x).wf = true) (h : decOk n (bs s) x = false ∨ s.size = 0) :
    Calls Try.prog 22 #[.agg #[.bool n, .string s, .int .i64 x]] w fun e w' => e = .returned (.agg #[.bool false, .string ⟨#[]⟩, .int .i64 0]) ∧ Below w.heap.size w w' := by
  cases hk : decOk n (bs s) x
  · clear h
    go_enter Try.func22, Try.ntmps22
    go_wp2_with (go_at_call 27; refine (isDec_any _ _ _ _ hs hx).mono ?_; rintro e w1 ⟨rfl, hb1⟩; obtain ⟨hb1c, hb1f⟩ := bcell hb1; have hb1q := hb1.size; (try simp at hb1q); have hb1q0 : w.heap.size < w1.heap.size := (by omega); have hb1q1 : w.heap.size + 1 < w1.heap.size := (by omega))
    refine bodyPost_ret (v := .agg #[.bool false, .string ⟨#[]⟩, .int .i64 0]) (by simp [results, Try.results22, go_sem, *]) rfl ⟨rfl, ?_⟩
    go_light
    (repeat (first | exact Below.refl _ _ | assumption | refine Below.drew ?_ | refine below_drewN ?_ _ | (refine Below.alloc ?_ (by first | exact Nat.le_refl _ | (simp; done) | (simp; omega) | (simp at *; omega)) _) | (refine Below.setCell ?_ (by first | exact Nat.le_refl _ | (simp; done) | (simp; omega)) _) | (refine Below.trans ?_ (Below.mono (by assumption) (by first | exact Nat.le_refl _ | (simp; done) | (simp; omega) | (simp at *; omega))))))
  · have h0 : s.size = 0 := by simpa [hk] using h
    obtain ⟨rfl, rfl, rfl⟩ := decOk_zero hk h0
    clear h
    go_enter Try.func22, Try.ntmps22
    go_wp2_with (first | (go_at_call 27; refine (isDec_any _ _ _ _ hs hx).mono ?_; rintro e w1 ⟨rfl, hb1⟩; obtain ⟨hb1c, hb1f⟩ := bcell hb1; have hb1q := hb1.size; (try simp at hb1q); have hb1q0 : w.heap.size < w1.heap.size := (by omega); have hb1q1 : w.heap.size + 1 < w1.heap.size := (by omega)) | (go_at_call 28; refine (decNeg_zero _ _ _ _ rfl).mono ?_; rintro e w2 ⟨rfl, hb2⟩; obtain ⟨hb2c, hb2f⟩ := bcell hb2; have hb2q := hb2.size; (try simp at hb2q); have hb2q0 : w.heap.size < w2.heap.size := (by omega); have hb2q1 : w.heap.size + 1 < w2.heap.size := (by omega)))
    refine bodyPost_ret (v := .agg #[.bool false, .string ⟨#[]⟩, .int .i64 0]) (by simp [results, Try.results22, go_sem, *]) rfl ⟨rfl, ?_⟩
    go_light
    (repeat (first | exact Below.refl _ _ | assumption | refine Below.drew ?_ | refine below_drewN ?_ _ | (refine Below.alloc ?_ (by first | exact Nat.le_refl _ | (simp; done) | (simp; omega) | (simp at *; omega)) _) | (refine Below.setCell ?_ (by first | exact Nat.le_refl _ | (simp; done) | (simp; omega)) _) | (refine Below.trans ?_ (Below.mono (by assumption) (by first | exact Nat.le_refl _ | (simp; done) | (simp; omega) | (simp at *; omega))))))

theorem implDecNeg_yes (n : Bool) (s : ByteArray) (x : Int) (w : World) (hs : s.size ≤ maxLen) (hx : (Lit.int .i64 x).wf = true) (hk : decOk n (bs s) x = true) (h0 : 0 < s.size) :
    Calls Try.prog 22 #[.agg #[.bool n, .string s, .int .i64 x]] w fun e w' => e = .returned (.agg #[.bool !n, .string s, .int .i64 x]) ∧ Below w.heap.size w w' := by
  go_enter Try.func22, Try.ntmps22
  go_wp2_with (first | (go_at_call 27; refine (isDec_any _ _ _ _ hs hx).mono ?_; rintro e w1 ⟨rfl, hb1⟩; obtain ⟨hb1c, hb1f⟩ := bcell hb1; have hb1q := hb1.size; (try simp at hb1q); have hb1q0 : w.heap.size < w1.heap.size := (by omega); have hb1q1 : w.heap.size + 1 < w1.heap.size := (by omega)) | (go_at_call 28; refine (decNeg_yes _ _ _ _ h0).mono ?_; rintro e w2 ⟨rfl, hb2⟩; obtain ⟨hb2c, hb2f⟩ := bcell hb2; have hb2q := hb2.size; (try simp at hb2q); have hb2q0 : w.heap.size < w2.heap.size := (by omega); have hb2q1 : w.heap.size + 1 < w2.heap.size := (by omega)))
  refine bodyPost_ret (v := .agg #[.bool !n, .string s, .int .i64 x]) (by simp [results, Try.results22, go_sem, *]) rfl ⟨rfl, ?_⟩
  go_light
  (repeat (first | exact Below.refl _ _ | assumption | refine Below.drew ?_ | refine below_drewN ?_ _ | (refine Below.alloc ?_ (by first | exact Nat.le_refl _ | (simp; done) | (simp; omega) | (simp at *; omega)) _) | (refine Below.setCell ?_ (by first | exact Nat.le_refl _ | (simp; done) | (simp; omega)) _) | (refine Below.trans ?_ (Below.mono (by assumption) (by first | exact Nat.le_refl _ | (simp; done) | (simp; omega) | (simp at *; omega))))))

theorem decNeg_law (n m : Bool) (s t : ByteArray) (x y : Int) (w : World) (hb : s.size ≤ 1048576)
    (hA : ∀ w, Calls Try.prog 21 #[.agg #[.bool n, .string s, .int .i64 x]] w fun e w' => e = .returned (.agg #[.bool m, .string t, .int .i64 y]) ∧ Below w.heap.size w w')
    (hB : ∀ w, Calls Try.prog 22 #[.agg #[.bool n, .string s, .int .i64 x]] w fun e w' => e = .returned (.agg #[.bool m, .string t, .int .i64 y]) ∧ Below w.heap.size w w') :
    Calls Try.prog 8 #[.agg #[.bool n, .string s, .int .i64 x]] w fun e w' => e = .returned (.bool true) ∧ Below w.heap.size w w' := by
  have HA := Lib.hid hA
  have HB := Lib.hid hB
  clear hA hB
  go_enter Try.func8, Try.ntmps8
  go_wp2_with (first | (go_at_call 21; refine (HA.out _).mono ?_; rintro e w1 ⟨rfl, hb1⟩; obtain ⟨hb1c, hb1f⟩ := bcell hb1; have hb1q := hb1.size; (try simp at hb1q); have hb1q0 : w.heap.size < w1.heap.size := (by omega)) | (go_at_call 22; refine (HB.out _).mono ?_; rintro e w2 ⟨rfl, hb2⟩; obtain ⟨hb2c, hb2f⟩ := bcell hb2; have hb2q := hb2.size; (try simp at hb2q); have hb2q0 : w.heap.size < w2.heap.size := (by omega); (try have hb2q_w10 : w1.heap.size < w2.heap.size := (by omega))) | (go_at_call 19; refine (toDec_any _ _ _ _).mono ?_; rintro e w3 ⟨rfl, hb3⟩; obtain ⟨hb3c, hb3f⟩ := bcell hb3; have hb3q := hb3.size; (try simp at hb3q); have hb3q0 : w.heap.size < w3.heap.size := (by omega); (try have hb3q_w10 : w1.heap.size < w3.heap.size := (by omega)); (try have hb3q_w20 : w2.heap.size < w3.heap.size := (by omega))) | (go_at_call 23; refine (eqDec_same _ _ _ _).mono ?_; rintro e w4 ⟨rfl, hb4⟩; obtain ⟨hb4c, hb4f⟩ := bcell hb4; have hb4q := hb4.size; (try simp at hb4q); have hb4q0 : w.heap.size < w4.heap.size := (by omega); (try have hb4q_w10 : w1.heap.size < w4.heap.size := (by omega)); (try have hb4q_w20 : w2.heap.size < w4.heap.size := (by omega))) | go_in)
  go_ret
  go_light
  refine ⟨rfl, ?_⟩
  (repeat (first | exact Below.refl _ _ | assumption | refine Below.drew ?_ | refine below_drewN ?_ _ | (refine Below.alloc ?_ (by first | exact Nat.le_refl _ | (simp; done) | (simp; omega) | (simp at *; omega)) _) | (refine Below.setCell ?_ (by first | exact Nat.le_refl _ | (simp; done) | (simp; omega)) _) | (refine Below.trans ?_ (Below.mono (by assumption) (by first | exact Nat.le_refl _ | (simp; done) | (simp; omega) | (simp at *; omega))))))

theorem fnExactDecNeg_walk (n : Bool) (s : ByteArray) (x : Int) (hs : s.size ≤ maxLen) (hx : (Lit.int .i64 x).wf = true) (w : World) :
    Calls Try.prog 8 #[.agg #[.bool n, .string s, .int .i64 x]] w fun e w' => e = .returned (.bool true) ∧ Below w.heap.size w w' := by
  by_cases hb : 1048576 < s.size
  · have hs' := hs
    unfold maxLen at hs'
    go_enter Try.func8, Try.ntmps8
    go_wp2
    go_ret
    refine ⟨rfl, ?_⟩
    go_light
    (repeat (first | exact Below.refl _ _ | assumption | refine Below.drew ?_ | refine below_drewN ?_ _ | (refine Below.alloc ?_ (by first | exact Nat.le_refl _ | (simp; done) | (simp; omega) | (simp at *; omega)) _) | (refine Below.setCell ?_ (by first | exact Nat.le_refl _ | (simp; done) | (simp; omega)) _) | (refine Below.trans ?_ (Below.mono (by assumption) (by first | exact Nat.le_refl _ | (simp; done) | (simp; omega) | (simp at *; omega))))))
  · by_cases h : decOk n (bs s) x = false ∨ s.size = 0
    · exact decNeg_law n false s ⟨#[]⟩ x 0 w (by omega) (fun w => specDecNeg_no n s x w hs hx h) (fun w => implDecNeg_no n s x w hs hx h)
    · have hk : decOk n (bs s) x = true := by
        cases e : decOk n (bs s) x
        · exact absurd (.inl e) h
        · rfl
      have h0 : 0 < s.size := by omega
      exact decNeg_law n (!n) s s x x w (by omega) (fun w => specDecNeg_yes n s x w hs hx hk h0) (fun w => implDecNeg_yes n s x w hs hx hk h0)
end Go.Proofs.Ytgnjdbjipoacgaa
