/-
  The contracts of DecNeg, the reference's and the program's. No condition.
-/
import Derived.Test.YtjjpdoabagnmoaaDoorDecLaw
namespace Go.Proofs.YtjjpdoabagnmoaaDoor
open Go.RowKit
set_option linter.unusedVariables false
set_option linter.unusedSimpArgs false

theorem empty_of {s : ByteArray} (h : s.size = 0) : s = ⟨#[]⟩ := by
  cases s with
  | mk d =>
    have : d.size = 0 := h
    simp at this
    rw [this]

theorem decOk_zero {n : Bool} {s : ByteArray} {x : Int} (h : decOk n (bs s) x = true) (h0 : s.size = 0) : n = false ∧ s = ⟨#[]⟩ ∧ x = 0 := by
  rw [bs_empty h0, decOk_nil] at h
  simp at h
  exact ⟨h.1, empty_of h0, h.2⟩

theorem specDecNeg_no (n : Bool) (s : ByteArray) (x : Int) (w : World) (hs : s.size ≤ maxLen) (hx : (Lit.int .i64 x).wf = true) (h : decOk n (bs s) x = false ∨ s.size = 0) :
    Calls Tryd.prog 45 #[.agg #[.bool n, .string s, .int .i64 x]] w fun e w' => e = .returned (.agg #[.bool false, .string ⟨#[]⟩, .int .i64 0]) ∧ Below w.heap.size w w' := by
  cases hk : decOk n (bs s) x
  · clear h
    go_enter Tryd.func45, Tryd.ntmps45
    go_wp2_with (go_at_call 14; refine (specDecOk_any _ _ _ _ hs hx).mono ?_; rintro e w1 ⟨rfl, hb1⟩; obtain ⟨hb1c, hb1f⟩ := bcell hb1; have hb1q := hb1.size; (try simp at hb1q); have hb1q0 : w.heap.size < w1.heap.size := (by omega); have hb1q1 : w.heap.size + 1 < w1.heap.size := (by omega))
    refine bodyPost_ret (v := .agg #[.bool false, .string ⟨#[]⟩, .int .i64 0]) (by simp [results, Tryd.results45, go_sem, *]) rfl ⟨rfl, ?_⟩
    go_light
    (repeat (first | exact Below.refl _ _ | assumption | refine Below.drew ?_ | refine below_drewN ?_ _ | (refine Below.alloc ?_ (by first | exact Nat.le_refl _ | (simp; done) | (simp; omega) | (simp at *; omega)) _) | (refine Below.setCell ?_ (by first | exact Nat.le_refl _ | (simp; done) | (simp; omega)) _) | (refine Below.trans ?_ (Below.mono (by assumption) (by first | exact Nat.le_refl _ | (simp; done) | (simp; omega) | (simp at *; omega))))))
  · have h0 : s.size = 0 := by simpa [hk] using h
    clear h
    have hemp := isEmpty_yes h0
    clear h0
    go_enter Tryd.func45, Tryd.ntmps45
    go_wp2_with (go_at_call 14; refine (specDecOk_any _ _ _ _ hs hx).mono ?_; rintro e w1 ⟨rfl, hb1⟩; obtain ⟨hb1c, hb1f⟩ := bcell hb1; have hb1q := hb1.size; (try simp at hb1q); have hb1q0 : w.heap.size < w1.heap.size := (by omega); have hb1q1 : w.heap.size + 1 < w1.heap.size := (by omega))
    refine bodyPost_ret (v := .agg #[.bool false, .string ⟨#[]⟩, .int .i64 0]) (by simp [results, Tryd.results45, go_sem, *]) rfl ⟨rfl, ?_⟩
    go_light
    (repeat (first | exact Below.refl _ _ | assumption | refine Below.drew ?_ | refine below_drewN ?_ _ | (refine Below.alloc ?_ (by first | exact Nat.le_refl _ | (simp; done) | (simp; omega) | (simp at *; omega)) _) | (refine Below.setCell ?_ (by first | exact Nat.le_refl _ | (simp; done) | (simp; omega)) _) | (refine Below.trans ?_ (Below.mono (by assumption) (by first | exact Nat.le_refl _ | (simp; done) | (simp; omega) | (simp at *; omega))))))

theorem specDecNeg_yes (n : Bool) (s : ByteArray) (x : Int) (w : World) (hs : s.size ≤ maxLen) (hx : (Lit.int .i64 x).wf = true) (hk : decOk n (bs s) x = true) (h0 : 0 < s.size) :
    Calls Tryd.prog 45 #[.agg #[.bool n, .string s, .int .i64 x]] w fun e w' => e = .returned (.agg #[.bool !n, .string s, .int .i64 x]) ∧ Below w.heap.size w w' := by
  have hemp := isEmpty_no h0
  clear h0
  go_enter Tryd.func45, Tryd.ntmps45
  go_wp2_with (go_at_call 14; refine (specDecOk_any _ _ _ _ hs hx).mono ?_; rintro e w1 ⟨rfl, hb1⟩; obtain ⟨hb1c, hb1f⟩ := bcell hb1; have hb1q := hb1.size; (try simp at hb1q); have hb1q0 : w.heap.size < w1.heap.size := (by omega); have hb1q1 : w.heap.size + 1 < w1.heap.size := (by omega))
  refine bodyPost_ret (v := .agg #[.bool !n, .string s, .int .i64 x]) (by simp [results, Tryd.results45, go_sem, *]) rfl ⟨rfl, ?_⟩
  go_light
  (repeat (first | exact Below.refl _ _ | assumption | refine Below.drew ?_ | refine below_drewN ?_ _ | (refine Below.alloc ?_ (by first | exact Nat.le_refl _ | (simp; done) | (simp; omega) | (simp at *; omega)) _) | (refine Below.setCell ?_ (by first | exact Nat.le_refl _ | (simp; done) | (simp; omega)) _) | (refine Below.trans ?_ (Below.mono (by assumption) (by first | exact Nat.le_refl _ | (simp; done) | (simp; omega) | (simp at *; omega))))))

/-- a negated number's sign -/
theorem decNeg_zero (x : Int) (n : Bool) (s : ByteArray) (w : World) (h0 : s.size = 0) :
    Calls Tryd.prog 44 #[.agg #[.bool n, .string s, .int .i64 x]] w fun e w' => e = .returned (.agg #[.bool n, .string s, .int .i64 x]) ∧ Below w.heap.size w w' := by
  have hemp := isEmpty_yes h0
  clear h0
  go_enter Tryd.func44, Tryd.ntmps44
  go_wp2
  refine bodyPost_ret (v := .agg #[.bool n, .string s, .int .i64 x]) (by simp [results, Tryd.results44, go_sem, *]) rfl ⟨rfl, ?_⟩
  go_light
  (repeat (first | exact Below.refl _ _ | assumption | refine Below.drew ?_ | refine below_drewN ?_ _ | (refine Below.alloc ?_ (by first | exact Nat.le_refl _ | (simp; done) | (simp; omega) | (simp at *; omega)) _) | (refine Below.setCell ?_ (by first | exact Nat.le_refl _ | (simp; done) | (simp; omega)) _) | (refine Below.trans ?_ (Below.mono (by assumption) (by first | exact Nat.le_refl _ | (simp; done) | (simp; omega) | (simp at *; omega))))))
theorem decNeg_yes (x : Int) (n : Bool) (s : ByteArray) (w : World) (h0 : 0 < s.size) :
    Calls Tryd.prog 44 #[.agg #[.bool n, .string s, .int .i64 x]] w fun e w' => e = .returned (.agg #[.bool !n, .string s, .int .i64 x]) ∧ Below w.heap.size w w' := by
  have hemp := isEmpty_no h0
  clear h0
  go_enter Tryd.func44, Tryd.ntmps44
  go_wp2
  refine bodyPost_ret (v := .agg #[.bool !n, .string s, .int .i64 x]) (by simp [results, Tryd.results44, go_sem, *]) rfl ⟨rfl, ?_⟩
  go_light
  (repeat (first | exact Below.refl _ _ | assumption | refine Below.drew ?_ | refine below_drewN ?_ _ | (refine Below.alloc ?_ (by first | exact Nat.le_refl _ | (simp; done) | (simp; omega) | (simp at *; omega)) _) | (refine Below.setCell ?_ (by first | exact Nat.le_refl _ | (simp; done) | (simp; omega)) _) | (refine Below.trans ?_ (Below.mono (by assumption) (by first | exact Nat.le_refl _ | (simp; done) | (simp; omega) | (simp at *; omega))))))
end Go.Proofs.YtjjpdoabagnmoaaDoor
