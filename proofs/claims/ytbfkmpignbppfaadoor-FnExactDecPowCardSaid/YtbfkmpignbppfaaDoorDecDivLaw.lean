/-
  The law of DecDiv out of the contracts of both sides' DecDiv. Condition: the numbers' digits within the law's bound.
-/
import Derived.Test.YtbfkmpignbppfaaDoorDecTwo
namespace Go.Proofs.YtbfkmpignbppfaaDoor
open Go.RowKit
set_option linter.unusedVariables false
set_option linter.unusedSimpArgs false

set_option maxRecDepth 10000 in
set_option maxHeartbeats 4000000 in
theorem fnExactDecDiv_law (n : Bool) (s : ByteArray) (x : Int) (m : Bool) (t : ByteArray) (y : Int) (w : World) (h : s.size + t.size ≤ 1048576) (n' : Bool) (u : ByteArray) (y' c : Int)
    (hA : ∀ w, Calls Tryd.prog 31 #[.agg #[.bool n, .string s, .int .i64 x], .agg #[.bool m, .string t, .int .i64 y]] w fun e w' => e = .returned (.tuple #[.agg #[.bool n', .string u, .int .i64 y'], .int .i64 c]) ∧ Below w.heap.size w w')
    (hB : ∀ w, Calls Tryd.prog 32 #[.agg #[.bool n, .string s, .int .i64 x], .agg #[.bool m, .string t, .int .i64 y]] w fun e w' => e = .returned (.tuple #[.agg #[.bool n', .string u, .int .i64 y'], .int .i64 c]) ∧ Below w.heap.size w w') :
    Calls Tryd.prog 10 #[.agg #[.bool n, .string s, .int .i64 x], .agg #[.bool m, .string t, .int .i64 y]] w fun e w' => e = .returned (.bool true) ∧ Below w.heap.size w w' := by
  have HA := Lib.hid hA
  have HB := Lib.hid hB
  clear hA hB
  have hn0 : ¬ (w.heap.size = w.heap.size + 1 + 1) := by omega
  have hn1 : ¬ (w.heap.size + 1 + 1 = w.heap.size) := by omega
  go_enter Tryd.func10, Tryd.ntmps10
  go_wp2_with fail
  refine (szDec_fit n s x _ _ (by omega) (by omega)).mono ?_
  rintro e w1 ⟨rfl, hb1⟩
  obtain ⟨w0, hw0, hz0, hb0, hc0⟩ := two_laidL w n s x m t y
  rw [hw0] at hb1
  obtain ⟨hv1, hz1, hc1⟩ := two_kept hb1 hz0 hb0 hc0
  clear hb1 hz0 hb0 hc0 hw0
  go_wp2_with fail
  refine (szDec_fit m t y _ _ (by omega) (by omega)).mono ?_
  rintro e w2 ⟨rfl, hb2⟩
  obtain ⟨hv2, hz2, hc2⟩ := two_kept hb2 hz1 hv1 hc1
  clear hb2 hz1 hv1 hc1
  have hds : ∀ u : World, u.drew.heap.size = u.heap.size := drew_size
  have hle2 : w.heap.size < w2.heap.size + 1 := Nat.lt_add_one_of_lt hz2.1
  have hne1 : ¬ (w.heap.size = w2.heap.size) := Nat.ne_of_lt hz2.1
  have hne2 : ¬ (w.heap.size + 1 = w2.heap.size) := Nat.ne_of_lt hz2.2
  have hne3 : ¬ (w2.heap.size = w.heap.size) := Nat.ne_of_gt hz2.1
  have hne4 : ¬ (w2.heap.size = w.heap.size + 1) := Nat.ne_of_gt hz2.2
  go_upto_region 8 with fail
  go_cut [6, 7] (fun s6 s7 wx => ∃ g : Nat, s6 = .pointer (some ⟨g, 0, none⟩) ∧ s7 = .int .i64 c ∧ (w.heap.size < wx.heap.size ∧ w.heap.size + 1 < wx.heap.size ∧ g < wx.heap.size) ∧ Below w.heap.size w wx ∧
    (wx.cell? ⟨g, 0, none⟩ = some (.bool n') ∧ wx.cell? ⟨g, 1, none⟩ = some (.string u) ∧ wx.cell? ⟨g, 2, none⟩ = some (.int .i64 y')) ∧
    (wx.cell? ⟨w.heap.size, 0, none⟩ = some (.bool n) ∧ wx.cell? ⟨w.heap.size, 1, none⟩ = some (.string s) ∧ wx.cell? ⟨w.heap.size, 2, none⟩ = some (.int .i64 x) ∧ wx.cell? ⟨w.heap.size + 1, 0, none⟩ = some (.bool m) ∧ wx.cell? ⟨w.heap.size + 1, 1, none⟩ = some (.string t) ∧ wx.cell? ⟨w.heap.size + 1, 2, none⟩ = some (.int .i64 y)))
  case first =>
    go_region_held3 (fun w' => w'.cell? ⟨w.heap.size, 0, none⟩ = some (.bool n) ∧ w'.cell? ⟨w.heap.size, 1, none⟩ = some (.string s) ∧ w'.cell? ⟨w.heap.size, 2, none⟩ = some (.int .i64 x) ∧ w'.cell? ⟨w.heap.size + 1, 0, none⟩ = some (.bool m) ∧ w'.cell? ⟨w.heap.size + 1, 1, none⟩ = some (.string t) ∧ w'.cell? ⟨w.heap.size + 1, 2, none⟩ = some (.int .i64 y)) (go_keep)
      (first
        | (go_at_call 16; refine (toDec_any _ _ _ _).mono ?_; rintro e w1 ⟨rfl, hb1⟩; obtain ⟨hb1c, hb1f⟩ := bcell hb1; have hb1q := hb1.size; (try simp at hb1q); have hb1q0 : w.heap.size < w1.heap.size := (by omega); have hb1q1 : w.heap.size + 1 < w1.heap.size := (by omega); (try have hb1q_w20 : w2.heap.size < w1.heap.size := (by omega)); have hup := fun (g : Nat) h => Nat.lt_of_lt_of_le (n := g) h hb1.size; have hle : w.heap.size < w1.heap.size + 1 := Nat.lt_add_one_of_lt hb1q0; have hne1 : ¬ (w.heap.size = w1.heap.size) := Nat.ne_of_lt hb1q0; have hne2 : ¬ (w.heap.size + 1 = w1.heap.size) := Nat.ne_of_lt hb1q1; have hne3 : ¬ (w1.heap.size = w.heap.size) := Nat.ne_of_gt hb1q0; have hne4 : ¬ (w1.heap.size = w.heap.size + 1) := Nat.ne_of_gt hb1q1)
        | (go_at_call 31; refine (HA.out _).mono ?_; rintro e w1 ⟨rfl, hb1⟩; obtain ⟨hb1c, hb1f⟩ := bcell hb1; have hb1q := hb1.size; (try simp at hb1q); have hb1q0 : w.heap.size < w1.heap.size := (by omega); have hb1q1 : w.heap.size + 1 < w1.heap.size := (by omega); (try have hb1q_w20 : w2.heap.size < w1.heap.size := (by omega)); have hup := fun (g : Nat) h => Nat.lt_of_lt_of_le (n := g) h hb1.size; have hle : w.heap.size < w1.heap.size + 1 := Nat.lt_add_one_of_lt hb1q0; have hne1 : ¬ (w.heap.size = w1.heap.size) := Nat.ne_of_lt hb1q0; have hne2 : ¬ (w.heap.size + 1 = w1.heap.size) := Nat.ne_of_lt hb1q1; have hne3 : ¬ (w1.heap.size = w.heap.size) := Nat.ne_of_gt hb1q0; have hne4 : ¬ (w1.heap.size = w.heap.size + 1) := Nat.ne_of_gt hb1q1))
    all_goals (go_wp2_with fail; go_meet; refine ⟨_, rfl, rfl, ⟨?_, ?_, ?_⟩, ?_, ?_, ?_⟩)
    all_goals first
      | (show Below _ _ _; (repeat (first | exact Below.refl _ _ | assumption | refine Below.drew ?_ | refine below_drewN ?_ _ | (refine Below.alloc ?_ (by first | exact Nat.le_refl _ | (simp; done) | (simp; omega) | (simp at *; omega)) _) | (refine Below.setCell ?_ (by first | exact Nat.le_refl _ | (simp; done) | (simp; omega)) _) | (refine Below.trans ?_ (Below.mono (by assumption) (by first | exact Nat.le_refl _ | (simp; done) | (simp; omega) | (simp at *; omega)))))))
      | (show _ < _; first | (simp; done) | (simp; omega) | omega)
      | go_keep
      | exact set_cells (v0 := .bool false) (v1 := .string ⟨#[]⟩) (v2 := .int .i64 0) (by go_keep) (by go_keep) (by go_keep)
  case rest =>
    obtain ⟨g, rfl, rfl, hz3, hv3, hg3, hc3⟩ := hcut
    obtain ⟨hz3a, hz3b, hz3c⟩ := hz3
    have hle3 : w.heap.size < wc.heap.size + 1 := Nat.lt_add_one_of_lt hz3a
    have hne1 : ¬ (w.heap.size = wc.heap.size) := Nat.ne_of_lt hz3a
    have hne2 : ¬ (w.heap.size + 1 = wc.heap.size) := Nat.ne_of_lt hz3b
    have hne3 : ¬ (wc.heap.size = w.heap.size) := Nat.ne_of_gt hz3a
    have hne4 : ¬ (wc.heap.size = w.heap.size + 1) := Nat.ne_of_gt hz3b
    have hgl1 : g < wc.heap.size + 1 := Nat.lt_add_one_of_lt hz3c
    have hgn : ¬ (g = wc.heap.size) := Nat.ne_of_lt hz3c
    have hgn1 : ¬ (wc.heap.size = g) := Nat.ne_of_gt hz3c
    go_upto_region 9 with fail
    go_cut [8, 9] (fun s8 s9 wx => ∃ k : Nat, s8 = .pointer (some ⟨k, 0, none⟩) ∧ s9 = .int .i64 c ∧ (w.heap.size < wx.heap.size ∧ g < wx.heap.size ∧ k < wx.heap.size) ∧ Below w.heap.size w wx ∧
      (wx.cell? ⟨k, 0, none⟩ = some (.bool n') ∧ wx.cell? ⟨k, 1, none⟩ = some (.string u) ∧ wx.cell? ⟨k, 2, none⟩ = some (.int .i64 y')) ∧
      (wx.cell? ⟨w.heap.size, 0, none⟩ = some (.bool n) ∧ wx.cell? ⟨w.heap.size, 1, none⟩ = some (.string s) ∧ wx.cell? ⟨w.heap.size, 2, none⟩ = some (.int .i64 x) ∧ wx.cell? ⟨w.heap.size + 1, 0, none⟩ = some (.bool m) ∧ wx.cell? ⟨w.heap.size + 1, 1, none⟩ = some (.string t) ∧ wx.cell? ⟨w.heap.size + 1, 2, none⟩ = some (.int .i64 y) ∧ wx.cell? ⟨g, 0, none⟩ = some (.bool n') ∧ wx.cell? ⟨g, 1, none⟩ = some (.string u) ∧ wx.cell? ⟨g, 2, none⟩ = some (.int .i64 y')))
    case first =>
      go_region_held3 (fun w' => w'.cell? ⟨w.heap.size, 0, none⟩ = some (.bool n) ∧ w'.cell? ⟨w.heap.size, 1, none⟩ = some (.string s) ∧ w'.cell? ⟨w.heap.size, 2, none⟩ = some (.int .i64 x) ∧ w'.cell? ⟨w.heap.size + 1, 0, none⟩ = some (.bool m) ∧ w'.cell? ⟨w.heap.size + 1, 1, none⟩ = some (.string t) ∧ w'.cell? ⟨w.heap.size + 1, 2, none⟩ = some (.int .i64 y) ∧ w'.cell? ⟨g, 0, none⟩ = some (.bool n') ∧ w'.cell? ⟨g, 1, none⟩ = some (.string u) ∧ w'.cell? ⟨g, 2, none⟩ = some (.int .i64 y')) (go_keep)
        (first
          | (go_at_call 16; refine (toDec_any _ _ _ _).mono ?_; rintro e w1 ⟨rfl, hb1⟩; obtain ⟨hb1c, hb1f⟩ := bcell hb1; have hb1q := hb1.size; (try simp at hb1q); have hb1q0 : w.heap.size < w1.heap.size := (by omega); have hb1q1 : w.heap.size + 1 < w1.heap.size := (by omega); (try have hb1q_wc0 : wc.heap.size < w1.heap.size := (by omega)); have hup := fun (g : Nat) h => Nat.lt_of_lt_of_le (n := g) h hb1.size; have hle : w.heap.size < w1.heap.size + 1 := Nat.lt_add_one_of_lt hb1q0; have hne1 : ¬ (w.heap.size = w1.heap.size) := Nat.ne_of_lt hb1q0; have hne2 : ¬ (w.heap.size + 1 = w1.heap.size) := Nat.ne_of_lt hb1q1; have hne3 : ¬ (w1.heap.size = w.heap.size) := Nat.ne_of_gt hb1q0; have hne4 : ¬ (w1.heap.size = w.heap.size + 1) := Nat.ne_of_gt hb1q1; have hgl : g < w1.heap.size := (by omega); have hgl1 : g < w1.heap.size + 1 := Nat.lt_add_one_of_lt hgl; have hgn : ¬ (g = w1.heap.size) := Nat.ne_of_lt hgl; have hgn1 : ¬ (w1.heap.size = g) := Nat.ne_of_gt hgl)
          | (go_at_call 32; refine (HB.out _).mono ?_; rintro e w1 ⟨rfl, hb1⟩; obtain ⟨hb1c, hb1f⟩ := bcell hb1; have hb1q := hb1.size; (try simp at hb1q); have hb1q0 : w.heap.size < w1.heap.size := (by omega); have hb1q1 : w.heap.size + 1 < w1.heap.size := (by omega); (try have hb1q_wc0 : wc.heap.size < w1.heap.size := (by omega)); have hup := fun (g : Nat) h => Nat.lt_of_lt_of_le (n := g) h hb1.size; have hle : w.heap.size < w1.heap.size + 1 := Nat.lt_add_one_of_lt hb1q0; have hne1 : ¬ (w.heap.size = w1.heap.size) := Nat.ne_of_lt hb1q0; have hne2 : ¬ (w.heap.size + 1 = w1.heap.size) := Nat.ne_of_lt hb1q1; have hne3 : ¬ (w1.heap.size = w.heap.size) := Nat.ne_of_gt hb1q0; have hne4 : ¬ (w1.heap.size = w.heap.size + 1) := Nat.ne_of_gt hb1q1; have hgl : g < w1.heap.size := (by omega); have hgl1 : g < w1.heap.size + 1 := Nat.lt_add_one_of_lt hgl; have hgn : ¬ (g = w1.heap.size) := Nat.ne_of_lt hgl; have hgn1 : ¬ (w1.heap.size = g) := Nat.ne_of_gt hgl))
      all_goals (go_wp2_with fail; go_meet; refine ⟨_, rfl, rfl, ⟨?_, ?_, ?_⟩, ?_, ?_, ?_⟩)
      all_goals first
        | (show Below _ _ _; (repeat (first | exact Below.refl _ _ | assumption | refine Below.drew ?_ | refine below_drewN ?_ _ | (refine Below.alloc ?_ (by first | exact Nat.le_refl _ | (simp; done) | (simp; omega) | (simp at *; omega)) _) | (refine Below.setCell ?_ (by first | exact Nat.le_refl _ | (simp; done) | (simp; omega)) _) | (refine Below.trans ?_ (Below.mono (by assumption) (by first | exact Nat.le_refl _ | (simp; done) | (simp; omega) | (simp at *; omega)))))))
        | (show _ < _; first | (simp; done) | (simp; omega) | omega)
        | go_keep
        | exact set_cells (v0 := .bool false) (v1 := .string ⟨#[]⟩) (v2 := .int .i64 0) (by go_keep) (by go_keep) (by go_keep)
    case rest =>
      obtain ⟨k, rfl, rfl, hz4, hv4, hk4, hc4⟩ := hcut
      go_wp2_with fail
      refine (eqDec_same n' u y' _).mono ?_
      rintro e w5 ⟨rfl, hb5⟩
      have hcc : (c != c) = false := by simp
      go_wp2
      go_ret
      exact ⟨rfl, hv4.trans (hb5.mono hv4.size)⟩

theorem fnExactDecDiv_big (n : Bool) (s : ByteArray) (x : Int) (m : Bool) (t : ByteArray) (y : Int) (w : World) (h : ¬ s.size + t.size ≤ 1048576) (hs : s.size ≤ maxLen) (ht : t.size ≤ maxLen) :
    Calls Tryd.prog 10 #[.agg #[.bool n, .string s, .int .i64 x], .agg #[.bool m, .string t, .int .i64 y]] w fun e w' => e = .returned (.bool true) ∧ Below w.heap.size w w' := by
  by_cases h1 : s.size ≤ 1048576
  · go_enter Tryd.func10, Tryd.ntmps10
    go_wp2_with fail
    refine (szDec_fit n s x _ _ (by omega) (by omega)).mono ?_
    rintro e w1 ⟨rfl, hb1⟩
    obtain ⟨w0, hw0, hz0, hb0, hc0⟩ := two_laidL w n s x m t y
    rw [hw0] at hb1
    obtain ⟨hv1, hz1, hc1⟩ := two_kept hb1 hz0 hb0 hc0
    clear hb1 hz0 hb0 hc0 hw0
    go_wp2_with fail
    refine (szDec_over m t y _ _ (by omega) (by omega) (by omega) ht).mono ?_
    rintro e w2 ⟨rfl, hb2⟩
    go_wp2
    go_ret
    exact ⟨rfl, hv1.trans (hb2.mono hv1.size)⟩
  · go_enter Tryd.func10, Tryd.ntmps10
    go_wp2_with fail
    refine (szDec_over n s x _ _ (by omega) (by omega) (by omega) hs).mono ?_
    rintro e w1 ⟨rfl, hb1⟩
    obtain ⟨w0, hw0, hz0, hb0, hc0⟩ := two_laidL w n s x m t y
    rw [hw0] at hb1
    go_wp2
    go_ret
    exact ⟨rfl, hb0.trans (hb1.mono hb0.size)⟩
end Go.Proofs.YtbfkmpignbppfaaDoor
