/-
  The contracts of what is left of a division, both sides' ones. Condition: numbers in form.
-/
import Derived.Test.YtbfkmpignbppfaaDoorThree
import Derived.Test.YtbfkmpignbppfaaDoorNatDiv
import Derived.Test.YtbfkmpignbppfaaDoorNatDivS
namespace Go.Proofs.YtbfkmpignbppfaaDoor
open Go.RowKit
set_option linter.unusedVariables false
set_option linter.unusedSimpArgs false

/-- what is left of a division -/
def modV (n : Bool) (s : ByteArray) (x : Int) (m : Bool) (t : ByteArray) (y : Int) : Value :=
  if t.size = 0 then numV false [] 0 2 else formV n (lvl s x y % lvl t y x) (min x y)
theorem modV_lit (n : Bool) (s : ByteArray) (x : Int) (m : Bool) (t : ByteArray) (y : Int) : ∃ (n' : Bool) (u : ByteArray) (y' c : Int), modV n s x m t y = .tuple #[.agg #[.bool n', .string u, .int .i64 y'], .int .i64 c] := by
  unfold modV
  split
  · exact ⟨_, _, _, _, rfl⟩
  · obtain ⟨n', u, y', c, hV, -⟩ := formV_lit n (lvl s x y % lvl t y x) (min x y)
    exact ⟨n', u, y', c, hV⟩

theorem decMod_zero (n : Bool) (s : ByteArray) (x : Int) (m : Bool) (t : ByteArray) (y : Int) (w : World) (h1 : decOk n (bs s) x = true) (h2 : decOk m (bs t) y = true) (h0 : t.size = 0) :
    Calls Tryd.prog 67 #[.agg #[.bool n, .string s, .int .i64 x], .agg #[.bool m, .string t, .int .i64 y]] w fun e w' => e = .returned (modV n s x m t y) ∧ Below w.heap.size w w' := by
  have hemp := isEmpty_yes h0
  unfold modV
  rw [if_pos h0]
  have hn0 : ¬ (w.heap.size = w.heap.size + 1 + 1) := by omega
  have hn1 : ¬ (w.heap.size + 1 + 1 = w.heap.size) := by omega
  go_enter Tryd.func67, Tryd.ntmps67
  go_wp2_with fail
  refine bodyPost_ret (v := .tuple #[.agg #[.bool false, .string ⟨#[]⟩, .int .i64 0], .int .i64 2]) (by simp [results, Tryd.results67, go_sem, *]) rfl ?_
  refine ⟨rfl, ?_⟩
  go_light
  (repeat (first | exact Below.refl _ _ | assumption | refine Below.drew ?_ | refine below_drewN ?_ _ | (refine Below.alloc ?_ (by first | exact Nat.le_refl _ | (simp; done) | (simp; omega) | (simp at *; omega)) _) | (refine Below.setCell ?_ (by first | exact Nat.le_refl _ | (simp; done) | (simp; omega)) _) | (refine Below.trans ?_ (Below.mono (by assumption) (by first | exact Nat.le_refl _ | (simp; done) | (simp; omega) | (simp at *; omega))))))

set_option maxRecDepth 10000 in
set_option maxHeartbeats 2000000 in
theorem decMod_any (n : Bool) (s : ByteArray) (x : Int) (m : Bool) (t : ByteArray) (y : Int) (w : World) (h1 : decOk n (bs s) x = true) (h2 : decOk m (bs t) y = true) (h0 : 0 < t.size) :
    Calls Tryd.prog 67 #[.agg #[.bool n, .string s, .int .i64 x], .agg #[.bool m, .string t, .int .i64 y]] w fun e w' => e = .returned (modV n s x m t y) ∧ Below w.heap.size w w' := by
  have hB0 := (dec_facts h2).2.2.2.2.2.2.2.2 h0
  have hemp := isEmpty_no h0
  have hYp : 0 < lvl t y x := by unfold lvl; exact Nat.mul_pos hB0 (Nat.pow_pos (by decide))
  unfold modV
  rw [if_neg (by omega)]
  obtain ⟨a1, a2, a3, a4, a5, a6, a7, -, -⟩ := dec_facts h1
  obtain ⟨b1, b2, b3, b4, b5, b6, b7, -, -⟩ := dec_facts h2
  have lx := lvl_len h1 b2
  have ly := lvl_len h2 a2
  have hAL := fun w => aligned_any n s x m t y w h1 h2
  obtain ⟨X, hX⟩ : ∃ X, lvl s x y = X := ⟨_, rfl⟩
  obtain ⟨Y, hY⟩ : ∃ Y, lvl t y x = Y := ⟨_, rfl⟩
  obtain ⟨z, hz⟩ : ∃ z, min x y = z := ⟨_, rfl⟩
  have hza : -119 ≤ z := by omega
  have hzb : z ≤ 99 := by omega
  rw [hX] at lx hAL ⊢
  rw [hY] at ly hAL ⊢
  rw [hz] at hAL ⊢
  have HAL := Lib.hid hAL
  have ladd := dec_add_len X Y
  have hs1 := size_ofL (dec X)
  have hs2 := size_ofL (dec Y)
  have hn0 : ¬ (w.heap.size = w.heap.size + 1 + 1) := by omega
  have hn1 : ¬ (w.heap.size + 1 + 1 = w.heap.size) := by omega
  rw [hY] at hYp
  have hRl : (dec (X % Y)).length ≤ 300 := Nat.le_trans (dec_mono (Nat.mod_le _ _)) lx
  obtain ⟨n', u, y', c, hV, -, -, -⟩ := formV_lit n (X % Y) z
  have hD := Lib.hid (fun w => by
    have := natDiv_any (ofL (dec X)) (ofL (dec Y)) w (by rw [bs_ofL]; exact dec_all X) (by rw [bs_ofL]; exact dec_canon Y) (by omega) (by omega) (by rw [bs_ofL, val_dec]; exact hYp)
    rw [bs_ofL, bs_ofL, val_dec, val_dec] at this
    exact this : ∀ w : World, Calls Tryd.prog 100 #[.string (ofL (dec X)), .string (ofL (dec Y))] w fun e w' => e = .returned (.tuple #[.string (ofL (dec (X / Y))), .string (ofL (dec (X % Y)))]) ∧ Below w.heap.size w w')
  have hN := Lib.hid (fun w => by
    have := normal_dec n (X % Y) z w (by omega) (by omega) (by omega)
    rw [hV] at this
    exact this : ∀ w : World, Calls Tryd.prog 52 #[.bool n, .string (ofL (dec (X % Y))), .int .i64 z] w fun e w' => e = .returned (.tuple #[.agg #[.bool n', .string u, .int .i64 y'], .int .i64 c]) ∧ Below w.heap.size w w')
  rw [hV]
  clear hB0 hYp h0 hRl hV a4 b4 a5 b5 hX hY hz hAL ladd lx ly hs1 hs2
  clear h1 h2
  go_enter Tryd.func67, Tryd.ntmps67
  go_wp2_with fail
  refine (HAL.out _).mono ?_
  rintro e w1 ⟨rfl, hb1⟩
  obtain ⟨w0, hw0, hz0, hb0, hc0, hr0⟩ := three_laid w n s x m t y
  rw [hw0] at hb1
  obtain ⟨hv1, hz1, hc1, hr1⟩ := three_kept hb1 hz0 hb0 hc0 hr0
  clear hw0 hz0 hb0 hc0 hr0 hb1
  go_wp2_with fail
  refine (hD.out _).mono ?_
  rintro e w2 ⟨rfl, hb2⟩
  obtain ⟨hv2, hz2, hc2, hr2⟩ := three_kept hb2 hz1 hv1 hc1 hr1
  clear hz1 hv1 hc1 hr1 hb2
  go_wp2_with fail
  refine (hN.out _).mono ?_
  rintro e w3 ⟨rfl, hb3⟩
  obtain ⟨hv3, hz3, hc3, hr3⟩ := three_kept hb3 hz2 hv2 hc2 hr2
  clear hz2 hv2 hc2 hr2 hb3
  go_wp2
  refine bodyPost_ret (v := .tuple #[.agg #[.bool n', .string u, .int .i64 y'], .int .i64 c]) (by simp [results, Tryd.results67, go_sem, *]) rfl ?_
  exact ⟨rfl, set_three hv3 (by omega) _ _ _⟩

theorem specDecMod_zero (n : Bool) (s : ByteArray) (x : Int) (m : Bool) (t : ByteArray) (y : Int) (w : World) (hs : s.size ≤ maxLen) (hx : (Lit.int .i64 x).wf = true) (ht : t.size ≤ maxLen) (hy : (Lit.int .i64 y).wf = true) (h1 : decOk n (bs s) x = true) (h2 : decOk m (bs t) y = true) (h0 : t.size = 0) :
    Calls Tryd.prog 33 #[.agg #[.bool n, .string s, .int .i64 x], .agg #[.bool m, .string t, .int .i64 y]] w fun e w' => e = .returned (modV n s x m t y) ∧ Below w.heap.size w w' := by
  have hemp := isEmpty_yes h0
  unfold modV
  rw [if_pos h0]
  have hn0 : ¬ (w.heap.size = w.heap.size + 1 + 1) := by omega
  have hn1 : ¬ (w.heap.size + 1 + 1 = w.heap.size) := by omega
  go_enter Tryd.func33, Tryd.ntmps33
  go_wp2_with fail
  refine (specDecOk_any n s x _ hs hx).mono ?_
  rintro e w1 ⟨rfl, hb1⟩
  rw [h1]
  obtain ⟨w0, hw0, hz0, hb0, hc0, hr0⟩ := three_laid w n s x m t y
  rw [hw0] at hb1
  obtain ⟨hv1, hz1, hc1, hr1⟩ := three_kept hb1 hz0 hb0 hc0 hr0
  clear hw0 hz0 hb0 hc0 hr0 hb1
  go_wp2_with fail
  refine (specDecOk_any m t y _ ht hy).mono ?_
  rintro e w2 ⟨rfl, hb2⟩
  rw [h2]
  obtain ⟨hv2, hz2, hc2, hr2⟩ := three_kept hb2 hz1 hv1 hc1 hr1
  clear hz1 hv1 hc1 hr1 hb2
  go_wp2
  refine bodyPost_ret (v := .tuple #[.agg #[.bool false, .string ⟨#[]⟩, .int .i64 0], .int .i64 2]) (by simp [results, Tryd.results33, go_sem, *]) rfl ?_
  exact ⟨rfl, set_three hv2 (by omega) _ _ _⟩

set_option maxRecDepth 10000 in
set_option maxHeartbeats 2000000 in
theorem specDecMod_any (n : Bool) (s : ByteArray) (x : Int) (m : Bool) (t : ByteArray) (y : Int) (w : World) (hs : s.size ≤ maxLen) (hx : (Lit.int .i64 x).wf = true) (ht : t.size ≤ maxLen) (hy : (Lit.int .i64 y).wf = true) (h1 : decOk n (bs s) x = true) (h2 : decOk m (bs t) y = true) (h0 : 0 < t.size) :
    Calls Tryd.prog 33 #[.agg #[.bool n, .string s, .int .i64 x], .agg #[.bool m, .string t, .int .i64 y]] w fun e w' => e = .returned (modV n s x m t y) ∧ Below w.heap.size w w' := by
  have hB0 := (dec_facts h2).2.2.2.2.2.2.2.2 h0
  have hemp := isEmpty_no h0
  have hYp : 0 < lvl t y x := by unfold lvl; exact Nat.mul_pos hB0 (Nat.pow_pos (by decide))
  unfold modV
  rw [if_neg (by omega)]
  obtain ⟨a1, a2, a3, a4, a5, a6, a7, -, -⟩ := dec_facts h1
  obtain ⟨b1, b2, b3, b4, b5, b6, b7, -, -⟩ := dec_facts h2
  have lx := lvl_len h1 b2
  have ly := lvl_len h2 a2
  have hAL := fun w => l03Level_any n s x m t y w h1 h2
  have hPX := lvL_val s x y a5
  have hQY := lvL_val t y x b5
  have hPa := lvL_all s x y a4
  have hQa := lvL_all t y x b4
  have hPl : (lvL s x y).length ≤ 300 := by unfold lvL; rw [List.length_append, zs_len, bs_length]; omega
  have hQl : (lvL t y x).length ≤ 300 := by unfold lvL; rw [List.length_append, zs_len, bs_length]; omega
  obtain ⟨X, hX⟩ : ∃ X, lvl s x y = X := ⟨_, rfl⟩
  obtain ⟨Y, hY⟩ : ∃ Y, lvl t y x = Y := ⟨_, rfl⟩
  obtain ⟨z, hz⟩ : ∃ z, min x y = z := ⟨_, rfl⟩
  obtain ⟨p, hp⟩ : ∃ p, lvL s x y = p := ⟨_, rfl⟩
  obtain ⟨k, hk⟩ : ∃ k, lvL t y x = k := ⟨_, rfl⟩
  have hza : -119 ≤ z := by omega
  have hzb : z ≤ 99 := by omega
  rw [hX] at lx hPX ⊢
  rw [hY] at ly hQY ⊢
  rw [hz] at hAL ⊢
  rw [hp] at hAL hPX hPa hPl
  rw [hk] at hAL hQY hQa hQl
  have HAL := Lib.hid hAL
  have ladd := dec_add_len X Y
  have hs1 := size_ofL p
  have hs2 := size_ofL k
  have hs3 := size_ofL (dec X)
  have hs4 := size_ofL (dec Y)
  have hn0 : ¬ (w.heap.size = w.heap.size + 1 + 1) := by omega
  have hn1 : ¬ (w.heap.size + 1 + 1 = w.heap.size) := by omega
  rw [hY] at hYp
  have hRl : (dec (X % Y)).length ≤ 300 := Nat.le_trans (dec_mono (Nat.mod_le _ _)) lx
  obtain ⟨n', u, y', c, hV, -, -, -⟩ := formV_lit n (X % Y) z
  have hT := Lib.hid (fun w => by
    have := l02Trim_any (ofL k) w (by omega)
    rw [bs_ofL, trimZ_dec _ hQa, hQY] at this
    exact this : ∀ w : World, Calls Tryd.prog 66 #[.string (ofL k)] w fun e w' => e = .returned (.string (ofL (dec Y))) ∧ w' = w)
  have hD := Lib.hid (fun w => by
    have := l02Div_any (ofL p) (ofL (dec Y)) w (by rw [bs_ofL]; exact hPa) (by rw [bs_ofL]; exact dec_all Y) (by omega) (by omega) (by rw [bs_ofL, val_dec]; exact hYp)
    rw [bs_ofL, bs_ofL, hPX, val_dec] at this
    exact this : ∀ w : World, Calls Tryd.prog 63 #[.string (ofL p), .string (ofL (dec Y))] w fun e w' => e = .returned (.tuple #[.string (ofL (dec (X / Y))), .string (ofL (dec (X % Y)))]) ∧ Below w.heap.size w w')
  have hN := Lib.hid (fun w => by
    have := form_dec n (X % Y) z w (by omega) (by omega) (by omega)
    rw [hV] at this
    exact this : ∀ w : World, Calls Tryd.prog 49 #[.bool n, .string (ofL (dec (X % Y))), .int .i64 z, .bool false] w fun e w' => e = .returned (.tuple #[.agg #[.bool n', .string u, .int .i64 y'], .int .i64 c]) ∧ Below w.heap.size w w')
  rw [hV]
  clear hB0 hYp h0 hRl hV a4 b4 a5 b5 hX hY hz hAL ladd lx ly hs1 hs2 hs3 hs4 hPX hQY hPa hQa hPl hQl hp hk
  go_enter Tryd.func33, Tryd.ntmps33
  go_wp2_with fail
  refine (specDecOk_any n s x _ hs hx).mono ?_
  rintro e w1 ⟨rfl, hb1⟩
  rw [h1]
  obtain ⟨w0, hw0, hz0, hb0, hc0, hr0⟩ := three_laid w n s x m t y
  rw [hw0] at hb1
  obtain ⟨hv1, hz1, hc1, hr1⟩ := three_kept hb1 hz0 hb0 hc0 hr0
  clear hw0 hz0 hb0 hc0 hr0 hb1
  go_wp2_with fail
  refine (specDecOk_any m t y _ ht hy).mono ?_
  rintro e w2 ⟨rfl, hb2⟩
  rw [h2]
  obtain ⟨hv2, hz2, hc2, hr2⟩ := three_kept hb2 hz1 hv1 hc1 hr1
  clear hz1 hv1 hc1 hr1 hb2
  clear h1 h2
  go_wp2_with fail
  refine (HAL.out _).mono ?_
  rintro e w3 ⟨rfl, hb3⟩
  obtain ⟨hv3, hz3, hc3, hr3⟩ := three_kept hb3 hz2 hv2 hc2 hr2
  clear hz2 hv2 hc2 hr2 hb3
  go_wp2_with fail
  refine (hT.out _).mono ?_
  rintro e w8 ⟨rfl, hw8⟩
  obtain rfl : w3 = w8 := hw8.symm
  clear hw8
  go_wp2_with fail
  refine (hD.out _).mono ?_
  rintro e w4 ⟨rfl, hb4⟩
  obtain ⟨hv4, hz4, hc4, hr4⟩ := three_kept hb4 hz3 hv3 hc3 hr3
  clear hz3 hv3 hc3 hr3 hb4
  go_wp2_with fail
  refine (hN.out _).mono ?_
  rintro e w5 ⟨rfl, hb5⟩
  obtain ⟨hv5, hz5, hc5, hr5⟩ := three_kept hb5 hz4 hv4 hc4 hr4
  clear hz4 hv4 hc4 hr4 hb5
  go_wp2
  refine bodyPost_ret (v := .tuple #[.agg #[.bool n', .string u, .int .i64 y'], .int .i64 c]) (by simp [results, Tryd.results33, go_sem, *]) rfl ?_
  exact ⟨rfl, set_three hv5 (by omega) _ _ _⟩
end Go.Proofs.YtbfkmpignbppfaaDoor
