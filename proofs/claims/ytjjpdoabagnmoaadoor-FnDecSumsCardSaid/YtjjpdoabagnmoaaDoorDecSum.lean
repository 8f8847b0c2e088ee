/-
  The contracts of spec.l03Sum. Condition: numbers in form.
-/
import Derived.Test.YtjjpdoabagnmoaaDoorThree
import Derived.Test.YtjjpdoabagnmoaaDoorNatAddS
import Derived.Test.YtjjpdoabagnmoaaDoorNatSubS
namespace Go.Proofs.YtjjpdoabagnmoaaDoor
open Go.RowKit
set_option linter.unusedVariables false
set_option linter.unusedSimpArgs false

/-- the sign of a sum, as a number -/
def sgnR (n : Bool) (X : Nat) (m : Bool) (Y : Nat) : Value := if (sumN n X m Y).2 = 0 then numV false [] 0 0 else numV (sumN n X m Y).1 [49] 0 0

set_option maxRecDepth 10000 in
set_option maxHeartbeats 2000000 in
theorem l03Sum_true (n : Bool) (s : ByteArray) (x : Int) (m : Bool) (t : ByteArray) (y : Int) (w : World) (h1 : decOk n (bs s) x = true) (h2 : decOk m (bs t) y = true) :
    Calls Tryd.prog 39 #[.agg #[.bool n, .string s, .int .i64 x], .agg #[.bool m, .string t, .int .i64 y], .bool true] w fun e w' => e = .returned (sumV n (lvl s x y) m (lvl t y x) (min x y)) ∧ Below w.heap.size w w' := by
  obtain ⟨a1, a2, a3, a4, a5, a6, a7, -, -⟩ := dec_facts h1
  obtain ⟨b1, b2, b3, b4, b5, b6, b7, -, -⟩ := dec_facts h2
  have lx := lvl_len h1 b2
  have ly := lvl_len h2 a2
  have hAL := fun w => l03Level_any n s x m t y w h1 h2
  have hPX := lvL_val s x y a5
  have hQY := lvL_val t y x b5
  have hPa := lvL_all s x y a4
  have hQa := lvL_all t y x b4
  have hPl : (lvL s x y).length ≤ 300 := by unfold lvL; rw [List.length_append, zs_len, bs_length]; omega
  have hQl : (lvL t y x).length ≤ 300 := by unfold lvL; rw [List.length_append, zs_len, bs_length]; omega
  obtain ⟨X, hX⟩ : ∃ X, lvl s x y = X := ⟨_, rfl⟩
  obtain ⟨Y, hY⟩ : ∃ Y, lvl t y x = Y := ⟨_, rfl⟩
  obtain ⟨z, hz⟩ : ∃ z, min x y = z := ⟨_, rfl⟩
  obtain ⟨p, hp⟩ : ∃ p, lvL s x y = p := ⟨_, rfl⟩
  obtain ⟨k, hk⟩ : ∃ k, lvL t y x = k := ⟨_, rfl⟩
  have hz1 : -119 ≤ z := by omega
  have hz2 : z ≤ 99 := by omega
  rw [hX] at lx hPX ⊢
  rw [hY] at ly hQY ⊢
  rw [hz] at hAL ⊢
  rw [hp] at hAL hPX hPa hPl
  rw [hk] at hAL hQY hQa hQl
  have HAL := Lib.hid hAL
  have ladd := dec_add_len X Y
  have hs1 := size_ofL p
  have hs2 := size_ofL k
  have hs3 := size_ofL (dec X)
  have hs4 := size_ofL (dec Y)
  have hn0 : ¬ (w.heap.size = w.heap.size + 1 + 1) := by omega
  have hn1 : ¬ (w.heap.size + 1 + 1 = w.heap.size) := by omega
  by_cases hnm : n = m
  · subst hnm
    have hA := Lib.hid (fun w => by
      have := l02Add_any (ofL p) (ofL k) w (by rw [bs_ofL]; exact hPa) (by rw [bs_ofL]; exact hQa) (by omega) (by omega)
      rw [bs_ofL, bs_ofL, hPX, hQY] at this
      exact this : ∀ w : World, Calls Tryd.prog 74 #[.string (ofL p), .string (ofL k)] w fun e w' => e = .returned (.string (ofL (dec (X + Y)))) ∧ Below w.heap.size w w')
    have hd3 := size_ofL (dec (X + Y))
    obtain ⟨n', u, y', c, hV, -, -, -⟩ := formV_lit n (X + Y) z
    have hN := Lib.hid (fun w => by
      have := form_dec n (X + Y) z w (by omega) (by omega) (by omega)
      rw [hV] at this
      exact this : ∀ w : World, Calls Tryd.prog 41 #[.bool n, .string (ofL (dec (X + Y))), .int .i64 z, .bool false] w fun e w' => e = .returned (.tuple #[.agg #[.bool n', .string u, .int .i64 y'], .int .i64 c]) ∧ Below w.heap.size w w')
    have hE : sumV n X n Y z = .tuple #[.agg #[.bool n', .string u, .int .i64 y'], .int .i64 c] := by unfold sumV; rw [if_pos rfl, hV]
    rw [hE]
    clear hV hd3
    clear h1 h2 a4 b4 a5 b5 hX hY hz hAL ladd lx ly hs1 hs2 hs3 hs4 hPX hQY hPa hQa hPl hQl hp hk
    go_enter Tryd.func39, Tryd.ntmps39
    go_wp2_with fail
    refine (HAL.out _).mono ?_
    rintro e w1 ⟨rfl, hb1⟩
    obtain ⟨w0, hw0, hz0, hb0, hc0, hr0⟩ := three_laid w n s x n t y
    rw [hw0] at hb1
    obtain ⟨hv1, hz1', hc1, hr1⟩ := three_kept hb1 hz0 hb0 hc0 hr0
    clear hw0 hz0 hb0 hc0 hr0 hb1
    go_wp2_with fail
    refine (hA.out _).mono ?_
    rintro e w2 ⟨rfl, hb2⟩
    obtain ⟨hv2, hz2', hc2, hr2⟩ := three_kept hb2 hz1' hv1 hc1 hr1
    clear hz1' hv1 hc1 hr1 hb2
    go_wp2_with fail
    refine (hN.out _).mono ?_
    rintro e w3 ⟨rfl, hb3⟩
    obtain ⟨hv3, hz3', hc3, hr3⟩ := three_kept hb3 hz2' hv2 hc2 hr2
    clear hz2' hv2 hc2 hr2 hb3
    go_wp2
    refine bodyPost_ret (v := .tuple #[.agg #[.bool n', .string u, .int .i64 y'], .int .i64 c]) (by simp [results, Tryd.results39, go_sem, *]) rfl ?_
    exact ⟨rfl, set_three (by assumption) (by omega) _ _ _⟩
  · have hnb : (n == m) = false := by simpa using hnm
    by_cases hle : Y ≤ X
    · have lsub := dec_mono (Nat.sub_le X Y)
      obtain ⟨q, hq⟩ : ∃ q, cmpN X Y = q := ⟨_, rfl⟩
      have hq0 : 0 ≤ q := by rcases cmpN_cases X Y with ⟨_, e⟩ | ⟨_, e⟩ | ⟨_, e⟩ <;> omega
      have hC := Lib.hid (fun w => by
        have := l02Cmp_any (ofL p) (ofL k) w (by rw [bs_ofL]; exact hPa) (by rw [bs_ofL]; exact hQa) (by omega) (by omega)
        rw [bs_ofL, bs_ofL, hPX, hQY, hq] at this
        exact this : ∀ w : World, Calls Tryd.prog 75 #[.string (ofL p), .string (ofL k)] w fun e w' => e = .returned (.int .i64 q) ∧ w' = w)
      have hR := Lib.hid (fun w => by
        have := l02Trim_any (ofL p) w (by omega)
        rw [bs_ofL, trimZ_dec _ hPa, hPX] at this
        exact this : ∀ w : World, Calls Tryd.prog 77 #[.string (ofL p)] w fun e w' => e = .returned (.string (ofL (dec X))) ∧ w' = w)
      have hA := Lib.hid (fun w => by
        have := l02Sub_any (ofL (dec X)) (ofL k) w (by rw [bs_ofL]; exact dec_all X) (by rw [bs_ofL]; exact hQa) (by omega) (by omega) (by rw [bs_ofL, bs_ofL, val_dec, hQY]; omega)
        rw [bs_ofL, bs_ofL, val_dec, hQY] at this
        exact this : ∀ w : World, Calls Tryd.prog 76 #[.string (ofL (dec X)), .string (ofL k)] w fun e w' => e = .returned (.string (ofL (dec (X - Y)))) ∧ Below w.heap.size w w')
      have hd3 := size_ofL (dec (X - Y))
      obtain ⟨n', u, y', c, hV, -, -, -⟩ := formV_lit n (X - Y) z
      have hN := Lib.hid (fun w => by
        have := form_dec n (X - Y) z w (by omega) (by omega) (by omega)
        rw [hV] at this
        exact this : ∀ w : World, Calls Tryd.prog 41 #[.bool n, .string (ofL (dec (X - Y))), .int .i64 z, .bool false] w fun e w' => e = .returned (.tuple #[.agg #[.bool n', .string u, .int .i64 y'], .int .i64 c]) ∧ Below w.heap.size w w')
      have hE : sumV n X m Y z = .tuple #[.agg #[.bool n', .string u, .int .i64 y'], .int .i64 c] := by unfold sumV; rw [if_neg hnm, if_pos hle, hV]
      rw [hE]
      clear hV hd3
      clear h1 h2 a4 b4 a5 b5 hX hY hz hAL ladd lx ly hs1 hs2 hs3 hs4 hPX hQY hPa hQa hPl hQl hp hk lsub hq hle hnm
      go_enter Tryd.func39, Tryd.ntmps39
      go_wp2_with fail
      refine (HAL.out _).mono ?_
      rintro e w1 ⟨rfl, hb1⟩
      obtain ⟨w0, hw0, hz0, hb0, hc0, hr0⟩ := three_laid w n s x m t y
      rw [hw0] at hb1
      obtain ⟨hv1, hz1', hc1, hr1⟩ := three_kept hb1 hz0 hb0 hc0 hr0
      clear hw0 hz0 hb0 hc0 hr0 hb1
      go_wp2_with fail
      refine (hC.out _).mono ?_
      rintro e w6 ⟨rfl, hw6⟩
      obtain rfl : w1 = w6 := hw6.symm
      clear hw6
      go_wp2_with fail
      refine (hR.out _).mono ?_
      rintro e w6 ⟨rfl, hw6⟩
      obtain rfl : w1 = w6 := hw6.symm
      clear hw6
      go_wp2_with fail
      refine (hA.out _).mono ?_
      rintro e w2 ⟨rfl, hb2⟩
      obtain ⟨hv2, hz2', hc2, hr2⟩ := three_kept hb2 hz1' hv1 hc1 hr1
      clear hz1' hv1 hc1 hr1 hb2
      go_wp2_with fail
      refine (hN.out _).mono ?_
      rintro e w3 ⟨rfl, hb3⟩
      obtain ⟨hv3, hz3', hc3, hr3⟩ := three_kept hb3 hz2' hv2 hc2 hr2
      clear hz2' hv2 hc2 hr2 hb3
      go_wp2
      refine bodyPost_ret (v := .tuple #[.agg #[.bool n', .string u, .int .i64 y'], .int .i64 c]) (by simp [results, Tryd.results39, go_sem, *]) rfl ?_
      exact ⟨rfl, set_three (by assumption) (by omega) _ _ _⟩
    · have lsub := dec_mono (Nat.sub_le Y X)
      obtain ⟨q, hq⟩ : ∃ q, cmpN X Y = q := ⟨_, rfl⟩
      have hq0 : q < 0 := by rcases cmpN_cases X Y with ⟨_, e⟩ | ⟨_, e⟩ | ⟨_, e⟩ <;> omega
      have hC := Lib.hid (fun w => by
        have := l02Cmp_any (ofL p) (ofL k) w (by rw [bs_ofL]; exact hPa) (by rw [bs_ofL]; exact hQa) (by omega) (by omega)
        rw [bs_ofL, bs_ofL, hPX, hQY, hq] at this
        exact this : ∀ w : World, Calls Tryd.prog 75 #[.string (ofL p), .string (ofL k)] w fun e w' => e = .returned (.int .i64 q) ∧ w' = w)
      have hR := Lib.hid (fun w => by
        have := l02Trim_any (ofL k) w (by omega)
        rw [bs_ofL, trimZ_dec _ hQa, hQY] at this
        exact this : ∀ w : World, Calls Tryd.prog 77 #[.string (ofL k)] w fun e w' => e = .returned (.string (ofL (dec Y))) ∧ w' = w)
      have hA := Lib.hid (fun w => by
        have := l02Sub_any (ofL (dec Y)) (ofL p) w (by rw [bs_ofL]; exact dec_all Y) (by rw [bs_ofL]; exact hPa) (by omega) (by omega) (by rw [bs_ofL, bs_ofL, val_dec, hPX]; omega)
        rw [bs_ofL, bs_ofL, val_dec, hPX] at this
        exact this : ∀ w : World, Calls Tryd.prog 76 #[.string (ofL (dec Y)), .string (ofL p)] w fun e w' => e = .returned (.string (ofL (dec (Y - X)))) ∧ Below w.heap.size w w')
      have hd3 := size_ofL (dec (Y - X))
      obtain ⟨n', u, y', c, hV, -, -, -⟩ := formV_lit m (Y - X) z
      have hN := Lib.hid (fun w => by
        have := form_dec m (Y - X) z w (by omega) (by omega) (by omega)
        rw [hV] at this
        exact this : ∀ w : World, Calls Tryd.prog 41 #[.bool m, .string (ofL (dec (Y - X))), .int .i64 z, .bool false] w fun e w' => e = .returned (.tuple #[.agg #[.bool n', .string u, .int .i64 y'], .int .i64 c]) ∧ Below w.heap.size w w')
      have hE : sumV n X m Y z = .tuple #[.agg #[.bool n', .string u, .int .i64 y'], .int .i64 c] := by unfold sumV; rw [if_neg hnm, if_neg hle, hV]
      rw [hE]
      clear hV hd3
      clear h1 h2 a4 b4 a5 b5 hX hY hz hAL ladd lx ly hs1 hs2 hs3 hs4 hPX hQY hPa hQa hPl hQl hp hk lsub hq hle hnm
      go_enter Tryd.func39, Tryd.ntmps39
      go_wp2_with fail
      refine (HAL.out _).mono ?_
      rintro e w1 ⟨rfl, hb1⟩
      obtain ⟨w0, hw0, hz0, hb0, hc0, hr0⟩ := three_laid w n s x m t y
      rw [hw0] at hb1
      obtain ⟨hv1, hz1', hc1, hr1⟩ := three_kept hb1 hz0 hb0 hc0 hr0
      clear hw0 hz0 hb0 hc0 hr0 hb1
      go_wp2_with fail
      refine (hC.out _).mono ?_
      rintro e w6 ⟨rfl, hw6⟩
      obtain rfl : w1 = w6 := hw6.symm
      clear hw6
      go_wp2_with fail
      refine (hR.out _).mono ?_
      rintro e w6 ⟨rfl, hw6⟩
      obtain rfl : w1 = w6 := hw6.symm
      clear hw6
      go_wp2_with fail
      refine (hA.out _).mono ?_
      rintro e w2 ⟨rfl, hb2⟩
      obtain ⟨hv2, hz2', hc2, hr2⟩ := three_kept hb2 hz1' hv1 hc1 hr1
      clear hz1' hv1 hc1 hr1 hb2
      go_wp2_with fail
      refine (hN.out _).mono ?_
      rintro e w3 ⟨rfl, hb3⟩
      obtain ⟨hv3, hz3', hc3, hr3⟩ := three_kept hb3 hz2' hv2 hc2 hr2
      clear hz2' hv2 hc2 hr2 hb3
      go_wp2
      refine bodyPost_ret (v := .tuple #[.agg #[.bool n', .string u, .int .i64 y'], .int .i64 c]) (by simp [results, Tryd.results39, go_sem, *]) rfl ?_
      exact ⟨rfl, set_three (by assumption) (by omega) _ _ _⟩

set_option maxRecDepth 10000 in
set_option maxHeartbeats 2000000 in
theorem l03Sum_false (n : Bool) (s : ByteArray) (x : Int) (m : Bool) (t : ByteArray) (y : Int) (w : World) (h1 : decOk n (bs s) x = true) (h2 : decOk m (bs t) y = true) :
    Calls Tryd.prog 39 #[.agg #[.bool n, .string s, .int .i64 x], .agg #[.bool m, .string t, .int .i64 y], .bool false] w fun e w' => e = .returned (sgnR n (lvl s x y) m (lvl t y x)) ∧ Below w.heap.size w w' := by
  obtain ⟨a1, a2, a3, a4, a5, a6, a7, -, -⟩ := dec_facts h1
  obtain ⟨b1, b2, b3, b4, b5, b6, b7, -, -⟩ := dec_facts h2
  have lx := lvl_len h1 b2
  have ly := lvl_len h2 a2
  have hAL := fun w => l03Level_any n s x m t y w h1 h2
  have hPX := lvL_val s x y a5
  have hQY := lvL_val t y x b5
  have hPa := lvL_all s x y a4
  have hQa := lvL_all t y x b4
  have hPl : (lvL s x y).length ≤ 300 := by unfold lvL; rw [List.length_append, zs_len, bs_length]; omega
  have hQl : (lvL t y x).length ≤ 300 := by unfold lvL; rw [List.length_append, zs_len, bs_length]; omega
  obtain ⟨X, hX⟩ : ∃ X, lvl s x y = X := ⟨_, rfl⟩
  obtain ⟨Y, hY⟩ : ∃ Y, lvl t y x = Y := ⟨_, rfl⟩
  obtain ⟨z, hz⟩ : ∃ z, min x y = z := ⟨_, rfl⟩
  obtain ⟨p, hp⟩ : ∃ p, lvL s x y = p := ⟨_, rfl⟩
  obtain ⟨k, hk⟩ : ∃ k, lvL t y x = k := ⟨_, rfl⟩
  have hz1 : -119 ≤ z := by omega
  have hz2 : z ≤ 99 := by omega
  rw [hX] at lx hPX ⊢
  rw [hY] at ly hQY ⊢
  rw [hz] at hAL
  rw [hp] at hAL hPX hPa hPl
  rw [hk] at hAL hQY hQa hQl
  have HAL := Lib.hid hAL
  have ladd := dec_add_len X Y
  have hs1 := size_ofL p
  have hs2 := size_ofL k
  have hs3 := size_ofL (dec X)
  have hs4 := size_ofL (dec Y)
  have hn0 : ¬ (w.heap.size = w.heap.size + 1 + 1) := by omega
  have hn1 : ¬ (w.heap.size + 1 + 1 = w.heap.size) := by omega
  by_cases hnm : n = m
  · subst hnm
    have hA := Lib.hid (fun w => by
      have := l02Add_any (ofL p) (ofL k) w (by rw [bs_ofL]; exact hPa) (by rw [bs_ofL]; exact hQa) (by omega) (by omega)
      rw [bs_ofL, bs_ofL, hPX, hQY] at this
      exact this : ∀ w : World, Calls Tryd.prog 74 #[.string (ofL p), .string (ofL k)] w fun e w' => e = .returned (.string (ofL (dec (X + Y)))) ∧ Below w.heap.size w w')
    have hd3 := size_ofL (dec (X + Y))
    have hT := Lib.hid (fun w => by
      have := l02Trim_any (ofL (dec (X + Y))) w (by omega)
      rw [bs_ofL, trimZ_dec _ (dec_all _), val_dec] at this
      exact this : ∀ w : World, Calls Tryd.prog 77 #[.string (ofL (dec (X + Y)))] w fun e w' => e = .returned (.string (ofL (dec (X + Y)))) ∧ w' = w)
    have hE : sgnR n X n Y = if X + Y = 0 then numV false [] 0 0 else numV n [49] 0 0 := by unfold sgnR sumN; rw [if_pos rfl]
    rw [hE]
    clear hd3
    clear h1 h2 a4 b4 a5 b5 hX hY hz hAL ladd lx ly hs1 hs2 hs3 hs4 hPX hQY hPa hQa hPl hQl hp hk
    by_cases hv0 : X + Y = 0
    · have hz0b : ((ofL (dec (X + Y))).toList == [48]) = true := by rw [toList_bs, bs_ofL, hv0, dec_zero]; rfl
      rw [if_pos hv0]
      clear hv0
      go_enter Tryd.func39, Tryd.ntmps39
      go_wp2_with fail
      refine (HAL.out _).mono ?_
      rintro e w1 ⟨rfl, hb1⟩
      obtain ⟨w0, hw0, hz0, hb0, hc0, hr0⟩ := three_laid w n s x n t y
      rw [hw0] at hb1
      obtain ⟨hv1, hz1', hc1, hr1⟩ := three_kept hb1 hz0 hb0 hc0 hr0
      clear hw0 hz0 hb0 hc0 hr0 hb1
      go_wp2_with fail
      refine (hA.out _).mono ?_
      rintro e w2 ⟨rfl, hb2⟩
      obtain ⟨hv2, hz2', hc2, hr2⟩ := three_kept hb2 hz1' hv1 hc1 hr1
      clear hz1' hv1 hc1 hr1 hb2
      go_wp2_with fail
      refine (hT.out _).mono ?_
      rintro e w7 ⟨rfl, hw7⟩
      obtain rfl : w2 = w7 := hw7.symm
      clear hw7
      go_wp2
      refine bodyPost_ret (v := .tuple #[.agg #[.bool false, .string ⟨#[]⟩, .int .i64 0], .int .i64 0]) (by simp [results, Tryd.results39, go_sem, *]) rfl ?_
      exact ⟨rfl, set_three (by assumption) (by omega) _ _ _⟩
    · have hz0b : ((ofL (dec (X + Y))).toList == [48]) = false := by
        rw [toList_bs, bs_ofL]
        refine beq_eq_false_iff_ne.2 fun e => hv0 ?_
        rw [← val_dec (X + Y), e]; rfl
      rw [if_neg hv0]
      clear hv0
      go_enter Tryd.func39, Tryd.ntmps39
      go_wp2_with fail
      refine (HAL.out _).mono ?_
      rintro e w1 ⟨rfl, hb1⟩
      obtain ⟨w0, hw0, hz0, hb0, hc0, hr0⟩ := three_laid w n s x n t y
      rw [hw0] at hb1
      obtain ⟨hv1, hz1', hc1, hr1⟩ := three_kept hb1 hz0 hb0 hc0 hr0
      clear hw0 hz0 hb0 hc0 hr0 hb1
      go_wp2_with fail
      refine (hA.out _).mono ?_
      rintro e w2 ⟨rfl, hb2⟩
      obtain ⟨hv2, hz2', hc2, hr2⟩ := three_kept hb2 hz1' hv1 hc1 hr1
      clear hz1' hv1 hc1 hr1 hb2
      go_wp2_with fail
      refine (hT.out _).mono ?_
      rintro e w7 ⟨rfl, hw7⟩
      obtain rfl : w2 = w7 := hw7.symm
      clear hw7
      go_wp2
      refine bodyPost_ret (v := .tuple #[.agg #[.bool n, .string ⟨#[49]⟩, .int .i64 0], .int .i64 0]) (by simp [results, Tryd.results39, go_sem, *]) rfl ?_
      exact ⟨rfl, set_three (by assumption) (by omega) _ _ _⟩
  · have hnb : (n == m) = false := by simpa using hnm
    by_cases hle : Y ≤ X
    · have lsub := dec_mono (Nat.sub_le X Y)
      obtain ⟨q, hq⟩ : ∃ q, cmpN X Y = q := ⟨_, rfl⟩
      have hq0 : 0 ≤ q := by rcases cmpN_cases X Y with ⟨_, e⟩ | ⟨_, e⟩ | ⟨_, e⟩ <;> omega
      have hC := Lib.hid (fun w => by
        have := l02Cmp_any (ofL p) (ofL k) w (by rw [bs_ofL]; exact hPa) (by rw [bs_ofL]; exact hQa) (by omega) (by omega)
        rw [bs_ofL, bs_ofL, hPX, hQY, hq] at this
        exact this : ∀ w : World, Calls Tryd.prog 75 #[.string (ofL p), .string (ofL k)] w fun e w' => e = .returned (.int .i64 q) ∧ w' = w)
      have hR := Lib.hid (fun w => by
        have := l02Trim_any (ofL p) w (by omega)
        rw [bs_ofL, trimZ_dec _ hPa, hPX] at this
        exact this : ∀ w : World, Calls Tryd.prog 77 #[.string (ofL p)] w fun e w' => e = .returned (.string (ofL (dec X))) ∧ w' = w)
      have hA := Lib.hid (fun w => by
        have := l02Sub_any (ofL (dec X)) (ofL k) w (by rw [bs_ofL]; exact dec_all X) (by rw [bs_ofL]; exact hQa) (by omega) (by omega) (by rw [bs_ofL, bs_ofL, val_dec, hQY]; omega)
        rw [bs_ofL, bs_ofL, val_dec, hQY] at this
        exact this : ∀ w : World, Calls Tryd.prog 76 #[.string (ofL (dec X)), .string (ofL k)] w fun e w' => e = .returned (.string (ofL (dec (X - Y)))) ∧ Below w.heap.size w w')
      have hd3 := size_ofL (dec (X - Y))
      have hT := Lib.hid (fun w => by
        have := l02Trim_any (ofL (dec (X - Y))) w (by omega)
        rw [bs_ofL, trimZ_dec _ (dec_all _), val_dec] at this
        exact this : ∀ w : World, Calls Tryd.prog 77 #[.string (ofL (dec (X - Y)))] w fun e w' => e = .returned (.string (ofL (dec (X - Y)))) ∧ w' = w)
      have hE : sgnR n X m Y = if X - Y = 0 then numV false [] 0 0 else numV n [49] 0 0 := by unfold sgnR sumN; rw [if_neg hnm, if_pos hle]
      rw [hE]
      clear hd3
      clear h1 h2 a4 b4 a5 b5 hX hY hz hAL ladd lx ly hs1 hs2 hs3 hs4 hPX hQY hPa hQa hPl hQl hp hk lsub hq hle hnm
      by_cases hv0 : X - Y = 0
      · have hz0b : ((ofL (dec (X - Y))).toList == [48]) = true := by rw [toList_bs, bs_ofL, hv0, dec_zero]; rfl
        rw [if_pos hv0]
        clear hv0
        go_enter Tryd.func39, Tryd.ntmps39
        go_wp2_with fail
        refine (HAL.out _).mono ?_
        rintro e w1 ⟨rfl, hb1⟩
        obtain ⟨w0, hw0, hz0, hb0, hc0, hr0⟩ := three_laid w n s x m t y
        rw [hw0] at hb1
        obtain ⟨hv1, hz1', hc1, hr1⟩ := three_kept hb1 hz0 hb0 hc0 hr0
        clear hw0 hz0 hb0 hc0 hr0 hb1
        go_wp2_with fail
        refine (hC.out _).mono ?_
        rintro e w6 ⟨rfl, hw6⟩
        obtain rfl : w1 = w6 := hw6.symm
        clear hw6
        go_wp2_with fail
        refine (hR.out _).mono ?_
        rintro e w6 ⟨rfl, hw6⟩
        obtain rfl : w1 = w6 := hw6.symm
        clear hw6
        go_wp2_with fail
        refine (hA.out _).mono ?_
        rintro e w2 ⟨rfl, hb2⟩
        obtain ⟨hv2, hz2', hc2, hr2⟩ := three_kept hb2 hz1' hv1 hc1 hr1
        clear hz1' hv1 hc1 hr1 hb2
        go_wp2_with fail
        refine (hT.out _).mono ?_
        rintro e w7 ⟨rfl, hw7⟩
        obtain rfl : w2 = w7 := hw7.symm
        clear hw7
        go_wp2
        refine bodyPost_ret (v := .tuple #[.agg #[.bool false, .string ⟨#[]⟩, .int .i64 0], .int .i64 0]) (by simp [results, Tryd.results39, go_sem, *]) rfl ?_
        exact ⟨rfl, set_three (by assumption) (by omega) _ _ _⟩
      · have hz0b : ((ofL (dec (X - Y))).toList == [48]) = false := by
          rw [toList_bs, bs_ofL]
          refine beq_eq_false_iff_ne.2 fun e => hv0 ?_
          rw [← val_dec (X - Y), e]; rfl
        rw [if_neg hv0]
        clear hv0
        go_enter Tryd.func39, Tryd.ntmps39
        go_wp2_with fail
        refine (HAL.out _).mono ?_
        rintro e w1 ⟨rfl, hb1⟩
        obtain ⟨w0, hw0, hz0, hb0, hc0, hr0⟩ := three_laid w n s x m t y
        rw [hw0] at hb1
        obtain ⟨hv1, hz1', hc1, hr1⟩ := three_kept hb1 hz0 hb0 hc0 hr0
        clear hw0 hz0 hb0 hc0 hr0 hb1
        go_wp2_with fail
        refine (hC.out _).mono ?_
        rintro e w6 ⟨rfl, hw6⟩
        obtain rfl : w1 = w6 := hw6.symm
        clear hw6
        go_wp2_with fail
        refine (hR.out _).mono ?_
        rintro e w6 ⟨rfl, hw6⟩
        obtain rfl : w1 = w6 := hw6.symm
        clear hw6
        go_wp2_with fail
        refine (hA.out _).mono ?_
        rintro e w2 ⟨rfl, hb2⟩
        obtain ⟨hv2, hz2', hc2, hr2⟩ := three_kept hb2 hz1' hv1 hc1 hr1
        clear hz1' hv1 hc1 hr1 hb2
        go_wp2_with fail
        refine (hT.out _).mono ?_
        rintro e w7 ⟨rfl, hw7⟩
        obtain rfl : w2 = w7 := hw7.symm
        clear hw7
        go_wp2
        refine bodyPost_ret (v := .tuple #[.agg #[.bool n, .string ⟨#[49]⟩, .int .i64 0], .int .i64 0]) (by simp [results, Tryd.results39, go_sem, *]) rfl ?_
        exact ⟨rfl, set_three (by assumption) (by omega) _ _ _⟩
    · have lsub := dec_mono (Nat.sub_le Y X)
      obtain ⟨q, hq⟩ : ∃ q, cmpN X Y = q := ⟨_, rfl⟩
      have hq0 : q < 0 := by rcases cmpN_cases X Y with ⟨_, e⟩ | ⟨_, e⟩ | ⟨_, e⟩ <;> omega
      have hC := Lib.hid (fun w => by
        have := l02Cmp_any (ofL p) (ofL k) w (by rw [bs_ofL]; exact hPa) (by rw [bs_ofL]; exact hQa) (by omega) (by omega)
        rw [bs_ofL, bs_ofL, hPX, hQY, hq] at this
        exact this : ∀ w : World, Calls Tryd.prog 75 #[.string (ofL p), .string (ofL k)] w fun e w' => e = .returned (.int .i64 q) ∧ w' = w)
      have hR := Lib.hid (fun w => by
        have := l02Trim_any (ofL k) w (by omega)
        rw [bs_ofL, trimZ_dec _ hQa, hQY] at this
        exact this : ∀ w : World, Calls Tryd.prog 77 #[.string (ofL k)] w fun e w' => e = .returned (.string (ofL (dec Y))) ∧ w' = w)
      have hA := Lib.hid (fun w => by
        have := l02Sub_any (ofL (dec Y)) (ofL p) w (by rw [bs_ofL]; exact dec_all Y) (by rw [bs_ofL]; exact hPa) (by omega) (by omega) (by rw [bs_ofL, bs_ofL, val_dec, hPX]; omega)
        rw [bs_ofL, bs_ofL, val_dec, hPX] at this
        exact this : ∀ w : World, Calls Tryd.prog 76 #[.string (ofL (dec Y)), .string (ofL p)] w fun e w' => e = .returned (.string (ofL (dec (Y - X)))) ∧ Below w.heap.size w w')
      have hd3 := size_ofL (dec (Y - X))
      have hT := Lib.hid (fun w => by
        have := l02Trim_any (ofL (dec (Y - X))) w (by omega)
        rw [bs_ofL, trimZ_dec _ (dec_all _), val_dec] at this
        exact this : ∀ w : World, Calls Tryd.prog 77 #[.string (ofL (dec (Y - X)))] w fun e w' => e = .returned (.string (ofL (dec (Y - X)))) ∧ w' = w)
      have hE : sgnR n X m Y = if Y - X = 0 then numV false [] 0 0 else numV m [49] 0 0 := by unfold sgnR sumN; rw [if_neg hnm, if_neg hle]
      rw [hE]
      clear hd3
      clear h1 h2 a4 b4 a5 b5 hX hY hz hAL ladd lx ly hs1 hs2 hs3 hs4 hPX hQY hPa hQa hPl hQl hp hk lsub hq hle hnm
      by_cases hv0 : Y - X = 0
      · have hz0b : ((ofL (dec (Y - X))).toList == [48]) = true := by rw [toList_bs, bs_ofL, hv0, dec_zero]; rfl
        rw [if_pos hv0]
        clear hv0
        go_enter Tryd.func39, Tryd.ntmps39
        go_wp2_with fail
        refine (HAL.out _).mono ?_
        rintro e w1 ⟨rfl, hb1⟩
        obtain ⟨w0, hw0, hz0, hb0, hc0, hr0⟩ := three_laid w n s x m t y
        rw [hw0] at hb1
        obtain ⟨hv1, hz1', hc1, hr1⟩ := three_kept hb1 hz0 hb0 hc0 hr0
        clear hw0 hz0 hb0 hc0 hr0 hb1
        go_wp2_with fail
        refine (hC.out _).mono ?_
        rintro e w6 ⟨rfl, hw6⟩
        obtain rfl : w1 = w6 := hw6.symm
        clear hw6
        go_wp2_with fail
        refine (hR.out _).mono ?_
        rintro e w6 ⟨rfl, hw6⟩
        obtain rfl : w1 = w6 := hw6.symm
        clear hw6
        go_wp2_with fail
        refine (hA.out _).mono ?_
        rintro e w2 ⟨rfl, hb2⟩
        obtain ⟨hv2, hz2', hc2, hr2⟩ := three_kept hb2 hz1' hv1 hc1 hr1
        clear hz1' hv1 hc1 hr1 hb2
        go_wp2_with fail
        refine (hT.out _).mono ?_
        rintro e w7 ⟨rfl, hw7⟩
        obtain rfl : w2 = w7 := hw7.symm
        clear hw7
        go_wp2
        refine bodyPost_ret (v := .tuple #[.agg #[.bool false, .string ⟨#[]⟩, .int .i64 0], .int .i64 0]) (by simp [results, Tryd.results39, go_sem, *]) rfl ?_
        exact ⟨rfl, set_three (by assumption) (by omega) _ _ _⟩
      · have hz0b : ((ofL (dec (Y - X))).toList == [48]) = false := by
          rw [toList_bs, bs_ofL]
          refine beq_eq_false_iff_ne.2 fun e => hv0 ?_
          rw [← val_dec (Y - X), e]; rfl
        rw [if_neg hv0]
        clear hv0
        go_enter Tryd.func39, Tryd.ntmps39
        go_wp2_with fail
        refine (HAL.out _).mono ?_
        rintro e w1 ⟨rfl, hb1⟩
        obtain ⟨w0, hw0, hz0, hb0, hc0, hr0⟩ := three_laid w n s x m t y
        rw [hw0] at hb1
        obtain ⟨hv1, hz1', hc1, hr1⟩ := three_kept hb1 hz0 hb0 hc0 hr0
        clear hw0 hz0 hb0 hc0 hr0 hb1
        go_wp2_with fail
        refine (hC.out _).mono ?_
        rintro e w6 ⟨rfl, hw6⟩
        obtain rfl : w1 = w6 := hw6.symm
        clear hw6
        go_wp2_with fail
        refine (hR.out _).mono ?_
        rintro e w6 ⟨rfl, hw6⟩
        obtain rfl : w1 = w6 := hw6.symm
        clear hw6
        go_wp2_with fail
        refine (hA.out _).mono ?_
        rintro e w2 ⟨rfl, hb2⟩
        obtain ⟨hv2, hz2', hc2, hr2⟩ := three_kept hb2 hz1' hv1 hc1 hr1
        clear hz1' hv1 hc1 hr1 hb2
        go_wp2_with fail
        refine (hT.out _).mono ?_
        rintro e w7 ⟨rfl, hw7⟩
        obtain rfl : w2 = w7 := hw7.symm
        clear hw7
        go_wp2
        refine bodyPost_ret (v := .tuple #[.agg #[.bool m, .string ⟨#[49]⟩, .int .i64 0], .int .i64 0]) (by simp [results, Tryd.results39, go_sem, *]) rfl ?_
        exact ⟨rfl, set_three (by assumption) (by omega) _ _ _⟩
end Go.Proofs.YtjjpdoabagnmoaaDoor
