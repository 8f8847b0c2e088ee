/-
  The contract of impl.decAdd. Condition: numbers in form.
-/
import Derived.Test.YtjjpdoabagnmoaaDoorThree
import Derived.Test.YtjjpdoabagnmoaaDoorNatAdd
import Derived.Test.YtjjpdoabagnmoaaDoorNatSub
namespace Go.Proofs.YtjjpdoabagnmoaaDoor
open Go.RowKit
set_option linter.unusedVariables false
set_option linter.unusedSimpArgs false

set_option maxRecDepth 10000 in
set_option maxHeartbeats 2000000 in
theorem decAdd_any (n : Bool) (s : ByteArray) (x : Int) (m : Bool) (t : ByteArray) (y : Int) (w : World) (h1 : decOk n (bs s) x = true) (h2 : decOk m (bs t) y = true) :
    Calls Tryd.prog 37 #[.agg #[.bool n, .string s, .int .i64 x], .agg #[.bool m, .string t, .int .i64 y]] w fun e w' => e = .returned (sumV n (lvl s x y) m (lvl t y x) (min x y)) ∧ Below w.heap.size w w' := by
  obtain ⟨a1, a2, a3, a4, a5, a6, a7, -, -⟩ := dec_facts h1
  obtain ⟨b1, b2, b3, b4, b5, b6, b7, -, -⟩ := dec_facts h2
  have lx := lvl_len h1 b2
  have ly := lvl_len h2 a2
  have hAL := fun w => aligned_any n s x m t y w h1 h2
  obtain ⟨X, hX⟩ : ∃ X, lvl s x y = X := ⟨_, rfl⟩
  obtain ⟨Y, hY⟩ : ∃ Y, lvl t y x = Y := ⟨_, rfl⟩
  obtain ⟨z, hz⟩ : ∃ z, min x y = z := ⟨_, rfl⟩
  have hz1 : -119 ≤ z := by omega
  have hz2 : z ≤ 99 := by omega
  rw [hX] at lx hAL ⊢
  rw [hY] at ly hAL ⊢
  rw [hz] at hAL ⊢
  have HAL := Lib.hid hAL
  have ladd := dec_add_len X Y
  have hs1 := size_ofL (dec X)
  have hs2 := size_ofL (dec Y)
  have hn0 : ¬ (w.heap.size = w.heap.size + 1 + 1) := by omega
  have hn1 : ¬ (w.heap.size + 1 + 1 = w.heap.size) := by omega
  by_cases hnm : n = m
  · subst hnm
    obtain ⟨n', u, y', c, hV, -, -, -⟩ := formV_lit n (X + Y) z
    have hA := Lib.hid (fun w => by
      have := natAdd_any (ofL (dec X)) (ofL (dec Y)) w (by rw [bs_ofL]; exact dec_all X) (by rw [bs_ofL]; exact dec_all Y) (by omega) (by omega)
      rw [bs_ofL, bs_ofL, val_dec, val_dec] at this
      exact this : ∀ w : World, Calls Tryd.prog 70 #[.string (ofL (dec X)), .string (ofL (dec Y))] w fun e w' => e = .returned (.string (ofL (dec (X + Y)))) ∧ Below w.heap.size w w')
    have hN := Lib.hid (fun w => by
      have := normal_dec n (X + Y) z w (by omega) (by omega) (by omega)
      rw [hV] at this
      exact this : ∀ w : World, Calls Tryd.prog 54 #[.bool n, .string (ofL (dec (X + Y))), .int .i64 z] w fun e w' => e = .returned (.tuple #[.agg #[.bool n', .string u, .int .i64 y'], .int .i64 c]) ∧ Below w.heap.size w w')
    have hE : sumV n X n Y z = .tuple #[.agg #[.bool n', .string u, .int .i64 y'], .int .i64 c] := by unfold sumV; rw [if_pos rfl, hV]
    rw [hE]
    clear h1 h2 a4 b4 a5 b5 hX hY hz hAL ladd lx ly hs1 hs2 hV
    go_enter Tryd.func37, Tryd.ntmps37
    go_wp2_with fail
    refine (HAL.out _).mono ?_
    rintro e w1 ⟨rfl, hb1⟩
    obtain ⟨w0, hw0, hz0, hb0, hc0, hr0⟩ := three_laid w n s x n t y
    rw [hw0] at hb1
    obtain ⟨hv1, hz1', hc1, hr1⟩ := three_kept hb1 hz0 hb0 hc0 hr0
    clear hw0 hz0 hb0 hc0 hr0 hb1
    go_wp2_with fail
    go_region_held3 (fun w' => w'.cell? ⟨w.heap.size, 0, none⟩ = some (.bool n) ∧ w'.cell? ⟨w.heap.size, 1, none⟩ = some (.string s) ∧ w'.cell? ⟨w.heap.size, 2, none⟩ = some (.int .i64 x) ∧ w'.cell? ⟨w.heap.size + 1, 0, none⟩ = some (.bool n) ∧ w'.cell? ⟨w.heap.size + 1, 1, none⟩ = some (.string t) ∧ w'.cell? ⟨w.heap.size + 1, 2, none⟩ = some (.int .i64 y)) (first | assumption | go_keep)
      (first
        | (go_at_call 70; refine (hA.out _).mono ?_; rintro e w1 ⟨rfl, hb1⟩; obtain ⟨hv1, hz1', hc1, hr1⟩ := three_kept hb1 (by assumption) (v := w) (by first | assumption | exact Below.drew (by assumption)) (by assumption) (by assumption); clear hb1)
        | (go_at_call 54; refine (hN.out _).mono ?_; rintro e w1 ⟨rfl, hb1⟩; obtain ⟨hv1, hz1', hc1, hr1⟩ := three_kept hb1 (by assumption) (v := w) (by first | assumption | exact Below.drew (by assumption)) (by assumption) (by assumption); clear hb1))
    clear hA hN
    go_wp2
    refine bodyPost_ret (v := .tuple #[.agg #[.bool n', .string u, .int .i64 y'], .int .i64 c]) (by simp [results, Tryd.results37, go_sem, *]) rfl ?_
    exact ⟨rfl, set_three (by assumption) (by omega) _ _ _⟩
  · have hnb : (n == m) = false := by simpa using hnm
    by_cases hle : Y ≤ X
    · have lsub := dec_mono (Nat.sub_le X Y)
      obtain ⟨q, hq⟩ : ∃ q, cmpN X Y = q := ⟨_, rfl⟩
      have hq0 : 0 ≤ q := by rcases cmpN_cases X Y with ⟨_, e⟩ | ⟨_, e⟩ | ⟨_, e⟩ <;> omega
      obtain ⟨n', u, y', c, hV, -, -, -⟩ := formV_lit n (X - Y) z
      have hA := Lib.hid (fun w => by
        have := natSub_any (ofL (dec X)) (ofL (dec Y)) w (by rw [bs_ofL]; exact dec_all X) (by rw [bs_ofL]; exact dec_all Y) (by omega) (by omega) (by rw [bs_ofL, bs_ofL, val_dec, val_dec]; omega)
        rw [bs_ofL, bs_ofL, val_dec, val_dec] at this
        exact this : ∀ w : World, Calls Tryd.prog 72 #[.string (ofL (dec X)), .string (ofL (dec Y))] w fun e w' => e = .returned (.string (ofL (dec (X - Y)))) ∧ Below w.heap.size w w')
      have hN := Lib.hid (fun w => by
        have := normal_dec n (X - Y) z w (by omega) (by omega) (by omega)
        rw [hV] at this
        exact this : ∀ w : World, Calls Tryd.prog 54 #[.bool n, .string (ofL (dec (X - Y))), .int .i64 z] w fun e w' => e = .returned (.tuple #[.agg #[.bool n', .string u, .int .i64 y'], .int .i64 c]) ∧ Below w.heap.size w w')
      have hE : sumV n X m Y z = .tuple #[.agg #[.bool n', .string u, .int .i64 y'], .int .i64 c] := by unfold sumV; rw [if_neg hnm, if_pos hle, hV]
      rw [hE]
      have hC := Lib.hid (fun w => by
        have := natCmp_any (ofL (dec X)) (ofL (dec Y)) w (by rw [bs_ofL]; exact dec_canon X) (by rw [bs_ofL]; exact dec_canon Y) (by omega) (by omega)
        rw [bs_ofL, bs_ofL, val_dec, val_dec, hq] at this
        exact this : ∀ w : World, Calls Tryd.prog 71 #[.string (ofL (dec X)), .string (ofL (dec Y))] w fun e w' => e = .returned (.int .i64 q) ∧ Below w.heap.size w w')
      clear h1 h2 a4 b4 a5 b5 hX hY hz hAL ladd lx ly hs1 hs2 hV
      go_enter Tryd.func37, Tryd.ntmps37
      go_wp2_with fail
      refine (HAL.out _).mono ?_
      rintro e w1 ⟨rfl, hb1⟩
      obtain ⟨w0, hw0, hz0, hb0, hc0, hr0⟩ := three_laid w n s x m t y
      rw [hw0] at hb1
      obtain ⟨hv1, hz1', hc1, hr1⟩ := three_kept hb1 hz0 hb0 hc0 hr0
      clear hw0 hz0 hb0 hc0 hr0 hb1
      go_wp2_with fail
      refine (hC.out _).mono ?_
      rintro e w2 ⟨rfl, hb2⟩
      obtain ⟨hv2, hz2', hc2, hr2⟩ := three_kept hb2 hz1' hv1 hc1 hr1
      clear hz1' hv1 hc1 hr1 hb2
      go_wp2_with fail
      go_region_held3 (fun w' => w'.cell? ⟨w.heap.size, 0, none⟩ = some (.bool n) ∧ w'.cell? ⟨w.heap.size, 1, none⟩ = some (.string s) ∧ w'.cell? ⟨w.heap.size, 2, none⟩ = some (.int .i64 x) ∧ w'.cell? ⟨w.heap.size + 1, 0, none⟩ = some (.bool m) ∧ w'.cell? ⟨w.heap.size + 1, 1, none⟩ = some (.string t) ∧ w'.cell? ⟨w.heap.size + 1, 2, none⟩ = some (.int .i64 y)) (first | assumption | go_keep)
        (first
          | (go_at_call 72; refine (hA.out _).mono ?_; rintro e w1 ⟨rfl, hb1⟩; obtain ⟨hv1, hz1', hc1, hr1⟩ := three_kept hb1 (by assumption) (v := w) (by first | assumption | exact Below.drew (by assumption)) (by assumption) (by assumption); clear hb1)
          | (go_at_call 54; refine (hN.out _).mono ?_; rintro e w1 ⟨rfl, hb1⟩; obtain ⟨hv1, hz1', hc1, hr1⟩ := three_kept hb1 (by assumption) (v := w) (by first | assumption | exact Below.drew (by assumption)) (by assumption) (by assumption); clear hb1))
      clear hA hN
      go_wp2
      refine bodyPost_ret (v := .tuple #[.agg #[.bool n', .string u, .int .i64 y'], .int .i64 c]) (by simp [results, Tryd.results37, go_sem, *]) rfl ?_
      exact ⟨rfl, set_three (by assumption) (by omega) _ _ _⟩
    · have lsub := dec_mono (Nat.sub_le Y X)
      obtain ⟨q, hq⟩ : ∃ q, cmpN X Y = q := ⟨_, rfl⟩
      have hq0 : q < 0 := by rcases cmpN_cases X Y with ⟨_, e⟩ | ⟨_, e⟩ | ⟨_, e⟩ <;> omega
      obtain ⟨n', u, y', c, hV, -, -, -⟩ := formV_lit m (Y - X) z
      have hA := Lib.hid (fun w => by
        have := natSub_any (ofL (dec Y)) (ofL (dec X)) w (by rw [bs_ofL]; exact dec_all Y) (by rw [bs_ofL]; exact dec_all X) (by omega) (by omega) (by rw [bs_ofL, bs_ofL, val_dec, val_dec]; omega)
        rw [bs_ofL, bs_ofL, val_dec, val_dec] at this
        exact this : ∀ w : World, Calls Tryd.prog 72 #[.string (ofL (dec Y)), .string (ofL (dec X))] w fun e w' => e = .returned (.string (ofL (dec (Y - X)))) ∧ Below w.heap.size w w')
      have hN := Lib.hid (fun w => by
        have := normal_dec m (Y - X) z w (by omega) (by omega) (by omega)
        rw [hV] at this
        exact this : ∀ w : World, Calls Tryd.prog 54 #[.bool m, .string (ofL (dec (Y - X))), .int .i64 z] w fun e w' => e = .returned (.tuple #[.agg #[.bool n', .string u, .int .i64 y'], .int .i64 c]) ∧ Below w.heap.size w w')
      have hE : sumV n X m Y z = .tuple #[.agg #[.bool n', .string u, .int .i64 y'], .int .i64 c] := by unfold sumV; rw [if_neg hnm, if_neg hle, hV]
      rw [hE]
      have hC := Lib.hid (fun w => by
        have := natCmp_any (ofL (dec X)) (ofL (dec Y)) w (by rw [bs_ofL]; exact dec_canon X) (by rw [bs_ofL]; exact dec_canon Y) (by omega) (by omega)
        rw [bs_ofL, bs_ofL, val_dec, val_dec, hq] at this
        exact this : ∀ w : World, Calls Tryd.prog 71 #[.string (ofL (dec X)), .string (ofL (dec Y))] w fun e w' => e = .returned (.int .i64 q) ∧ Below w.heap.size w w')
      clear h1 h2 a4 b4 a5 b5 hX hY hz hAL ladd lx ly hs1 hs2 hV
      go_enter Tryd.func37, Tryd.ntmps37
      go_wp2_with fail
      refine (HAL.out _).mono ?_
      rintro e w1 ⟨rfl, hb1⟩
      obtain ⟨w0, hw0, hz0, hb0, hc0, hr0⟩ := three_laid w n s x m t y
      rw [hw0] at hb1
      obtain ⟨hv1, hz1', hc1, hr1⟩ := three_kept hb1 hz0 hb0 hc0 hr0
      clear hw0 hz0 hb0 hc0 hr0 hb1
      go_wp2_with fail
      refine (hC.out _).mono ?_
      rintro e w2 ⟨rfl, hb2⟩
      obtain ⟨hv2, hz2', hc2, hr2⟩ := three_kept hb2 hz1' hv1 hc1 hr1
      clear hz1' hv1 hc1 hr1 hb2
      go_wp2_with fail
      go_region_held3 (fun w' => w'.cell? ⟨w.heap.size, 0, none⟩ = some (.bool n) ∧ w'.cell? ⟨w.heap.size, 1, none⟩ = some (.string s) ∧ w'.cell? ⟨w.heap.size, 2, none⟩ = some (.int .i64 x) ∧ w'.cell? ⟨w.heap.size + 1, 0, none⟩ = some (.bool m) ∧ w'.cell? ⟨w.heap.size + 1, 1, none⟩ = some (.string t) ∧ w'.cell? ⟨w.heap.size + 1, 2, none⟩ = some (.int .i64 y)) (first | assumption | go_keep)
        (first
          | (go_at_call 72; refine (hA.out _).mono ?_; rintro e w1 ⟨rfl, hb1⟩; obtain ⟨hv1, hz1', hc1, hr1⟩ := three_kept hb1 (by assumption) (v := w) (by first | assumption | exact Below.drew (by assumption)) (by assumption) (by assumption); clear hb1)
          | (go_at_call 54; refine (hN.out _).mono ?_; rintro e w1 ⟨rfl, hb1⟩; obtain ⟨hv1, hz1', hc1, hr1⟩ := three_kept hb1 (by assumption) (v := w) (by first | assumption | exact Below.drew (by assumption)) (by assumption) (by assumption); clear hb1))
      clear hA hN
      go_wp2
      refine bodyPost_ret (v := .tuple #[.agg #[.bool n', .string u, .int .i64 y'], .int .i64 c]) (by simp [results, Tryd.results37, go_sem, *]) rfl ?_
      exact ⟨rfl, set_three (by assumption) (by omega) _ _ _⟩
end Go.Proofs.YtjjpdoabagnmoaaDoor
