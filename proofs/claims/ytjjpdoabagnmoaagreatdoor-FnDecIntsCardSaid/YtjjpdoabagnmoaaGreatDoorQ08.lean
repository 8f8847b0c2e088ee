/-
  Texts of this claim in one file, in build order: DecDiv, DecMod, DecTwo, Pair, DecInt, IntDiv. Each says ahead what it proves and under which conditions.
-/
import Derived.Test.YtjjpdoabagnmoaaGreatDoorQ07
import Derived.Test.YtjjpdoabagnmoaaGreatDoorQ03
import Derived.Deep.CutRange
/-
  The contracts of both sides' quotients. Condition: numbers in form.
-/
namespace Go.Proofs.YtjjpdoabagnmoaaGreatDoor
open Go.RowKit
set_option linter.unusedVariables false
set_option linter.unusedSimpArgs false

/-- a quotient -/
def divV (n : Bool) (s : ByteArray) (x : Int) (m : Bool) (t : ByteArray) (y : Int) : Value :=
  if t.size = 0 then numV false [] 0 2
  else if val (bs s) * 10 ^ 42 % val (bs t) = 0 then formV (n != m) (val (bs s) * 10 ^ 42 / val (bs t)) (x - y - 42) else formV (n != m) (10 * (val (bs s) * 10 ^ 42 / val (bs t)) + 1) (x - y - 43)
theorem divV_lit (n : Bool) (s : ByteArray) (x : Int) (m : Bool) (t : ByteArray) (y : Int) : ∃ (n' : Bool) (u : ByteArray) (y' c : Int), divV n s x m t y = .tuple #[.agg #[.bool n', .string u, .int .i64 y'], .int .i64 c] := by
  unfold divV
  split
  · exact ⟨_, _, _, _, rfl⟩
  · split
    · obtain ⟨n', u, y', c, hV, -⟩ := formV_lit (n != m) (val (bs s) * 10 ^ 42 / val (bs t)) (x - y - 42)
      exact ⟨n', u, y', c, hV⟩
    · obtain ⟨n', u, y', c, hV, -⟩ := formV_lit (n != m) (10 * (val (bs s) * 10 ^ 42 / val (bs t)) + 1) (x - y - 43)
      exact ⟨n', u, y', c, hV⟩

theorem decDiv_zero (n : Bool) (s : ByteArray) (x : Int) (m : Bool) (t : ByteArray) (y : Int) (w : World) (h1 : decOk n (bs s) x = true) (h2 : decOk m (bs t) y = true) (h0 : t.size = 0) :
    Calls Tryz.prog 53 #[.agg #[.bool n, .string s, .int .i64 x], .agg #[.bool m, .string t, .int .i64 y]] w fun e w' => e = .returned (divV n s x m t y) ∧ Below w.heap.size w w' := by
  have hemp := isEmpty_yes h0
  unfold divV
  rw [if_pos h0]
  have hn0 : ¬ (w.heap.size = w.heap.size + 1 + 1) := by omega
  have hn1 : ¬ (w.heap.size + 1 + 1 = w.heap.size) := by omega
  go_enter Tryz.func53, Tryz.ntmps53
  go_wp2_with fail
  refine bodyPost_ret (v := .tuple #[.agg #[.bool false, .string ⟨#[]⟩, .int .i64 0], .int .i64 2]) (by simp [results, Tryz.results53, go_sem, *]) rfl ?_
  refine ⟨rfl, ?_⟩
  go_light
  (repeat (first | exact Below.refl _ _ | assumption | refine Below.drew ?_ | refine Go.below_drewN ?_ _ | (refine Below.alloc ?_ (by first | exact Nat.le_refl _ | (simp; done) | (simp; omega) | (simp at *; omega)) _) | (refine Below.setCell ?_ (by first | exact Nat.le_refl _ | (simp; done) | (simp; omega)) _) | (refine Below.trans ?_ (Below.mono (by assumption) (by first | exact Nat.le_refl _ | (simp; done) | (simp; omega) | (simp at *; omega))))))

set_option maxRecDepth 10000 in
set_option maxHeartbeats 2000000 in
theorem decDiv_any (n : Bool) (s : ByteArray) (x : Int) (m : Bool) (t : ByteArray) (y : Int) (w : World) (h1 : decOk n (bs s) x = true) (h2 : decOk m (bs t) y = true) (h0 : 0 < t.size) :
    Calls Tryz.prog 53 #[.agg #[.bool n, .string s, .int .i64 x], .agg #[.bool m, .string t, .int .i64 y]] w fun e w' => e = .returned (divV n s x m t y) ∧ Below w.heap.size w w' := by
  obtain ⟨a1, a2, a3, a4, a5, a6, a7, -, -⟩ := dec_facts h1
  obtain ⟨b1, b2, b3, b4, b5, b6, b7, -, -⟩ := dec_facts h2
  have hB0 := (dec_facts h2).2.2.2.2.2.2.2.2 h0
  have hB20 := val_20 h2
  have hA20 := val_20 h1
  have hdt := dg_some h0
  have hemp := isEmpty_no h0
  rw [hdt] at b4 b5 b6 b7
  obtain ⟨A, hA⟩ : ∃ A, val (bs s) = A := ⟨_, rfl⟩
  obtain ⟨B, hB⟩ : ∃ B, val (bs t) = B := ⟨_, rfl⟩
  rw [hA] at a5 hA20
  rw [hB] at b5 hB0 hB20
  obtain ⟨N, hN⟩ : ∃ N, A * 10 ^ 45 = N := ⟨_, rfl⟩
  obtain ⟨Q, hQ⟩ : ∃ Q, N / B = Q := ⟨_, rfl⟩
  obtain ⟨R, hR⟩ : ∃ R, N % B = R := ⟨_, rfl⟩
  have hNl : (dec N).length ≤ 65 := by
    rw [← hN]
    refine dec_len_le 65 _ (by decide) ?_
    rw [show (65 : Nat) = 20 + 45 from rfl, Nat.pow_add]
    exact Nat.mul_lt_mul_of_pos_right hA20 (Nat.pow_pos (by decide))
  have hQl : (dec Q).length ≤ 65 := Nat.le_trans (dec_mono (by rw [← hQ]; exact Nat.div_le_self _ _)) hNl
  have hsN := size_ofL (dec N)
  have hsQ := size_ofL (dec Q)
  have hsZ := size_ofL (zs 42)
  rw [zs_len] at hsZ
  have hDV : divV n s x m t y = if R = 0 then formV (n != m) Q (x - y - 45) else formV (n != m) (10 * Q + 1) (x - y - 46) := by
    unfold divV
    rw [if_neg (by omega), hA, hB]
    have e := div_same (n != m) A B (x - y) hB0 hB20
    rw [hN, hQ, hR] at e
    exact e.symm
  have wx : IntKind.i64.wrap (x - y) = x - y := IntWalk.i64_in _ (by omega)
  have wy : IntKind.i64.wrap (x - y - 45) = x - y - 45 := IntWalk.i64_in _ (by omega)
  have wz : IntKind.i64.wrap (x - y - 46) = x - y - 46 := IntWalk.i64_in _ (by omega)
  have n1 : ¬ (9223372036854775807 < (dec Q).length + 1) := by omega
  have n2 : ¬ (9223372036854775807 < (dg s).size + 42) := by omega
  rw [hDV]
  have hn0 : ¬ (w.heap.size = w.heap.size + 1 + 1) := by omega
  have hn1 : ¬ (w.heap.size + 1 + 1 = w.heap.size) := by omega
  by_cases hR0 : R = 0
  · rw [if_pos hR0]
    have hzb : ((ofL (dec R)).toList == [48]) = true := by
      rw [toList_bs, bs_ofL]
      rw [hR0, dec_zero]; rfl
    obtain ⟨n', u, y', c, hV, -, -, -⟩ := formV_lit (n != m) Q (x - y - 45)
    have hS := Lib.hid (fun w => by
      have := natShift_any (dg s) 45 w a4 (by omega) (by omega)
      rw [a5, hN] at this
      exact this : ∀ w : World, Calls Tryz.prog 50 #[.string (dg s), .int .i64 45] w fun e w' => e = .returned (.string (ofL (dec N))) ∧ Below w.heap.size w w')
    have hD := Lib.hid (fun w => by
      have := natDiv_any (ofL (dec N)) t w (by rw [bs_ofL]; exact dec_all N) b4 (by omega) (by omega) (by rw [hB]; exact hB0)
      rw [bs_ofL, val_dec, hB, hQ, hR] at this
      exact this : ∀ w : World, Calls Tryz.prog 91 #[.string (ofL (dec N)), .string t] w fun e w' => e = .returned (.tuple #[.string (ofL (dec Q)), .string (ofL (dec R))]) ∧ Below w.heap.size w w')
    have hF := Lib.hid (fun w => by
      have := normal_dec (n != m) Q (x - y - 45) w (by omega) (by omega) (by omega)
      rw [hV] at this
      exact this : ∀ w : World, Calls Tryz.prog 47 #[.bool (n != m), .string (ofL (dec Q)), .int .i64 (x - y - 45)] w fun e w' => e = .returned (.tuple #[.agg #[.bool n', .string u, .int .i64 y'], .int .i64 c]) ∧ Below w.heap.size w w')
    rw [hV]
    clear a4 a5 b4 b5 hB0 hB20 hA20 hdt hA hB hN hQ hR hNl hQl hsN hV hDV hR0 h0
    clear h1 h2
    go_enter Tryz.func53, Tryz.ntmps53
    go_wp2_with fail
    obtain ⟨w0, hw0, hz0, hb0, hc0, hr0⟩ := three_laid w n s x m t y
    rw [hw0]
    clear hw0
    go_region_held3 (fun w' => w'.cell? ⟨w.heap.size, 0, none⟩ = some (.bool n) ∧ w'.cell? ⟨w.heap.size, 1, none⟩ = some (.string s) ∧ w'.cell? ⟨w.heap.size, 2, none⟩ = some (.int .i64 x) ∧ w'.cell? ⟨w.heap.size + 1, 0, none⟩ = some (.bool m) ∧ w'.cell? ⟨w.heap.size + 1, 1, none⟩ = some (.string t) ∧ w'.cell? ⟨w.heap.size + 1, 2, none⟩ = some (.int .i64 y)) (first | assumption | go_keep)
      (first
        | (go_at_call 85; refine (digits_any _ _ _ _).mono ?_; rintro e w1 ⟨rfl, hb1⟩; obtain ⟨hv1, hz1, hc1, hr1⟩ := three_kept hb1 (by assumption) (v := w) (by first | assumption | exact Below.drew (by assumption)) (by assumption) (by assumption); clear hb1)
        | (go_at_call 50; refine (hS.out _).mono ?_; rintro e w1 ⟨rfl, hb1⟩; obtain ⟨hv1, hz1, hc1, hr1⟩ := three_kept hb1 (by assumption) (v := w) (by first | assumption | exact Below.drew (by assumption)) (by assumption) (by assumption); clear hb1)
        | (go_at_call 91; refine (hD.out _).mono ?_; rintro e w1 ⟨rfl, hb1⟩; obtain ⟨hv1, hz1, hc1, hr1⟩ := three_kept hb1 (by assumption) (v := w) (by first | assumption | exact Below.drew (by assumption)) (by assumption) (by assumption); clear hb1))
    go_wp2_with fail
    refine (hF.out _).mono ?_
    rintro e w9 ⟨rfl, hb9⟩
    obtain ⟨hv9, hz9, hc9, hr9⟩ := three_kept hb9 (by assumption) (v := w) (by assumption) (by assumption) (by assumption)
    clear hb9
    clear hS hD hF
    go_wp2
    refine bodyPost_ret (v := .tuple #[.agg #[.bool n', .string u, .int .i64 y'], .int .i64 c]) (by simp [results, Tryz.results53, go_sem, *]) rfl ?_
    exact ⟨rfl, set_three (by assumption) (by omega) _ _ _⟩
  · rw [if_neg hR0]
    have hzb : ((ofL (dec R)).toList == [48]) = false := by
      rw [toList_bs, bs_ofL]
      refine beq_eq_false_iff_ne.2 fun e => hR0 ?_
      rw [← val_dec R, e]; rfl
    obtain ⟨n', u, y', c, hV, -, -, -⟩ := formV_lit (n != m) (10 * Q + 1) (x - y - 46)
    have hS := Lib.hid (fun w => by
      have := natShift_any (dg s) 45 w a4 (by omega) (by omega)
      rw [a5, hN] at this
      exact this : ∀ w : World, Calls Tryz.prog 50 #[.string (dg s), .int .i64 45] w fun e w' => e = .returned (.string (ofL (dec N))) ∧ Below w.heap.size w w')
    have hD := Lib.hid (fun w => by
      have := natDiv_any (ofL (dec N)) t w (by rw [bs_ofL]; exact dec_all N) b4 (by omega) (by omega) (by rw [hB]; exact hB0)
      rw [bs_ofL, val_dec, hB, hQ, hR] at this
      exact this : ∀ w : World, Calls Tryz.prog 91 #[.string (ofL (dec N)), .string t] w fun e w' => e = .returned (.tuple #[.string (ofL (dec Q)), .string (ofL (dec R))]) ∧ Below w.heap.size w w')
    have hF := Lib.hid (fun w => by
      have e1 : bs (ofL (dec Q) ++ (⟨#[49]⟩ : ByteArray)) = dec Q ++ [49] := by rw [bs_app, bs_ofL]
      have e2 : (ofL (dec Q) ++ (⟨#[49]⟩ : ByteArray)).size = (dec Q).length + 1 := by rw [← bs_length, e1, List.length_append]; rfl
      have e3 : val (dec Q ++ [49]) = 10 * Q + 1 := by rw [val_snoc, val_dec]; rfl
      have := normal_any (n != m) (ofL (dec Q) ++ (⟨#[49]⟩ : ByteArray)) (x - y - 46) w (by rw [e1, List.all_append, dec_all]; rfl) (by omega) (by omega) (by omega)
      rw [e1, e3, hV] at this
      exact this : ∀ w : World, Calls Tryz.prog 47 #[.bool (n != m), .string (ofL (dec Q) ++ (⟨#[49]⟩ : ByteArray)), .int .i64 (x - y - 46)] w fun e w' => e = .returned (.tuple #[.agg #[.bool n', .string u, .int .i64 y'], .int .i64 c]) ∧ Below w.heap.size w w')
    rw [hV]
    clear a4 a5 b4 b5 hB0 hB20 hA20 hdt hA hB hN hQ hR hNl hQl hsN hV hDV hR0 h0
    clear h1 h2
    go_enter Tryz.func53, Tryz.ntmps53
    go_wp2_with fail
    obtain ⟨w0, hw0, hz0, hb0, hc0, hr0⟩ := three_laid w n s x m t y
    rw [hw0]
    clear hw0
    go_region_held3 (fun w' => w'.cell? ⟨w.heap.size, 0, none⟩ = some (.bool n) ∧ w'.cell? ⟨w.heap.size, 1, none⟩ = some (.string s) ∧ w'.cell? ⟨w.heap.size, 2, none⟩ = some (.int .i64 x) ∧ w'.cell? ⟨w.heap.size + 1, 0, none⟩ = some (.bool m) ∧ w'.cell? ⟨w.heap.size + 1, 1, none⟩ = some (.string t) ∧ w'.cell? ⟨w.heap.size + 1, 2, none⟩ = some (.int .i64 y)) (first | assumption | go_keep)
      (first
        | (go_at_call 85; refine (digits_any _ _ _ _).mono ?_; rintro e w1 ⟨rfl, hb1⟩; obtain ⟨hv1, hz1, hc1, hr1⟩ := three_kept hb1 (by assumption) (v := w) (by first | assumption | exact Below.drew (by assumption)) (by assumption) (by assumption); clear hb1)
        | (go_at_call 50; refine (hS.out _).mono ?_; rintro e w1 ⟨rfl, hb1⟩; obtain ⟨hv1, hz1, hc1, hr1⟩ := three_kept hb1 (by assumption) (v := w) (by first | assumption | exact Below.drew (by assumption)) (by assumption) (by assumption); clear hb1)
        | (go_at_call 91; refine (hD.out _).mono ?_; rintro e w1 ⟨rfl, hb1⟩; obtain ⟨hv1, hz1, hc1, hr1⟩ := three_kept hb1 (by assumption) (v := w) (by first | assumption | exact Below.drew (by assumption)) (by assumption) (by assumption); clear hb1))
    go_wp2_with fail
    refine (hF.out _).mono ?_
    rintro e w9 ⟨rfl, hb9⟩
    obtain ⟨hv9, hz9, hc9, hr9⟩ := three_kept hb9 (by assumption) (v := w) (by assumption) (by assumption) (by assumption)
    clear hb9
    clear hS hD hF
    go_wp2
    refine bodyPost_ret (v := .tuple #[.agg #[.bool n', .string u, .int .i64 y'], .int .i64 c]) (by simp [results, Tryz.results53, go_sem, *]) rfl ?_
    exact ⟨rfl, set_three (by assumption) (by omega) _ _ _⟩


end Go.Proofs.YtjjpdoabagnmoaaGreatDoor
/-
  The contracts of what is left of a division, both sides' ones. Condition: numbers in form.
-/
namespace Go.Proofs.YtjjpdoabagnmoaaGreatDoor
open Go.RowKit
set_option linter.unusedVariables false
set_option linter.unusedSimpArgs false

/-- what is left of a division -/
def modV (n : Bool) (s : ByteArray) (x : Int) (m : Bool) (t : ByteArray) (y : Int) : Value :=
  if t.size = 0 then numV false [] 0 2 else formV n (lvl s x y % lvl t y x) (min x y)
theorem modV_lit (n : Bool) (s : ByteArray) (x : Int) (m : Bool) (t : ByteArray) (y : Int) : ∃ (n' : Bool) (u : ByteArray) (y' c : Int), modV n s x m t y = .tuple #[.agg #[.bool n', .string u, .int .i64 y'], .int .i64 c] := by
  unfold modV
  split
  · exact ⟨_, _, _, _, rfl⟩
  · obtain ⟨n', u, y', c, hV, -⟩ := formV_lit n (lvl s x y % lvl t y x) (min x y)
    exact ⟨n', u, y', c, hV⟩

theorem decMod_zero (n : Bool) (s : ByteArray) (x : Int) (m : Bool) (t : ByteArray) (y : Int) (w : World) (h1 : decOk n (bs s) x = true) (h2 : decOk m (bs t) y = true) (h0 : t.size = 0) :
    Calls Tryz.prog 54 #[.agg #[.bool n, .string s, .int .i64 x], .agg #[.bool m, .string t, .int .i64 y]] w fun e w' => e = .returned (modV n s x m t y) ∧ Below w.heap.size w w' := by
  have hemp := isEmpty_yes h0
  unfold modV
  rw [if_pos h0]
  have hn0 : ¬ (w.heap.size = w.heap.size + 1 + 1) := by omega
  have hn1 : ¬ (w.heap.size + 1 + 1 = w.heap.size) := by omega
  go_enter Tryz.func54, Tryz.ntmps54
  go_wp2_with fail
  refine bodyPost_ret (v := .tuple #[.agg #[.bool false, .string ⟨#[]⟩, .int .i64 0], .int .i64 2]) (by simp [results, Tryz.results54, go_sem, *]) rfl ?_
  refine ⟨rfl, ?_⟩
  go_light
  (repeat (first | exact Below.refl _ _ | assumption | refine Below.drew ?_ | refine Go.below_drewN ?_ _ | (refine Below.alloc ?_ (by first | exact Nat.le_refl _ | (simp; done) | (simp; omega) | (simp at *; omega)) _) | (refine Below.setCell ?_ (by first | exact Nat.le_refl _ | (simp; done) | (simp; omega)) _) | (refine Below.trans ?_ (Below.mono (by assumption) (by first | exact Nat.le_refl _ | (simp; done) | (simp; omega) | (simp at *; omega))))))

set_option maxRecDepth 10000 in
set_option maxHeartbeats 2000000 in
theorem decMod_any (n : Bool) (s : ByteArray) (x : Int) (m : Bool) (t : ByteArray) (y : Int) (w : World) (h1 : decOk n (bs s) x = true) (h2 : decOk m (bs t) y = true) (h0 : 0 < t.size) :
    Calls Tryz.prog 54 #[.agg #[.bool n, .string s, .int .i64 x], .agg #[.bool m, .string t, .int .i64 y]] w fun e w' => e = .returned (modV n s x m t y) ∧ Below w.heap.size w w' := by
  have hB0 := (dec_facts h2).2.2.2.2.2.2.2.2 h0
  have hemp := isEmpty_no h0
  have hYp : 0 < lvl t y x := by unfold lvl; exact Nat.mul_pos hB0 (Nat.pow_pos (by decide))
  unfold modV
  rw [if_neg (by omega)]
  obtain ⟨a1, a2, a3, a4, a5, a6, a7, -, -⟩ := dec_facts h1
  obtain ⟨b1, b2, b3, b4, b5, b6, b7, -, -⟩ := dec_facts h2
  have lx := lvl_len h1 b2
  have ly := lvl_len h2 a2
  have hAL := fun w => aligned_any n s x m t y w h1 h2
  obtain ⟨X, hX⟩ : ∃ X, lvl s x y = X := ⟨_, rfl⟩
  obtain ⟨Y, hY⟩ : ∃ Y, lvl t y x = Y := ⟨_, rfl⟩
  obtain ⟨z, hz⟩ : ∃ z, min x y = z := ⟨_, rfl⟩
  have hza : -119 ≤ z := by omega
  have hzb : z ≤ 99 := by omega
  rw [hX] at lx hAL ⊢
  rw [hY] at ly hAL ⊢
  rw [hz] at hAL ⊢
  have HAL := Lib.hid hAL
  have ladd := dec_add_len X Y
  have hs1 := size_ofL (dec X)
  have hs2 := size_ofL (dec Y)
  have hn0 : ¬ (w.heap.size = w.heap.size + 1 + 1) := by omega
  have hn1 : ¬ (w.heap.size + 1 + 1 = w.heap.size) := by omega
  rw [hY] at hYp
  have hRl : (dec (X % Y)).length ≤ 300 := Nat.le_trans (dec_mono (Nat.mod_le _ _)) lx
  obtain ⟨n', u, y', c, hV, -, -, -⟩ := formV_lit n (X % Y) z
  have hD := Lib.hid (fun w => by
    have := natDiv_any (ofL (dec X)) (ofL (dec Y)) w (by rw [bs_ofL]; exact dec_all X) (by rw [bs_ofL]; exact dec_canon Y) (by omega) (by omega) (by rw [bs_ofL, val_dec]; exact hYp)
    rw [bs_ofL, bs_ofL, val_dec, val_dec] at this
    exact this : ∀ w : World, Calls Tryz.prog 91 #[.string (ofL (dec X)), .string (ofL (dec Y))] w fun e w' => e = .returned (.tuple #[.string (ofL (dec (X / Y))), .string (ofL (dec (X % Y)))]) ∧ Below w.heap.size w w')
  have hN := Lib.hid (fun w => by
    have := normal_dec n (X % Y) z w (by omega) (by omega) (by omega)
    rw [hV] at this
    exact this : ∀ w : World, Calls Tryz.prog 47 #[.bool n, .string (ofL (dec (X % Y))), .int .i64 z] w fun e w' => e = .returned (.tuple #[.agg #[.bool n', .string u, .int .i64 y'], .int .i64 c]) ∧ Below w.heap.size w w')
  rw [hV]
  clear hB0 hYp h0 hRl hV a4 b4 a5 b5 hX hY hz hAL ladd lx ly hs1 hs2
  clear h1 h2
  go_enter Tryz.func54, Tryz.ntmps54
  go_wp2_with fail
  refine (HAL.out _).mono ?_
  rintro e w1 ⟨rfl, hb1⟩
  obtain ⟨w0, hw0, hz0, hb0, hc0, hr0⟩ := three_laid w n s x m t y
  rw [hw0] at hb1
  obtain ⟨hv1, hz1, hc1, hr1⟩ := three_kept hb1 hz0 hb0 hc0 hr0
  clear hw0 hz0 hb0 hc0 hr0 hb1
  go_wp2_with fail
  refine (hD.out _).mono ?_
  rintro e w2 ⟨rfl, hb2⟩
  obtain ⟨hv2, hz2, hc2, hr2⟩ := three_kept hb2 hz1 hv1 hc1 hr1
  clear hz1 hv1 hc1 hr1 hb2
  go_wp2_with fail
  refine (hN.out _).mono ?_
  rintro e w3 ⟨rfl, hb3⟩
  obtain ⟨hv3, hz3, hc3, hr3⟩ := three_kept hb3 hz2 hv2 hc2 hr2
  clear hz2 hv2 hc2 hr2 hb3
  go_wp2
  refine bodyPost_ret (v := .tuple #[.agg #[.bool n', .string u, .int .i64 y'], .int .i64 c]) (by simp [results, Tryz.results54, go_sem, *]) rfl ?_
  exact ⟨rfl, set_three hv3 (by omega) _ _ _⟩


end Go.Proofs.YtjjpdoabagnmoaaGreatDoor
/-
  What the laws on two numbers use: szDec's contracts. No condition.
-/
namespace Go.Proofs.YtjjpdoabagnmoaaGreatDoor
open Go.RowKit
set_option linter.unusedVariables false
set_option linter.unusedSimpArgs false


theorem set_cells {w : World} {g : Nat} {v0 v1 v2 x y z : Value} (h0 : w.cell? ⟨g, 0, none⟩ = some v0) (h1 : w.cell? ⟨g, 1, none⟩ = some v1) (h2 : w.cell? ⟨g, 2, none⟩ = some v2) :
    (((w.setCell ⟨g, 0, none⟩ x).setCell ⟨g, 1, none⟩ y).setCell ⟨g, 2, none⟩ z).cell? ⟨g, 0, none⟩ = some x ∧
      (((w.setCell ⟨g, 0, none⟩ x).setCell ⟨g, 1, none⟩ y).setCell ⟨g, 2, none⟩ z).cell? ⟨g, 1, none⟩ = some y ∧
      (((w.setCell ⟨g, 0, none⟩ x).setCell ⟨g, 1, none⟩ y).setCell ⟨g, 2, none⟩ z).cell? ⟨g, 2, none⟩ = some z := by
  have n01 : (⟨g, 0, none⟩ : Addr) ≠ ⟨g, 1, none⟩ := by simp
  have n02 : (⟨g, 0, none⟩ : Addr) ≠ ⟨g, 2, none⟩ := by simp
  have n12 : (⟨g, 1, none⟩ : Addr) ≠ ⟨g, 2, none⟩ := by simp
  refine ⟨?_, ?_, ?_⟩
  · rw [World.cell?_setCell_other (h := n02.symm), World.cell?_setCell_other (h := n01.symm), World.cell?_setCell_same (h := h0)]
  · have e1 : (w.setCell ⟨g, 0, none⟩ x).cell? ⟨g, 1, none⟩ = some v1 := by rw [World.cell?_setCell_other (h := n01), h1]
    rw [World.cell?_setCell_other (h := n12.symm), World.cell?_setCell_same (h := e1)]
  · have e2 : ((w.setCell ⟨g, 0, none⟩ x).setCell ⟨g, 1, none⟩ y).cell? ⟨g, 2, none⟩ = some v2 := by rw [World.cell?_setCell_other (h := n12), World.cell?_setCell_other (h := n02), h2]
    rw [World.cell?_setCell_same (h := e2)]


end Go.Proofs.YtjjpdoabagnmoaaGreatDoor
/-
  One number and a result's place, as a function on a number lays them; what of it a call leaves. No condition.
-/
namespace Go.Proofs.YtjjpdoabagnmoaaGreatDoor
open Go.RowKit
set_option linter.unusedVariables false
set_option linter.unusedSimpArgs false

theorem pair_laid (w : World) (n : Bool) (s : ByteArray) (x : Int) :
    ∃ w0, (w.alloc (Obj.cells #[.bool n, .string s, .int .i64 x] 23)).alloc (Obj.cells #[.bool false, .string ⟨#[]⟩, .int .i64 0] 23) = w0 ∧
      (w.heap.size < w0.heap.size ∧ w.heap.size + 1 < w0.heap.size) ∧ Below w.heap.size w w0 ∧
      (w0.cell? ⟨w.heap.size, 0, none⟩ = some (.bool n) ∧ w0.cell? ⟨w.heap.size, 1, none⟩ = some (.string s) ∧ w0.cell? ⟨w.heap.size, 2, none⟩ = some (.int .i64 x)) ∧
      ((w0.cell? ⟨w.heap.size + 1, 0, none⟩ = some (.bool false) ∧ w0.cell? ⟨w.heap.size + 1, 1, none⟩ = some (.string ⟨#[]⟩) ∧ w0.cell? ⟨w.heap.size + 1, 2, none⟩ = some (.int .i64 0)) ∧
        (w0.frozen? ⟨w.heap.size + 1, 0, none⟩ = false ∧ w0.frozen? ⟨w.heap.size + 1, 1, none⟩ = false ∧ w0.frozen? ⟨w.heap.size + 1, 2, none⟩ = false)) := by
  obtain ⟨u, hu, hz, hb, hc, -⟩ := one_laid w n s x
  have hus : u.heap.size = w.heap.size + 1 := by rw [← hu]; simp
  obtain ⟨w0, hw0, hz0, hb0, hc0, hf0⟩ := one_laid u false ⟨#[]⟩ 0
  obtain ⟨c, -⟩ := bcell hb0
  rw [hus] at hz0 hc0 hf0
  refine ⟨w0, by rw [hu]; exact hw0, ⟨by omega, by omega⟩, hb.trans (hb0.mono hb.size), ?_, hc0, hf0⟩
  rw [c _ 0 hz, c _ 1 hz, c _ 2 hz]
  exact hc
theorem pair_kept {w w1 : World} {p r : Nat} {n : Bool} {s : ByteArray} {x : Int} {v0 v1 v2 : Value} (hb : Below w.heap.size w w1) (hp : p < w.heap.size ∧ r < w.heap.size) {v : World} (hv : Below v.heap.size v w)
    (h : w.cell? ⟨p, 0, none⟩ = some (.bool n) ∧ w.cell? ⟨p, 1, none⟩ = some (.string s) ∧ w.cell? ⟨p, 2, none⟩ = some (.int .i64 x))
    (h' : (w.cell? ⟨r, 0, none⟩ = some v0 ∧ w.cell? ⟨r, 1, none⟩ = some v1 ∧ w.cell? ⟨r, 2, none⟩ = some v2) ∧ (w.frozen? ⟨r, 0, none⟩ = false ∧ w.frozen? ⟨r, 1, none⟩ = false ∧ w.frozen? ⟨r, 2, none⟩ = false)) :
    Below v.heap.size v w1 ∧ (p < w1.heap.size ∧ r < w1.heap.size) ∧
    (w1.cell? ⟨p, 0, none⟩ = some (.bool n) ∧ w1.cell? ⟨p, 1, none⟩ = some (.string s) ∧ w1.cell? ⟨p, 2, none⟩ = some (.int .i64 x)) ∧
    ((w1.cell? ⟨r, 0, none⟩ = some v0 ∧ w1.cell? ⟨r, 1, none⟩ = some v1 ∧ w1.cell? ⟨r, 2, none⟩ = some v2) ∧ (w1.frozen? ⟨r, 0, none⟩ = false ∧ w1.frozen? ⟨r, 1, none⟩ = false ∧ w1.frozen? ⟨r, 2, none⟩ = false)) := by
  obtain ⟨c, f⟩ := bcell hb
  rw [c p 0 hp.1, c p 1 hp.1, c p 2 hp.1, c r 0 hp.2, c r 1 hp.2, c r 2 hp.2, f r 0 hp.2, f r 1 hp.2, f r 2 hp.2]
  exact ⟨hv.trans (hb.mono hv.size), ⟨Nat.lt_of_lt_of_le hp.1 hb.size, Nat.lt_of_lt_of_le hp.2 hb.size⟩, h, h'⟩
end Go.Proofs.YtjjpdoabagnmoaaGreatDoor
/-
  The contracts of both sides' DecInt. Conditions: as each theorem says.
-/
namespace Go.Proofs.YtjjpdoabagnmoaaGreatDoor
open Go.RowKit
set_option linter.unusedVariables false
set_option linter.unusedSimpArgs false

/-- the digits ahead of the point, in form, and the code -/
def cutV (n : Bool) (s : ByteArray) (x : Int) : Value := formV n (val ((bs s).take ((s.size : Int) + x).toNat)) 0

set_option maxRecDepth 10000 in
theorem decInt_pos (n : Bool) (s : ByteArray) (x : Int) (w : World) (hx0 : 0 ≤ x) :
    Calls Tryz.prog 55 #[.agg #[.bool n, .string s, .int .i64 x]] w fun e w' => e = .returned (.agg #[.bool n, .string s, .int .i64 x]) ∧ Below w.heap.size w w' := by
  go_enter Tryz.func55, Tryz.ntmps55
  go_wp2
  refine bodyPost_ret (v := .agg #[.bool n, .string s, .int .i64 x]) (by simp [results, Tryz.results55, go_sem, *]) rfl ⟨rfl, ?_⟩
  go_light
  (repeat (first | exact Below.refl _ _ | assumption | refine Below.drew ?_ | refine Go.below_drewN ?_ _ | (refine Below.alloc ?_ (by first | exact Nat.le_refl _ | (simp; done) | (simp; omega) | (simp at *; omega)) _) | (refine Below.setCell ?_ (by first | exact Nat.le_refl _ | (simp; done) | (simp; omega)) _) | (refine Below.trans ?_ (Below.mono (by assumption) (by first | exact Nat.le_refl _ | (simp; done) | (simp; omega) | (simp at *; omega))))))

set_option maxRecDepth 10000 in
theorem decInt_zero (n : Bool) (s : ByteArray) (x : Int) (w : World) (hx0 : x < 0) (hxl : -1000 ≤ x) (hl : (s.size : Int) + x ≤ 0) :
    Calls Tryz.prog 55 #[.agg #[.bool n, .string s, .int .i64 x]] w fun e w' => e = .returned (.agg #[.bool false, .string ⟨#[]⟩, .int .i64 0]) ∧ Below w.heap.size w w' := by
  have hi : ¬ (-x < (s.size : Int)) := by omega
  go_enter Tryz.func55, Tryz.ntmps55
  go_wp2
  refine bodyPost_ret (v := .agg #[.bool false, .string ⟨#[]⟩, .int .i64 0]) (by simp [results, Tryz.results55, go_sem, *]) rfl ⟨rfl, ?_⟩
  go_light
  (repeat (first | exact Below.refl _ _ | assumption | refine Below.drew ?_ | refine Go.below_drewN ?_ _ | (refine Below.alloc ?_ (by first | exact Nat.le_refl _ | (simp; done) | (simp; omega) | (simp at *; omega)) _) | (refine Below.setCell ?_ (by first | exact Nat.le_refl _ | (simp; done) | (simp; omega)) _) | (refine Below.trans ?_ (Below.mono (by assumption) (by first | exact Nat.le_refl _ | (simp; done) | (simp; omega) | (simp at *; omega))))))

set_option maxRecDepth 10000 in
set_option maxHeartbeats 1000000 in
theorem decInt_cut (n : Bool) (s : ByteArray) (x : Int) (hk : decOk n (bs s) x = true) (hx0 : x < 0) (hl : 0 < (s.size : Int) + x) :
    ∃ (n' : Bool) (u : ByteArray) (y' c : Int), cutV n s x = .tuple #[.agg #[.bool n', .string u, .int .i64 y'], .int .i64 c] ∧ ∀ w : World, Calls Tryz.prog 55 #[.agg #[.bool n, .string s, .int .i64 x]] w fun e w' => e = .returned (.agg #[.bool n', .string u, .int .i64 y']) ∧ Below w.heap.size w w' := by
  obtain ⟨a1, a2, a3, a4, a5, a6, a7, -, -⟩ := dec_facts hk
  have h0 : 0 < s.size := by omega
  obtain ⟨k, hk0⟩ : ∃ k : Nat, (s.size : Int) + x = (k : Int) := ⟨((s.size : Int) + x).toNat, by omega⟩
  have hkl : k < s.size := by omega
  have hk1 : 1 ≤ k := by omega
  have hcan := (form_same hk (ne_nil h0)).1
  have hall : (bs (s.extract 0 k)).all isDig = true := by rw [bs_front]; exact all_take hcan.dig k
  have hsz : (s.extract 0 k).size = k := by rw [← bs_length, bs_front, List.length_take, bs_length]; omega
  have hcv : cutV n s x = formV n (val (bs (s.extract 0 k))) 0 := by unfold cutV; rw [hk0, Int.toNat_natCast, bs_front]
  obtain ⟨n', u, y', c, hV, -, -, -⟩ := formV_lit n (val (bs (s.extract 0 k))) 0
  have hN := Lib.hid (fun w => by
    have := normal_any n (s.extract 0 k) 0 w hall (by omega) (by omega) (by omega)
    rw [hV] at this
    exact this : ∀ w : World, Calls Tryz.prog 47 #[.bool n, .string (s.extract 0 k), .int .i64 0] w fun e w' => e = .returned (.tuple #[.agg #[.bool n', .string u, .int .i64 y'], .int .i64 c]) ∧ Below w.heap.size w w')
  refine ⟨n', u, y', c, hcv.trans hV, ?_⟩
  have hi1 : 0 ≤ (k : Int) := by omega
  have hkle : k ≤ s.size := by omega
  have hi2 : (k : Int) ≤ (s.size : Int) := by omega
  have hi4 : ¬ (k : Int) ≤ 0 := by omega
  have hi5 : ¬ ((s.size : Int) ≤ -x) := by omega
  clear a4 a5 hcan hall hV hcv
  intro w
  have wk : IntKind.i64.wrap ((s.size : Int) + x) = (k : Int) := by rw [hk0]; exact IntWalk.i64_in _ (by omega)
  clear hk0
  go_enter Tryz.func55, Tryz.ntmps55
  go_wp2_with fail
  obtain ⟨w1, hw1, hz1, hv1, hc1, hr1⟩ := pair_laid w n s x
  rw [hw1]
  clear hw1
  obtain ⟨hz1a, hz1b⟩ := hz1
  have hle1 : w.heap.size < w1.heap.size + 1 := Nat.lt_add_one_of_lt hz1a
  have hle1b : w.heap.size + 1 < w1.heap.size + 1 := Nat.lt_add_one_of_lt hz1b
  have hne1 : ¬ (w.heap.size = w1.heap.size) := Nat.ne_of_lt hz1a
  have hme1 : ¬ (w1.heap.size = w.heap.size) := Nat.ne_of_gt hz1a
  have hne1b : ¬ (w.heap.size + 1 = w1.heap.size) := Nat.ne_of_lt hz1b
  have hme1b : ¬ (w1.heap.size = w.heap.size + 1) := Nat.ne_of_gt hz1b
  have hds : ∀ u : World, u.drew.heap.size = u.heap.size := drew_size
  go_upto_region 5 with fail
  go_cut [3, 4] (fun s3 s4 wx => ∃ g : Nat, s3 = .pointer (some ⟨g, 0, none⟩) ∧ s4 = .int .i64 c ∧ Below w1.heap.size w1 wx ∧
    (wx.cell? ⟨g, 0, none⟩ = some (.bool n') ∧ wx.cell? ⟨g, 1, none⟩ = some (.string u) ∧ wx.cell? ⟨g, 2, none⟩ = some (.int .i64 y')))
  case first =>
    go_region_held3 (fun w' => w'.cell? ⟨w.heap.size, 0, none⟩ = some (.bool n) ∧ w'.cell? ⟨w.heap.size, 1, none⟩ = some (.string s) ∧ w'.cell? ⟨w.heap.size, 2, none⟩ = some (.int .i64 x)) (go_keep)
      (first | (go_at_call 47; refine (hN.out _).mono ?_; rintro e w2 ⟨rfl, hb2⟩; obtain ⟨hb2c, hb2f⟩ := bcell hb2; have hb2q := hb2.size; (try simp at hb2q); have hb2q0 : w.heap.size < w2.heap.size := (by omega); have hb2q1 : w.heap.size + 1 < w2.heap.size := (by omega); have hup := fun (g : Nat) h => Nat.lt_of_lt_of_le (n := g) h hb2.size; have hle2 : w.heap.size < w2.heap.size + 1 := Nat.lt_add_one_of_lt hb2q0; have hne2 : ¬ (w.heap.size = w2.heap.size) := Nat.ne_of_lt hb2q0; have hme2 : ¬ (w2.heap.size = w.heap.size) := Nat.ne_of_gt hb2q0))
    all_goals (go_wp2_with fail; go_meet; refine ⟨_, rfl, rfl, ?_, ?_⟩)
    all_goals first
      | (show Below _ _ _; (repeat (first | exact Below.refl _ _ | assumption | refine Below.drew ?_ | refine Go.below_drewN ?_ _ | (refine Below.alloc ?_ (by first | exact Nat.le_refl _ | (simp; done) | (simp; omega) | (simp at *; omega)) _) | (refine Below.setCell ?_ (by first | exact Nat.le_refl _ | (simp; done) | (simp; omega)) _) | (refine Below.trans ?_ (Below.mono (by assumption) (by first | exact Nat.le_refl _ | (simp; done) | (simp; omega) | (simp at *; omega)))))))
      | go_keep
      | exact set_cells (v0 := .bool false) (v1 := .string ⟨#[]⟩) (v2 := .int .i64 0) (by go_keep) (by go_keep) (by go_keep)
  case rest =>
    obtain ⟨g, rfl, rfl, hb3, hg3⟩ := hcut
    obtain ⟨hv3, hz3, hc3, hr3⟩ := pair_kept hb3 ⟨hz1a, hz1b⟩ hv1 hc1 hr1
    clear hv1 hc1 hr1 hb3
    go_wp2
    refine bodyPost_ret (v := .agg #[.bool n', .string u, .int .i64 y']) (by simp [results, Tryz.results55, go_sem, *]) rfl ⟨rfl, ?_⟩
    exact set_three hv3 (by omega) _ _ _

set_option maxRecDepth 10000 in
theorem implDecInt_no (n : Bool) (s : ByteArray) (x : Int) (w : World) (hs : s.size ≤ maxLen) (hx : (Lit.int .i64 x).wf = true) (hk : decOk n (bs s) x = false) :
    Calls Tryz.prog 27 #[.agg #[.bool n, .string s, .int .i64 x]] w fun e w' => e = .returned (.agg #[.bool false, .string ⟨#[]⟩, .int .i64 0]) ∧ Below w.heap.size w w' := by
  go_enter Tryz.func27, Tryz.ntmps27
  go_wp2_with (first | (go_at_call 41; refine (isDec_any n s x _ hs hx).mono ?_; rintro e w1 ⟨rfl, hb1⟩; obtain ⟨hb1c, hb1f⟩ := bcell hb1; have hb1q := hb1.size; (try simp at hb1q); have hb1q0 : w.heap.size < w1.heap.size := (by omega); have hb1q1 : w.heap.size + 1 < w1.heap.size := (by omega); have hle1 : w.heap.size < w1.heap.size + 1 := Nat.lt_add_one_of_lt hb1q0; have hne1 : ¬ (w.heap.size = w1.heap.size) := Nat.ne_of_lt hb1q0; have hme1 : ¬ (w1.heap.size = w.heap.size) := Nat.ne_of_gt hb1q0))
  refine bodyPost_ret (v := .agg #[.bool false, .string ⟨#[]⟩, .int .i64 0]) (by simp [results, Tryz.results27, go_sem, *]) rfl ⟨rfl, ?_⟩
  go_light
  (repeat (first | exact Below.refl _ _ | assumption | refine Below.drew ?_ | refine Go.below_drewN ?_ _ | (refine Below.alloc ?_ (by first | exact Nat.le_refl _ | (simp; done) | (simp; omega) | (simp at *; omega)) _) | (refine Below.setCell ?_ (by first | exact Nat.le_refl _ | (simp; done) | (simp; omega)) _) | (refine Below.trans ?_ (Below.mono (by assumption) (by first | exact Nat.le_refl _ | (simp; done) | (simp; omega) | (simp at *; omega))))))

theorem implDecInt_yes (n : Bool) (s : ByteArray) (x : Int) (hs : s.size ≤ maxLen) (hx : (Lit.int .i64 x).wf = true) (hk : decOk n (bs s) x = true) (m : Bool) (t : ByteArray) (y : Int)
    (hI : ∀ w : World, Calls Tryz.prog 55 #[.agg #[.bool n, .string s, .int .i64 x]] w fun e w' => e = .returned (.agg #[.bool m, .string t, .int .i64 y]) ∧ Below w.heap.size w w') (w : World) :
    Calls Tryz.prog 27 #[.agg #[.bool n, .string s, .int .i64 x]] w fun e w' => e = .returned (.agg #[.bool m, .string t, .int .i64 y]) ∧ Below w.heap.size w w' := by
  have HI := Lib.hid hI
  clear hI
  go_enter Tryz.func27, Tryz.ntmps27
  go_wp2_with (first | (go_at_call 41; refine (isDec_any n s x _ hs hx).mono ?_; rintro e w1 ⟨rfl, hb1⟩; obtain ⟨hb1c, hb1f⟩ := bcell hb1; have hb1q := hb1.size; (try simp at hb1q); have hb1q0 : w.heap.size < w1.heap.size := (by omega); have hb1q1 : w.heap.size + 1 < w1.heap.size := (by omega); have hle1 : w.heap.size < w1.heap.size + 1 := Nat.lt_add_one_of_lt hb1q0; have hne1 : ¬ (w.heap.size = w1.heap.size) := Nat.ne_of_lt hb1q0; have hme1 : ¬ (w1.heap.size = w.heap.size) := Nat.ne_of_gt hb1q0) | (go_at_call 55; refine (HI.out _).mono ?_; rintro e w2 ⟨rfl, hb2⟩; obtain ⟨hb2c, hb2f⟩ := bcell hb2; have hb2q := hb2.size; (try simp at hb2q); have hb2q0 : w.heap.size < w2.heap.size := (by omega); have hb2q1 : w.heap.size + 1 < w2.heap.size := (by omega)))
  refine bodyPost_ret (v := .agg #[.bool m, .string t, .int .i64 y]) (by simp [results, Tryz.results27, go_sem, *]) rfl ⟨rfl, ?_⟩
  go_light
  (repeat (first | exact Below.refl _ _ | assumption | refine Below.drew ?_ | refine Go.below_drewN ?_ _ | (refine Below.alloc ?_ (by first | exact Nat.le_refl _ | (simp; done) | (simp; omega) | (simp at *; omega)) _) | (refine Below.setCell ?_ (by first | exact Nat.le_refl _ | (simp; done) | (simp; omega)) _) | (refine Below.trans ?_ (Below.mono (by assumption) (by first | exact Nat.le_refl _ | (simp; done) | (simp; omega) | (simp at *; omega))))))




end Go.Proofs.YtjjpdoabagnmoaaGreatDoor
/-
  Plain: a quotient of small ints, rounded to 20 digits, has the ints' quotient before its point. No condition but the bounds.
-/
namespace Go.Proofs.YtjjpdoabagnmoaaGreatDoor
open Go.RowKit
set_option linter.unusedVariables false
set_option linter.unusedSimpArgs false

theorem trunc_core {A B P D Q v r : Nat} (hB : 0 < B) (hB2 : B ≤ 2000000) (hP : 1 ≤ P) (hD : 1000000000000 ≤ D) (hQ : P * D = Q)
    (h1 : B * v ≤ A * Q + B) (h2 : A * Q < B * (v + 10)) (h3 : r * P ≤ v + P) (h4 : v < (r + 1) * P) (hnd : A % B ≠ 0) : r / D = A / B ∧ r % D ≠ 0 := by
  have hr := Nat.div_add_mod r D
  have hrl : r % D < D := Nat.mod_lt _ (by omega)
  have hA := Nat.div_add_mod A B
  have hAl : A % B < B := Nat.mod_lt _ hB
  obtain ⟨J, hJ⟩ : ∃ J, r / D = J := ⟨_, rfl⟩
  obtain ⟨I, hI⟩ : ∃ I, A / B = I := ⟨_, rfl⟩
  rw [hJ] at hr ⊢
  rw [hI] at hA ⊢
  obtain ⟨p, hp⟩ : ∃ p, r % D = p := ⟨_, rfl⟩
  obtain ⟨f, hf⟩ : ∃ f, A % B = f := ⟨_, rfl⟩
  rw [hp] at hr hrl ⊢
  rw [hf] at hA hAl hnd
  have hQ1 : 1000000000000 * P ≤ Q := by rw [← hQ, Nat.mul_comm]; exact Nat.mul_le_mul_left P hD
  have hBP : B * P ≤ 2000000 * P := Nat.mul_le_mul_right P hB2
  have hBP1 : B ≤ B * P := Nat.le_mul_of_pos_right B hP
  -- r * P between
  have hrP : r * P = J * Q + p * P := by rw [← hr, ← hQ, Nat.add_mul]; congr 1; rw [Nat.mul_comm D J, Nat.mul_assoc, Nat.mul_comm D P]
  have hup : (r + 1) * P ≤ (J + 1) * Q := by
    have h5 : r + 1 ≤ D * (J + 1) := by rw [← hr, Nat.mul_add]; omega
    have h6 := Nat.mul_le_mul_right P h5
    rw [Nat.mul_comm D (J + 1), Nat.mul_assoc, Nat.mul_comm D P, hQ] at h6
    exact h6
  -- (i)
  have i1 : B * (J * Q) ≤ A * Q + B + B * P := by
    have h7 : J * Q ≤ v + P := by omega
    have h8 := Nat.mul_le_mul_left B h7
    rw [Nat.mul_add] at h8
    omega
  have hJA : B * J ≤ A := by
    apply Classical.byContradiction
    intro hn
    have h9 : A + 1 ≤ B * J := by omega
    have h10 := Nat.mul_le_mul_right Q h9
    rw [Nat.add_mul, Nat.one_mul, Nat.mul_assoc] at h10
    omega
  -- (ii)
  have h11 : v + 10 ≤ (J + 1) * Q + 9 := by omega
  have h12 := Nat.mul_le_mul_left B h11
  rw [Nat.mul_add B ((J + 1) * Q) 9, ← Nat.mul_assoc] at h12
  have hAJ : A ≤ B * (J + 1) := by
    apply Classical.byContradiction
    intro hn
    have h13 : B * (J + 1) + 1 ≤ A := by omega
    have h14 := Nat.mul_le_mul_right Q h13
    rw [Nat.add_mul, Nat.one_mul] at h14
    omega
  have hIJ : J = I := by
    rw [Nat.mul_add, Nat.mul_one] at hAJ
    rcases Nat.lt_trichotomy J I with h | h | h
    · exfalso
      have h15 : B * (J + 1) ≤ B * I := Nat.mul_le_mul_left B h
      rw [Nat.mul_add, Nat.mul_one] at h15
      omega
    · exact h
    · exfalso
      have h15 : B * (I + 1) ≤ B * J := Nat.mul_le_mul_left B h
      rw [Nat.mul_add, Nat.mul_one] at h15
      omega
  refine ⟨hIJ, fun hp0 => ?_⟩
  rw [hp0] at hrP
  have h16 : v + 10 ≤ J * Q + P + 9 := by
    rw [Nat.add_mul, Nat.one_mul] at h4
    omega
  have h17 := Nat.mul_le_mul_left B h16
  rw [Nat.mul_add B (J * Q + P) 9, Nat.mul_add B (J * Q) P, ← Nat.mul_assoc] at h17
  have h18 : B * J + 1 ≤ A := by rw [hIJ]; omega
  have h19 := Nat.mul_le_mul_right Q h18
  rw [Nat.add_mul, Nat.one_mul] at h19
  omega
theorem take_div (l : List UInt8) (j : Nat) (h : l.all isDig = true) (hj : j ≤ l.length) : val (l.take j) = val l / 10 ^ (l.length - j) := by
  have e := val_append (l.take j) (l.drop j)
  rw [List.take_append_drop, List.length_drop] at e
  have hd : (l.drop j).all isDig = true := by
    rw [List.all_eq_true] at h ⊢
    exact fun c hc => h c (List.mem_of_mem_drop hc)
  have hlt := val_lt (l.drop j) hd
  rw [List.length_drop] at hlt
  rw [e, Nat.add_comm, Nat.add_mul_div_right _ _ (Nat.pow_pos (by decide)), Nat.div_eq_of_lt hlt, Nat.zero_add]
/-- a product of ints -/
theorem mul_int {a b : Int} {n m : Bool} {u v : ByteArray} {x y : Int} (ha : IntNum a n u x) (hb : IntNum b m v y) : mulV n u x m v y = formV (decide (a * b < 0)) (a * b).natAbs 0 := by
  have hx := ha.x0
  have hy := hb.x0
  unfold mulV
  rw [tens_back _ _ _ (by omega), show (x + y).toNat = x.toNat + y.toNat by omega, Nat.pow_add]
  have e : val (bs u) * val (bs v) * (10 ^ x.toNat * 10 ^ y.toNat) = (a * b).natAbs := by
    rw [Int.natAbs_mul, ← ha.val, ← hb.val, Nat.mul_mul_mul_comm]
  rw [e]
  by_cases h0 : a * b = 0
  · rw [h0]; simp only [Int.natAbs_zero, nought_form]
  · have ha0 : a ≠ 0 := fun e => h0 (by rw [e, Int.zero_mul])
    have hb0 : b ≠ 0 := fun e => h0 (by rw [e, Int.mul_zero])
    rw [ha.sign, hb.sign]
    congr 1
    by_cases s1 : a < 0 <;> by_cases s2 : b < 0
    · have := Int.mul_pos_of_neg_of_neg s1 s2
      rw [decide_eq_true s1, decide_eq_true s2, decide_eq_false (by omega)]; rfl
    · have := Int.mul_neg_of_neg_of_pos s1 (show 0 < b by omega)
      rw [decide_eq_true s1, decide_eq_false s2, decide_eq_true this]; rfl
    · have := Int.mul_neg_of_pos_of_neg (show 0 < a by omega) s2
      rw [decide_eq_false s1, decide_eq_true s2, decide_eq_true this]; rfl
    · have := Int.mul_pos (show 0 < a by omega) (show 0 < b by omega)
      rw [decide_eq_false s1, decide_eq_false s2, decide_eq_false (by omega)]; rfl
/-- a remainder of ints -/
theorem mod_int {a b : Int} {n m : Bool} {u v : ByteArray} {x y : Int} (ha : IntNum a n u x) (hb : IntNum b m v y) (hb0 : b ≠ 0) : modV n u x m v y = formV (decide (a.tmod b < 0)) (a.tmod b).natAbs 0 := by
  have hx := ha.x0
  have hy := hb.x0
  have hz : 0 ≤ min x y := by omega
  have hv := hb.pos hb0
  unfold modV
  rw [if_neg (by omega), tens_back _ _ _ hz, ← Nat.mul_mod_mul_right]
  have e1 := lvl_scale ha hb
  have e2 := lvl_scale hb ha
  rw [show min y x = min x y by omega] at e2
  rw [e1, e2]
  have e3 : (a.tmod b).natAbs = a.natAbs % b.natAbs := by rw [Int.natAbs_tmod]
  rw [← e3]
  by_cases h0 : a.tmod b = 0
  · rw [h0]; simp only [Int.natAbs_zero, nought_form]
  · rw [ha.sign]
    congr 1
    by_cases s1 : a < 0
    · have h := Int.tmod_nonneg b (show 0 ≤ -a by omega)
      rw [Int.neg_tmod] at h
      rw [decide_eq_true s1, decide_eq_true (by omega)]
    · have h := Int.tmod_nonneg b (show 0 ≤ a by omega)
      rw [decide_eq_false s1, decide_eq_false (by omega)]
/-- what the division's value is, as one natural times a power of ten -/
theorem div_value {a b : Int} {n m : Bool} {u v : ByteArray} {x y : Int} (ha : IntNum a n u x) (hb : IntNum b m v y) (hb0 : b ≠ 0) :
    ∃ (V K : Nat), divV n u x m v y = formV (n != m) V (-(K : Int)) ∧ 22 ≤ K ∧ K ≤ 63 ∧ b.natAbs * V ≤ a.natAbs * 10 ^ K + b.natAbs ∧ a.natAbs * 10 ^ K < b.natAbs * (V + 10) ∧ (a.natAbs % b.natAbs = 0 → V = a.natAbs / b.natAbs * 10 ^ K) := by
  have hx := ha.x0
  have hy := hb.x0
  have hx2 := ha.x20
  have hy2 := hb.x20
  have hv := hb.pos hb0
  obtain ⟨U, hU⟩ : ∃ U, val (bs u) = U := ⟨_, rfl⟩
  obtain ⟨W, hW⟩ : ∃ W, val (bs v) = W := ⟨_, rfl⟩
  obtain ⟨p, rfl⟩ : ∃ p : Nat, x = (p : Int) := ⟨x.toNat, by omega⟩
  obtain ⟨q, rfl⟩ : ∃ q : Nat, y = (q : Int) := ⟨y.toNat, by omega⟩
  have hA := ha.val
  have hB := hb.val
  rw [hU, Int.toNat_natCast] at hA
  rw [hW, Int.toNat_natCast] at hB
  obtain ⟨A, hAA⟩ : ∃ A, a.natAbs = A := ⟨_, rfl⟩
  obtain ⟨B, hBB⟩ : ∃ B, b.natAbs = B := ⟨_, rfl⟩
  rw [hAA] at hA ⊢
  rw [hBB] at hB ⊢
  have hB0 : 0 < B := by omega
  have hW0 : 0 < W := by
    rcases Nat.eq_zero_or_pos W with e | e
    · rw [e, Nat.zero_mul] at hB; omega
    · exact e
  have hq0 : 0 < 10 ^ q := Nat.pow_pos (by decide)
  have hp0 : 0 < 10 ^ p := Nat.pow_pos (by decide)
  obtain ⟨g, hg⟩ : ∃ g, 42 - p = g := ⟨_, rfl⟩
  have h42 : (10 : Nat) ^ 42 = 10 ^ p * 10 ^ g := by rw [← Nat.pow_add, show p + g = 42 by omega]
  have hN : U * 10 ^ 42 = A * 10 ^ g := by rw [h42, ← Nat.mul_assoc, hA]
  unfold divV
  rw [if_neg (by omega), hU, hW, hN]
  by_cases hd : A * 10 ^ g % W = 0
  · rw [if_pos hd]
    obtain ⟨V, hV⟩ : ∃ V, A * 10 ^ g / W = V := ⟨_, rfl⟩
    have hVW : W * V = A * 10 ^ g := by rw [← hV, Nat.mul_div_cancel' (Nat.dvd_of_mod_eq_zero hd)]
    have hBV : B * V = A * 10 ^ (g + q) := by
      rw [← hB, Nat.mul_assoc, Nat.mul_comm (10 ^ q) V, ← Nat.mul_assoc, hVW, Nat.mul_assoc, ← Nat.pow_add]
    rw [hV]
    refine ⟨V, g + q, by rw [show (p : Int) - q - 42 = -((g + q : Nat) : Int) by omega], by omega, by omega, by omega, by rw [Nat.mul_add]; omega, fun h0 => ?_⟩
    have h1 := Nat.div_add_mod A B
    rw [h0, Nat.add_zero] at h1
    have h2 : B * V = B * (A / B * 10 ^ (g + q)) := by rw [hBV, ← Nat.mul_assoc, h1]
    exact Nat.eq_of_mul_eq_mul_left hB0 h2
  · rw [if_neg hd]
    obtain ⟨c, hc⟩ : ∃ c, A * 10 ^ g / W = c := ⟨_, rfl⟩
    have h1 := Nat.div_add_mod (A * 10 ^ g) W
    have h2 := Nat.mod_lt (A * 10 ^ g) hW0
    rw [hc] at h1
    have hAK : A * 10 ^ (g + q + 1) = 10 * (A * 10 ^ g) * 10 ^ q := by
      rw [show g + q + 1 = g + (q + 1) by omega, Nat.pow_add, Nat.pow_succ, Nat.mul_comm (10 ^ q) 10, ← Nat.mul_assoc, ← Nat.mul_assoc, Nat.mul_comm 10 (A * 10 ^ g)]
    have hlo : W * c ≤ A * 10 ^ g := by omega
    have hhi : A * 10 ^ g < W * (c + 1) := by rw [Nat.mul_add]; omega
    have hBc : B * (10 * c) = 10 * (W * c) * 10 ^ q := by
      rw [← hB, Nat.mul_assoc W, Nat.mul_comm (10 ^ q), ← Nat.mul_assoc, Nat.mul_left_comm W 10 c]
    have hBc1 : B * (10 * (c + 1)) = 10 * (W * (c + 1)) * 10 ^ q := by
      rw [← hB, Nat.mul_assoc W, Nat.mul_comm (10 ^ q), ← Nat.mul_assoc, Nat.mul_left_comm W 10 (c + 1)]
    have hlo2 : B * (10 * c) ≤ A * 10 ^ (g + q + 1) := by
      rw [hBc, hAK]; exact Nat.mul_le_mul_right _ (Nat.mul_le_mul_left 10 hlo)
    have hhi2 : A * 10 ^ (g + q + 1) < B * (10 * (c + 1)) := by
      rw [hBc1, hAK]; exact Nat.mul_lt_mul_of_pos_right (by omega) hq0
    rw [hc]
    refine ⟨10 * c + 1, g + q + 1, by rw [show (p : Int) - q - 43 = -((g + q + 1 : Nat) : Int) by omega], by omega, by omega, by rw [Nat.mul_add, Nat.mul_one]; omega, ?_, fun h0 => ?_⟩
    · exact Nat.lt_of_lt_of_le hhi2 (Nat.mul_le_mul_left B (by omega))
    · exfalso
      apply hd
      have h3 := Nat.div_add_mod A B
      rw [h0, Nat.add_zero] at h3
      have h4 : A * 10 ^ g = W * (10 ^ q * (A / B) * 10 ^ g) := by
        rw [← Nat.mul_assoc, ← Nat.mul_assoc, hB, h3]
      rw [h4, Nat.mul_mod_right]
theorem quot_sign {a b : Int} {n m : Bool} {u v : ByteArray} {x y : Int} (ha : IntNum a n u x) (hb : IntNum b m v y) (hb0 : b ≠ 0) (z : Int) : formV (n != m) (a.natAbs / b.natAbs) z = formV (decide (a.tdiv b < 0)) (a.tdiv b).natAbs z := by
  have e : (a.tdiv b).natAbs = a.natAbs / b.natAbs := by rw [Int.natAbs_tdiv]; rfl
  rw [← e]
  by_cases h0 : a.tdiv b = 0
  · rw [h0]; simp only [Int.natAbs_zero, nought_form]
  · rw [ha.sign, hb.sign]
    congr 1
    by_cases s1 : a < 0 <;> by_cases s2 : b < 0
    · have h := Int.tdiv_nonneg (show 0 ≤ -a by omega) (show 0 ≤ -b by omega)
      rw [Int.neg_tdiv, Int.tdiv_neg] at h
      rw [decide_eq_true s1, decide_eq_true s2, decide_eq_false (by omega)]; rfl
    · have h := Int.tdiv_nonneg (show 0 ≤ -a by omega) (show 0 ≤ b by omega)
      rw [Int.neg_tdiv] at h
      rw [decide_eq_true s1, decide_eq_false s2, decide_eq_true (by omega)]; rfl
    · have h := Int.tdiv_nonneg (show 0 ≤ a by omega) (show 0 ≤ -b by omega)
      rw [Int.tdiv_neg] at h
      rw [decide_eq_false s1, decide_eq_true s2, decide_eq_true (by omega)]; rfl
    · have h := Int.tdiv_nonneg (show 0 ≤ a by omega) (show 0 ≤ b by omega)
      rw [decide_eq_false s1, decide_eq_false s2, decide_eq_false (by omega)]; rfl
/-- a quotient of ints: the number, and what is before its point -/
theorem div_int {a b : Int} {n m : Bool} {u v : ByteArray} {x y : Int} (ha : IntNum a n u x) (hb : IntNum b m v y) (hb0 : b ≠ 0) (hA2 : a.natAbs ≤ 2000000) (hB2 : b.natAbs ≤ 2000000) :
    ∃ (N : Bool) (w : ByteArray) (z : Int), divV n u x m v y = .tuple #[.agg #[.bool N, .string w, .int .i64 z], .int .i64 0] ∧ decOk N (bs w) z = true ∧ w.size ≤ 20 ∧
      ((0 ≤ z ∧ formV (decide (a.tdiv b < 0)) (a.tdiv b).natAbs 0 = .tuple #[.agg #[.bool N, .string w, .int .i64 z], .int .i64 0]) ∨ (z < 0 ∧ -1000 ≤ z ∧ (w.size : Int) + z ≤ 0 ∧ a.tdiv b = 0) ∨
        (z < 0 ∧ 0 < (w.size : Int) + z ∧ cutV N w z = formV (decide (a.tdiv b < 0)) (a.tdiv b).natAbs 0)) := by
  obtain ⟨V, K, hV, hK1, hK2, h1, h2, h3⟩ := div_value ha hb hb0
  have hqs := quot_sign ha hb hb0
  have hqn : (a.tdiv b).natAbs = a.natAbs / b.natAbs := by rw [Int.natAbs_tdiv]; rfl
  obtain ⟨A, hA⟩ : ∃ A, a.natAbs = A := ⟨_, rfl⟩
  obtain ⟨B, hB⟩ : ∃ B, b.natAbs = B := ⟨_, rfl⟩
  rw [hA, hB] at h1 h2 h3 hqs hqn
  rw [hA] at hA2
  rw [hB] at hB2
  have hB0 : 0 < B := by omega
  rw [hV]
  by_cases hd : A % B = 0
  · rw [h3 hd]
    have ht := formV_tens (n != m) (A / B) 0 K
    rw [show (0 : Int) - (K : Int) = -(K : Int) by omega] at ht
    rw [ht, hqs 0]
    have hlt : (a.tdiv b).natAbs < 10 ^ 20 := by
      rw [hqn]
      exact Nat.lt_of_le_of_lt (Nat.div_le_self A B) (Nat.lt_of_le_of_lt hA2 (by decide))
    obtain ⟨N, w, z, hI⟩ := int_num (a.tdiv b) hlt
    exact ⟨N, w, z, hI.form, hI.ok, hI.size, .inl ⟨hI.x0, hI.form⟩⟩
  · have hP1 : 1 ≤ 10 ^ fM V := Nat.one_le_pow _ _ (by decide)
    have hV0 : V ≠ 0 := by
      intro e
      rw [e, Nat.zero_add] at h2
      have hA1 : 1 ≤ A := by
        rcases Nat.eq_zero_or_pos A with e1 | e1
        · rw [e1, Nat.zero_mod] at hd; exact absurd rfl hd
        · exact e1
      have h5 : 10 ^ 22 ≤ 10 ^ K := Nat.pow_le_pow_right (by decide) hK1
      have h6 : 1 * 10 ^ K ≤ A * 10 ^ K := Nat.mul_le_mul_right _ hA1
      have h7 : (10 : Nat) ^ 22 = 10000000000000000000000 := by decide
      omega
    -- how many digits
    have hlen : (dec V).length ≤ K + 7 := by
      apply dec_len_le _ _ (by omega)
      have h5 : B * V ≤ B * (A * 10 ^ K + 1) := by
        rw [Nat.mul_add, Nat.mul_one]
        have : A * 10 ^ K ≤ B * (A * 10 ^ K) := Nat.le_mul_of_pos_left _ hB0
        omega
      have h6 : V ≤ A * 10 ^ K + 1 := Nat.le_of_mul_le_mul_left h5 hB0
      have h7 : A * 10 ^ K ≤ 2000000 * 10 ^ K := Nat.mul_le_mul_right _ hA2
      have h8 : 1 ≤ 10 ^ K := Nat.one_le_pow _ _ (by decide)
      rw [Nat.pow_add, show (10 : Nat) ^ 7 = 10000000 by decide, Nat.mul_comm]
      omega
    have hM : fM V + 12 ≤ K := by unfold fM; omega
    obtain ⟨k, hk⟩ : ∃ k, K = fM V + k := ⟨K - fM V, by omega⟩
    have hk12 : 12 ≤ k := by omega
    have hD : 1000000000000 ≤ 10 ^ k := by
      have h5 : 10 ^ 12 ≤ 10 ^ k := Nat.pow_le_pow_right (by decide) hk12
      have h6 : (10 : Nat) ^ 12 = 1000000000000 := by decide
      omega
    have hQ : 10 ^ fM V * 10 ^ k = 10 ^ K := by rw [← Nat.pow_add, hk]
    have r1 := roundV_le V (fM V)
    have r2 := roundV_ge V (fM V)
    have h4 : fR V * 10 ^ fM V ≤ V + 10 ^ fM V := by
      have h5 : fR V * 10 ^ fM V ≤ (V / 10 ^ fM V + 1) * 10 ^ fM V := Nat.mul_le_mul_right _ r1
      rw [Nat.add_mul, Nat.one_mul] at h5
      have h6 := Nat.div_mul_le_self V (10 ^ fM V)
      omega
    have h5 : V < (fR V + 1) * 10 ^ fM V := by
      have h6 : (V / 10 ^ fM V + 1) * 10 ^ fM V ≤ (fR V + 1) * 10 ^ fM V := Nat.mul_le_mul_right _ (by unfold fR; omega)
      have h7 := Nat.lt_div_mul_add (a := V) hP1
      rw [Nat.add_mul, Nat.one_mul] at h6
      omega
    obtain ⟨t1, t2⟩ := trunc_core hB0 hB2 hP1 hD hQ h1 h2 h4 h5 hd
    obtain ⟨hsp, -⟩ := fT_split V
    have hfl := fT_len V
    have hval : val (fT V) * 10 ^ fK V = fR V := by rw [← val_zs, ← hsp, val_dec]
    have hRl : (dec (fR V)).length ≤ 21 := by
      apply dec_len_le _ _ (by decide)
      have := fR_le V
      have h6 : (10 : Nat) ^ 20 < 10 ^ 21 := by decide
      omega
    have hRp := dec_len (fR V)
    have hfk : fK V < k := by
      apply Classical.byContradiction
      intro hn
      apply t2
      obtain ⟨j, hj⟩ : ∃ j, fK V = k + j := ⟨fK V - k, by omega⟩
      rw [← hval, hj, Nat.pow_add, ← Nat.mul_assoc, Nat.mul_right_comm, Nat.mul_mod_left]
    have hfe : fE V (-(K : Int)) = (fK V : Int) - (k : Int) := by unfold fE; rw [hk]; omega
    have hform : formV (n != m) V (-(K : Int)) = numV (n != m) (fT V) ((fK V : Int) - (k : Int)) 0 := by
      have hfh : fH V (-(K : Int)) = ((dec (fR V)).length : Int) - (k : Int) - 1 := by unfold fH; rw [hfe]; omega
      unfold formV
      rw [if_neg hV0, hfh, if_neg (by omega), if_neg (by omega), hfe]
    obtain ⟨n2, w, z, c, hL, hok, hus, -⟩ := formV_lit (n != m) V (-(K : Int))
    have heq := hL
    rw [hform] at heq
    unfold numV at heq
    simp only [Value.tuple.injEq, Array.mk.injEq, List.cons.injEq, Value.agg.injEq, Value.bool.injEq, Value.string.injEq, Value.int.injEq, true_and, and_true] at heq
    obtain ⟨⟨q1, q2, q3⟩, q4⟩ := heq
    subst q1 q2 q3 q4
    refine ⟨n != m, ofL (fT V), (fK V : Int) - (k : Int), hL, hok, hus, ?_⟩
    have hsz := size_ofL (fT V)
    by_cases hz : ((ofL (fT V)).size : Int) + ((fK V : Int) - (k : Int)) ≤ 0
    · refine .inr (.inl ⟨by omega, by omega, hz, ?_⟩)
      have h6 : (dec (fR V)).length ≤ k := by omega
      have h7 := dec_lt (fR V)
      have h8 : 10 ^ (dec (fR V)).length ≤ 10 ^ k := Nat.pow_le_pow_right (by decide) h6
      rw [Nat.div_eq_of_lt (Nat.lt_of_lt_of_le h7 h8)] at t1
      rw [← t1] at hqn
      exact Int.natAbs_eq_zero.1 hqn
    · refine .inr (.inr ⟨by omega, by omega, ?_⟩)
      obtain ⟨j, hj⟩ : ∃ j : Nat, ((ofL (fT V)).size : Int) + ((fK V : Int) - (k : Int)) = (j : Int) := ⟨(((ofL (fT V)).size : Int) + ((fK V : Int) - (k : Int))).toNat, by omega⟩
      unfold cutV
      rw [hj, Int.toNat_natCast, bs_ofL, take_div (fT V) j (fT_all V) (by omega), ← hqs 0, ← t1, ← hval]
      congr 1
      have h6 : (fT V).length - j = k - fK V := by omega
      rw [h6]
      have h7 : (10 : Nat) ^ k = 10 ^ (k - fK V) * 10 ^ fK V := by rw [← Nat.pow_add]; congr 1; omega
      rw [h7, Nat.mul_div_mul_right _ _ (Nat.pow_pos (by decide))]
end Go.Proofs.YtjjpdoabagnmoaaGreatDoor
