/-
  The contracts of both sides' quotients. Condition: numbers in form.
-/
import Derived.Test.YtjjpdoabagnmoaaDoorThree
import Derived.Test.YtjjpdoabagnmoaaDoorNatDiv
namespace Go.Proofs.YtjjpdoabagnmoaaDoor
open Go.RowKit
set_option linter.unusedVariables false
set_option linter.unusedSimpArgs false

/-- a quotient -/
def divV (n : Bool) (s : ByteArray) (x : Int) (m : Bool) (t : ByteArray) (y : Int) : Value :=
  if t.size = 0 then numV false [] 0 2
  else if val (bs s) * 10 ^ 42 % val (bs t) = 0 then formV (n != m) (val (bs s) * 10 ^ 42 / val (bs t)) (x - y - 42) else formV (n != m) (10 * (val (bs s) * 10 ^ 42 / val (bs t)) + 1) (x - y - 43)
theorem divV_lit (n : Bool) (s : ByteArray) (x : Int) (m : Bool) (t : ByteArray) (y : Int) : ∃ (n' : Bool) (u : ByteArray) (y' c : Int), divV n s x m t y = .tuple #[.agg #[.bool n', .string u, .int .i64 y'], .int .i64 c] := by
  unfold divV
  split
  · exact ⟨_, _, _, _, rfl⟩
  · split
    · obtain ⟨n', u, y', c, hV, -⟩ := formV_lit (n != m) (val (bs s) * 10 ^ 42 / val (bs t)) (x - y - 42)
      exact ⟨n', u, y', c, hV⟩
    · obtain ⟨n', u, y', c, hV, -⟩ := formV_lit (n != m) (10 * (val (bs s) * 10 ^ 42 / val (bs t)) + 1) (x - y - 43)
      exact ⟨n', u, y', c, hV⟩

theorem decDiv_zero (n : Bool) (s : ByteArray) (x : Int) (m : Bool) (t : ByteArray) (y : Int) (w : World) (h1 : decOk n (bs s) x = true) (h2 : decOk m (bs t) y = true) (h0 : t.size = 0) :
    Calls Tryd.prog 46 #[.agg #[.bool n, .string s, .int .i64 x], .agg #[.bool m, .string t, .int .i64 y]] w fun e w' => e = .returned (divV n s x m t y) ∧ Below w.heap.size w w' := by
  have hemp := isEmpty_yes h0
  unfold divV
  rw [if_pos h0]
  have hn0 : ¬ (w.heap.size = w.heap.size + 1 + 1) := by omega
  have hn1 : ¬ (w.heap.size + 1 + 1 = w.heap.size) := by omega
  go_enter Tryd.func46, Tryd.ntmps46
  go_wp2_with fail
  refine bodyPost_ret (v := .tuple #[.agg #[.bool false, .string ⟨#[]⟩, .int .i64 0], .int .i64 2]) (by simp [results, Tryd.results46, go_sem, *]) rfl ?_
  refine ⟨rfl, ?_⟩
  go_light
  (repeat (first | exact Below.refl _ _ | assumption | refine Below.drew ?_ | refine below_drewN ?_ _ | (refine Below.alloc ?_ (by first | exact Nat.le_refl _ | (simp; done) | (simp; omega) | (simp at *; omega)) _) | (refine Below.setCell ?_ (by first | exact Nat.le_refl _ | (simp; done) | (simp; omega)) _) | (refine Below.trans ?_ (Below.mono (by assumption) (by first | exact Nat.le_refl _ | (simp; done) | (simp; omega) | (simp at *; omega))))))

set_option maxRecDepth 10000 in
set_option maxHeartbeats 2000000 in
theorem decDiv_any (n : Bool) (s : ByteArray) (x : Int) (m : Bool) (t : ByteArray) (y : Int) (w : World) (h1 : decOk n (bs s) x = true) (h2 : decOk m (bs t) y = true) (h0 : 0 < t.size) :
    Calls Tryd.prog 46 #[.agg #[.bool n, .string s, .int .i64 x], .agg #[.bool m, .string t, .int .i64 y]] w fun e w' => e = .returned (divV n s x m t y) ∧ Below w.heap.size w w' := by
  obtain ⟨a1, a2, a3, a4, a5, a6, a7, -, -⟩ := dec_facts h1
  obtain ⟨b1, b2, b3, b4, b5, b6, b7, -, -⟩ := dec_facts h2
  have hB0 := (dec_facts h2).2.2.2.2.2.2.2.2 h0
  have hB20 := val_20 h2
  have hA20 := val_20 h1
  have hdt := dg_some h0
  have hemp := isEmpty_no h0
  rw [hdt] at b4 b5 b6 b7
  obtain ⟨A, hA⟩ : ∃ A, val (bs s) = A := ⟨_, rfl⟩
  obtain ⟨B, hB⟩ : ∃ B, val (bs t) = B := ⟨_, rfl⟩
  rw [hA] at a5 hA20
  rw [hB] at b5 hB0 hB20
  obtain ⟨N, hN⟩ : ∃ N, A * 10 ^ 45 = N := ⟨_, rfl⟩
  obtain ⟨Q, hQ⟩ : ∃ Q, N / B = Q := ⟨_, rfl⟩
  obtain ⟨R, hR⟩ : ∃ R, N % B = R := ⟨_, rfl⟩
  have hNl : (dec N).length ≤ 65 := by
    rw [← hN]
    refine dec_len_le 65 _ (by decide) ?_
    rw [show (65 : Nat) = 20 + 45 from rfl, Nat.pow_add]
    exact Nat.mul_lt_mul_of_pos_right hA20 (Nat.pow_pos (by decide))
  have hQl : (dec Q).length ≤ 65 := Nat.le_trans (dec_mono (by rw [← hQ]; exact Nat.div_le_self _ _)) hNl
  have hsN := size_ofL (dec N)
  have hsQ := size_ofL (dec Q)
  have hsZ := size_ofL (zs 42)
  rw [zs_len] at hsZ
  have hDV : divV n s x m t y = if R = 0 then formV (n != m) Q (x - y - 45) else formV (n != m) (10 * Q + 1) (x - y - 46) := by
    unfold divV
    rw [if_neg (by omega), hA, hB]
    have e := div_same (n != m) A B (x - y) hB0 hB20
    rw [hN, hQ, hR] at e
    exact e.symm
  have wx : IntKind.i64.wrap (x - y) = x - y := IntWalk.i64_in _ (by omega)
  have wy : IntKind.i64.wrap (x - y - 45) = x - y - 45 := IntWalk.i64_in _ (by omega)
  have wz : IntKind.i64.wrap (x - y - 46) = x - y - 46 := IntWalk.i64_in _ (by omega)
  have n1 : ¬ (9223372036854775807 < (dec Q).length + 1) := by omega
  have n2 : ¬ (9223372036854775807 < (dg s).size + 42) := by omega
  rw [hDV]
  have hn0 : ¬ (w.heap.size = w.heap.size + 1 + 1) := by omega
  have hn1 : ¬ (w.heap.size + 1 + 1 = w.heap.size) := by omega
  by_cases hR0 : R = 0
  · rw [if_pos hR0]
    have hzb : ((ofL (dec R)).toList == [48]) = true := by
      rw [toList_bs, bs_ofL]
      rw [hR0, dec_zero]; rfl
    obtain ⟨n', u, y', c, hV, -, -, -⟩ := formV_lit (n != m) Q (x - y - 45)
    have hS := Lib.hid (fun w => by
      have := natShift_any (dg s) 45 w a4 (by omega) (by omega)
      rw [a5, hN] at this
      exact this : ∀ w : World, Calls Tryd.prog 83 #[.string (dg s), .int .i64 45] w fun e w' => e = .returned (.string (ofL (dec N))) ∧ Below w.heap.size w w')
    have hD := Lib.hid (fun w => by
      have := natDiv_any (ofL (dec N)) t w (by rw [bs_ofL]; exact dec_all N) b4 (by omega) (by omega) (by rw [hB]; exact hB0)
      rw [bs_ofL, val_dec, hB, hQ, hR] at this
      exact this : ∀ w : World, Calls Tryd.prog 82 #[.string (ofL (dec N)), .string t] w fun e w' => e = .returned (.tuple #[.string (ofL (dec Q)), .string (ofL (dec R))]) ∧ Below w.heap.size w w')
    have hF := Lib.hid (fun w => by
      have := normal_dec (n != m) Q (x - y - 45) w (by omega) (by omega) (by omega)
      rw [hV] at this
      exact this : ∀ w : World, Calls Tryd.prog 54 #[.bool (n != m), .string (ofL (dec Q)), .int .i64 (x - y - 45)] w fun e w' => e = .returned (.tuple #[.agg #[.bool n', .string u, .int .i64 y'], .int .i64 c]) ∧ Below w.heap.size w w')
    rw [hV]
    clear a4 a5 b4 b5 hB0 hB20 hA20 hdt hA hB hN hQ hR hNl hQl hsN hV hDV hR0 h0
    clear h1 h2
    go_enter Tryd.func46, Tryd.ntmps46
    go_wp2_with fail
    obtain ⟨w0, hw0, hz0, hb0, hc0, hr0⟩ := three_laid w n s x m t y
    rw [hw0]
    clear hw0
    go_region_held3 (fun w' => w'.cell? ⟨w.heap.size, 0, none⟩ = some (.bool n) ∧ w'.cell? ⟨w.heap.size, 1, none⟩ = some (.string s) ∧ w'.cell? ⟨w.heap.size, 2, none⟩ = some (.int .i64 x) ∧ w'.cell? ⟨w.heap.size + 1, 0, none⟩ = some (.bool m) ∧ w'.cell? ⟨w.heap.size + 1, 1, none⟩ = some (.string t) ∧ w'.cell? ⟨w.heap.size + 1, 2, none⟩ = some (.int .i64 y)) (first | assumption | go_keep)
      (first
        | (go_at_call 79; refine (digits_any _ _ _ _).mono ?_; rintro e w1 ⟨rfl, hb1⟩; obtain ⟨hv1, hz1, hc1, hr1⟩ := three_kept hb1 (by assumption) (v := w) (by first | assumption | exact Below.drew (by assumption)) (by assumption) (by assumption); clear hb1)
        | (go_at_call 83; refine (hS.out _).mono ?_; rintro e w1 ⟨rfl, hb1⟩; obtain ⟨hv1, hz1, hc1, hr1⟩ := three_kept hb1 (by assumption) (v := w) (by first | assumption | exact Below.drew (by assumption)) (by assumption) (by assumption); clear hb1)
        | (go_at_call 82; refine (hD.out _).mono ?_; rintro e w1 ⟨rfl, hb1⟩; obtain ⟨hv1, hz1, hc1, hr1⟩ := three_kept hb1 (by assumption) (v := w) (by first | assumption | exact Below.drew (by assumption)) (by assumption) (by assumption); clear hb1))
    go_wp2_with fail
    refine (hF.out _).mono ?_
    rintro e w9 ⟨rfl, hb9⟩
    obtain ⟨hv9, hz9, hc9, hr9⟩ := three_kept hb9 (by assumption) (v := w) (by assumption) (by assumption) (by assumption)
    clear hb9
    clear hS hD hF
    go_wp2
    refine bodyPost_ret (v := .tuple #[.agg #[.bool n', .string u, .int .i64 y'], .int .i64 c]) (by simp [results, Tryd.results46, go_sem, *]) rfl ?_
    exact ⟨rfl, set_three (by assumption) (by omega) _ _ _⟩
  · rw [if_neg hR0]
    have hzb : ((ofL (dec R)).toList == [48]) = false := by
      rw [toList_bs, bs_ofL]
      refine beq_eq_false_iff_ne.2 fun e => hR0 ?_
      rw [← val_dec R, e]; rfl
    obtain ⟨n', u, y', c, hV, -, -, -⟩ := formV_lit (n != m) (10 * Q + 1) (x - y - 46)
    have hS := Lib.hid (fun w => by
      have := natShift_any (dg s) 45 w a4 (by omega) (by omega)
      rw [a5, hN] at this
      exact this : ∀ w : World, Calls Tryd.prog 83 #[.string (dg s), .int .i64 45] w fun e w' => e = .returned (.string (ofL (dec N))) ∧ Below w.heap.size w w')
    have hD := Lib.hid (fun w => by
      have := natDiv_any (ofL (dec N)) t w (by rw [bs_ofL]; exact dec_all N) b4 (by omega) (by omega) (by rw [hB]; exact hB0)
      rw [bs_ofL, val_dec, hB, hQ, hR] at this
      exact this : ∀ w : World, Calls Tryd.prog 82 #[.string (ofL (dec N)), .string t] w fun e w' => e = .returned (.tuple #[.string (ofL (dec Q)), .string (ofL (dec R))]) ∧ Below w.heap.size w w')
    have hF := Lib.hid (fun w => by
      have e1 : bs (ofL (dec Q) ++ (⟨#[49]⟩ : ByteArray)) = dec Q ++ [49] := by rw [bs_app, bs_ofL]
      have e2 : (ofL (dec Q) ++ (⟨#[49]⟩ : ByteArray)).size = (dec Q).length + 1 := by rw [← bs_length, e1, List.length_append]; rfl
      have e3 : val (dec Q ++ [49]) = 10 * Q + 1 := by rw [val_snoc, val_dec]; rfl
      have := normal_any (n != m) (ofL (dec Q) ++ (⟨#[49]⟩ : ByteArray)) (x - y - 46) w (by rw [e1, List.all_append, dec_all]; rfl) (by omega) (by omega) (by omega)
      rw [e1, e3, hV] at this
      exact this : ∀ w : World, Calls Tryd.prog 54 #[.bool (n != m), .string (ofL (dec Q) ++ (⟨#[49]⟩ : ByteArray)), .int .i64 (x - y - 46)] w fun e w' => e = .returned (.tuple #[.agg #[.bool n', .string u, .int .i64 y'], .int .i64 c]) ∧ Below w.heap.size w w')
    rw [hV]
    clear a4 a5 b4 b5 hB0 hB20 hA20 hdt hA hB hN hQ hR hNl hQl hsN hV hDV hR0 h0
    clear h1 h2
    go_enter Tryd.func46, Tryd.ntmps46
    go_wp2_with fail
    obtain ⟨w0, hw0, hz0, hb0, hc0, hr0⟩ := three_laid w n s x m t y
    rw [hw0]
    clear hw0
    go_region_held3 (fun w' => w'.cell? ⟨w.heap.size, 0, none⟩ = some (.bool n) ∧ w'.cell? ⟨w.heap.size, 1, none⟩ = some (.string s) ∧ w'.cell? ⟨w.heap.size, 2, none⟩ = some (.int .i64 x) ∧ w'.cell? ⟨w.heap.size + 1, 0, none⟩ = some (.bool m) ∧ w'.cell? ⟨w.heap.size + 1, 1, none⟩ = some (.string t) ∧ w'.cell? ⟨w.heap.size + 1, 2, none⟩ = some (.int .i64 y)) (first | assumption | go_keep)
      (first
        | (go_at_call 79; refine (digits_any _ _ _ _).mono ?_; rintro e w1 ⟨rfl, hb1⟩; obtain ⟨hv1, hz1, hc1, hr1⟩ := three_kept hb1 (by assumption) (v := w) (by first | assumption | exact Below.drew (by assumption)) (by assumption) (by assumption); clear hb1)
        | (go_at_call 83; refine (hS.out _).mono ?_; rintro e w1 ⟨rfl, hb1⟩; obtain ⟨hv1, hz1, hc1, hr1⟩ := three_kept hb1 (by assumption) (v := w) (by first | assumption | exact Below.drew (by assumption)) (by assumption) (by assumption); clear hb1)
        | (go_at_call 82; refine (hD.out _).mono ?_; rintro e w1 ⟨rfl, hb1⟩; obtain ⟨hv1, hz1, hc1, hr1⟩ := three_kept hb1 (by assumption) (v := w) (by first | assumption | exact Below.drew (by assumption)) (by assumption) (by assumption); clear hb1))
    go_wp2_with fail
    refine (hF.out _).mono ?_
    rintro e w9 ⟨rfl, hb9⟩
    obtain ⟨hv9, hz9, hc9, hr9⟩ := three_kept hb9 (by assumption) (v := w) (by assumption) (by assumption) (by assumption)
    clear hb9
    clear hS hD hF
    go_wp2
    refine bodyPost_ret (v := .tuple #[.agg #[.bool n', .string u, .int .i64 y'], .int .i64 c]) (by simp [results, Tryd.results46, go_sem, *]) rfl ?_
    exact ⟨rfl, set_three (by assumption) (by omega) _ _ _⟩


end Go.Proofs.YtjjpdoabagnmoaaDoor
