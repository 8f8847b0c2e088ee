/-
  The contracts of both sides' DecOf. Conditions: an int; for the program's the table of strconv stands in memory.
-/
import Derived.Test.YtjjpdoabagnmoaaDoorPowTab
import Derived.Test.YtjjpdoabagnmoaaDoorPair
import Derived.Test.YtjjpdoabagnmoaaDoorDecLaw

namespace Go.Proofs.YtjjpdoabagnmoaaDoor
open Go.RowKit
set_option linter.unusedVariables false
set_option linter.unusedSimpArgs false

set_option maxRecDepth 10000 in
theorem specDecOf_any (x : Int) (w : World) (h0 : -9223372036854775808 ≤ x) (h1 : x ≤ 9223372036854775807) (n' : Bool) (u : ByteArray) (y' c : Int) (hV : formV (decide (x < 0)) x.natAbs 0 = .tuple #[.agg #[.bool n', .string u, .int .i64 y'], .int .i64 c]) :
    Calls Tryd.prog 64 #[.int .i64 x] w fun e w' => e = .returned (.agg #[.bool n', .string u, .int .i64 y']) ∧ Below w.heap.size w w' := by
  obtain ⟨A, hA⟩ : ∃ A : Nat, x.natAbs = A := ⟨_, rfl⟩
  rw [hA] at hV
  have hAl : A ≤ 9223372036854775808 := by omega
  have hl := dec_len A
  have hl2 : (dec A).length ≤ 20 := dec_len_le 20 A (by decide) (by omega)
  obtain ⟨p, hp⟩ : ∃ p, ofL (numL x) = p := ⟨_, rfl⟩
  by_cases hx : x < 0
  · have hdx : decide (x < 0) = true := decide_eq_true hx
    rw [hdx] at hV
    have hNT := Lib.hid (fun w => specNumText_any x w h0 h1)
    rw [hp] at hNT
    have hpb : bs p = 45 :: dec A := by
      have e : numL x = 45 :: dec A := by unfold numL; rw [if_pos hx, hA]
      rw [← hp, bs_ofL, e]
    have hps : p.size = (dec A).length + 1 := by rw [← bs_length, hpb]; rfl
    have hsub : p.extract 1 p.size = ofL (dec A) := bs_inj (by rw [bs_ext, hpb, bs_ofL]; rfl)
    have hp1 : (1 : Int) ≤ (p.size : Int) := by omega
    have hp2 : 1 ≤ p.size := by omega
    have hN := Lib.hid (fun w => by
      have := form_dec true A 0 w (by omega) (by omega) (by omega)
      rw [hV, ← hsub] at this
      exact this : ∀ w : World, Calls Tryd.prog 41 #[.bool true, .string (p.extract 1 p.size), .int .i64 0, .bool false] w fun e w' => e = .returned (.tuple #[.agg #[.bool n', .string u, .int .i64 y'], .int .i64 c]) ∧ Below w.heap.size w w')
    clear hp hsub hV hl hl2 hAl hA hpb hps
    go_enter Tryd.func64, Tryd.ntmps64
    go_wp2_with fail
    refine (hNT.out _).mono ?_
    rintro e w1 ⟨rfl, hb1⟩
    obtain ⟨w0, hw0, hz0, hb0, hc0, hf0⟩ := one_laid w false ⟨#[]⟩ 0
    rw [hw0] at hb1
    obtain ⟨hz1, hc1, hf1⟩ := one_kept hb1 hz0 hc0 hf0
    have hv1 := hb0.trans (hb1.mono hb0.size)
    clear hw0 hz0 hb0 hc0 hf0 hb1
    go_wp2_with fail
    refine (hN.out _).mono ?_
    rintro e w2 ⟨rfl, hb2⟩
    obtain ⟨hz2, hc2, hf2⟩ := one_kept hb2 hz1 hc1 hf1
    have hv2 := hv1.trans (hb2.mono hv1.size)
    clear hz1 hc1 hf1 hv1 hb2
    have hne : ¬ (w.heap.size = w2.heap.size) := Nat.ne_of_lt hz2
    have hne' : ¬ (w2.heap.size = w.heap.size) := Nat.ne_of_gt hz2
    go_wp2
    refine bodyPost_ret (v := .agg #[.bool n', .string u, .int .i64 y']) (by simp [results, Tryd.results64, go_sem, *]) rfl ⟨rfl, ?_⟩
    exact (set_three hv2 (Nat.le_refl w.heap.size) _ _ _).alloc (set_three hv2 (Nat.le_refl w.heap.size) _ _ _).size _
  · have hdx : decide (x < 0) = false := decide_eq_false hx
    rw [hdx] at hV
    have hNT := Lib.hid (fun w => specNumText_any x w h0 h1)
    rw [hp] at hNT
    have hsub : p = ofL (dec A) := by
      have e : numL x = dec A := by unfold numL; rw [if_neg hx, hA]
      rw [← hp, e]
    have hN := Lib.hid (fun w => by
      have := form_dec false A 0 w (by omega) (by omega) (by omega)
      rw [hV, ← hsub] at this
      exact this : ∀ w : World, Calls Tryd.prog 41 #[.bool false, .string (p), .int .i64 0, .bool false] w fun e w' => e = .returned (.tuple #[.agg #[.bool n', .string u, .int .i64 y'], .int .i64 c]) ∧ Below w.heap.size w w')
    clear hp hsub hV hl hl2 hAl hA
    go_enter Tryd.func64, Tryd.ntmps64
    go_wp2_with fail
    refine (hNT.out _).mono ?_
    rintro e w1 ⟨rfl, hb1⟩
    obtain ⟨w0, hw0, hz0, hb0, hc0, hf0⟩ := one_laid w false ⟨#[]⟩ 0
    rw [hw0] at hb1
    obtain ⟨hz1, hc1, hf1⟩ := one_kept hb1 hz0 hc0 hf0
    have hv1 := hb0.trans (hb1.mono hb0.size)
    clear hw0 hz0 hb0 hc0 hf0 hb1
    go_wp2_with fail
    refine (hN.out _).mono ?_
    rintro e w2 ⟨rfl, hb2⟩
    obtain ⟨hz2, hc2, hf2⟩ := one_kept hb2 hz1 hc1 hf1
    have hv2 := hv1.trans (hb2.mono hv1.size)
    clear hz1 hc1 hf1 hv1 hb2
    have hne : ¬ (w.heap.size = w2.heap.size) := Nat.ne_of_lt hz2
    have hne' : ¬ (w2.heap.size = w.heap.size) := Nat.ne_of_gt hz2
    go_wp2
    refine bodyPost_ret (v := .agg #[.bool n', .string u, .int .i64 y']) (by simp [results, Tryd.results64, go_sem, *]) rfl ⟨rfl, ?_⟩
    exact (set_three hv2 (Nat.le_refl w.heap.size) _ _ _).alloc (set_three hv2 (Nat.le_refl w.heap.size) _ _ _).size _

end Go.Proofs.YtjjpdoabagnmoaaDoor
