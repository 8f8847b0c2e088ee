/-
  The contract of impl.decMul. Condition: numbers in form.
-/
import Derived.Test.YtjjpdoabagnmoaaDoorThree
import Derived.Test.YtjjpdoabagnmoaaDoorNatMul
namespace Go.Proofs.YtjjpdoabagnmoaaDoor
open Go.RowKit
set_option linter.unusedVariables false
set_option linter.unusedSimpArgs false

/-- a product -/
def mulV (n : Bool) (s : ByteArray) (x : Int) (m : Bool) (t : ByteArray) (y : Int) : Value := formV (n != m) (val (bs s) * val (bs t)) (x + y)

set_option maxRecDepth 10000 in
set_option maxHeartbeats 1000000 in
theorem decMul_any (n : Bool) (s : ByteArray) (x : Int) (m : Bool) (t : ByteArray) (y : Int) (w : World) (h1 : decOk n (bs s) x = true) (h2 : decOk m (bs t) y = true) :
    Calls Tryd.prog 40 #[.agg #[.bool n, .string s, .int .i64 x], .agg #[.bool m, .string t, .int .i64 y]] w fun e w' => e = .returned (mulV n s x m t y) ∧ Below w.heap.size w w' := by
  obtain ⟨a1, a2, a3, a4, a5, a6, a7, -, -⟩ := dec_facts h1
  obtain ⟨b1, b2, b3, b4, b5, b6, b7, -, -⟩ := dec_facts h2
  have hA := dec_mul_len (val (bs s)) (val (bs t))
  have hA1 := dec_len_le 20 _ (by decide) (val_20 h1)
  have hB1 := dec_len_le 20 _ (by decide) (val_20 h2)
  obtain ⟨n', u, y', c, hV, -, -, -⟩ := formV_lit (n != m) (val (bs s) * val (bs t)) (x + y)
  have hM := Lib.hid (fun w => by
    have := natMul_any (dg s) (dg t) w a4.dig b4.dig (by omega) (by omega)
    rw [a5, b5] at this
    exact this : ∀ w : World, Calls Tryd.prog 78 #[.string (dg s), .string (dg t)] w fun e w' => e = .returned (.string (ofL (dec (val (bs s) * val (bs t))))) ∧ Below w.heap.size w w')
  have hN := Lib.hid (fun w => by
    have := normal_dec (n != m) (val (bs s) * val (bs t)) (x + y) w (by omega) (by omega) (by omega)
    rw [hV] at this
    exact this : ∀ w : World, Calls Tryd.prog 54 #[.bool (n != m), .string (ofL (dec (val (bs s) * val (bs t)))), .int .i64 (x + y)] w fun e w' => e = .returned (.tuple #[.agg #[.bool n', .string u, .int .i64 y'], .int .i64 c]) ∧ Below w.heap.size w w')
  have wx : IntKind.i64.wrap (x + y) = x + y := IntWalk.i64_in _ (by omega)
  unfold mulV
  rw [hV]
  clear h1 h2 a4 b4 a5 b5 hA hA1 hB1 hV
  go_enter Tryd.func40, Tryd.ntmps40
  go_wp2_with fail
  obtain ⟨w0, hw0, hz0, hb0, hc0, hr0⟩ := three_laid w n s x m t y
  rw [hw0]
  clear hw0
  have hn0 : ¬ (w.heap.size = w.heap.size + 1 + 1) := by omega
  have hn1 : ¬ (w.heap.size + 1 + 1 = w.heap.size) := by omega
  go_region_held3 (fun w' => w'.cell? ⟨w.heap.size, 0, none⟩ = some (.bool n) ∧ w'.cell? ⟨w.heap.size, 1, none⟩ = some (.string s) ∧ w'.cell? ⟨w.heap.size, 2, none⟩ = some (.int .i64 x) ∧ w'.cell? ⟨w.heap.size + 1, 0, none⟩ = some (.bool m) ∧ w'.cell? ⟨w.heap.size + 1, 1, none⟩ = some (.string t) ∧ w'.cell? ⟨w.heap.size + 1, 2, none⟩ = some (.int .i64 y)) (first | assumption | go_keep)
    (first
      | (go_at_call 79; refine (digits_any _ _ _ _).mono ?_; rintro e w1 ⟨rfl, hb1⟩; obtain ⟨hv1, hz1, hc1, hr1⟩ := three_kept hb1 (by assumption) (v := w) (by first | assumption | exact Below.drew (by assumption)) (by assumption) (by assumption); clear hb1)
      | (go_at_call 78; refine (hM.out _).mono ?_; rintro e w1 ⟨rfl, hb1⟩; obtain ⟨hv1, hz1, hc1, hr1⟩ := three_kept hb1 (by assumption) (v := w) (by first | assumption | exact Below.drew (by assumption)) (by assumption) (by assumption); clear hb1)
      | (go_at_call 54; refine (hN.out _).mono ?_; rintro e w1 ⟨rfl, hb1⟩; obtain ⟨hv1, hz1, hc1, hr1⟩ := three_kept hb1 (by assumption) (v := w) (by first | assumption | exact Below.drew (by assumption)) (by assumption) (by assumption); clear hb1))
  clear hM hN
  go_wp2
  refine bodyPost_ret (v := .tuple #[.agg #[.bool n', .string u, .int .i64 y'], .int .i64 c]) (by simp [results, Tryd.results40, go_sem, *]) rfl ?_
  exact ⟨rfl, set_three (by assumption) (by omega) _ _ _⟩
end Go.Proofs.YtjjpdoabagnmoaaDoor
