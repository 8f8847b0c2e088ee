/-
  One number and a result's place, as a function on a number lays them; what of it a call leaves. No condition.
-/
import Derived.Test.YtjjpdoabagnmoaaDoorDecTwo
namespace Go.Proofs.YtjjpdoabagnmoaaDoor
open Go.RowKit
set_option linter.unusedVariables false
set_option linter.unusedSimpArgs false

theorem pair_laid (w : World) (n : Bool) (s : ByteArray) (x : Int) :
    ∃ w0, (w.alloc (Obj.cells #[.bool n, .string s, .int .i64 x] 23)).alloc (Obj.cells #[.bool false, .string ⟨#[]⟩, .int .i64 0] 23) = w0 ∧
      (w.heap.size < w0.heap.size ∧ w.heap.size + 1 < w0.heap.size) ∧ Below w.heap.size w w0 ∧
      (w0.cell? ⟨w.heap.size, 0, none⟩ = some (.bool n) ∧ w0.cell? ⟨w.heap.size, 1, none⟩ = some (.string s) ∧ w0.cell? ⟨w.heap.size, 2, none⟩ = some (.int .i64 x)) ∧
      ((w0.cell? ⟨w.heap.size + 1, 0, none⟩ = some (.bool false) ∧ w0.cell? ⟨w.heap.size + 1, 1, none⟩ = some (.string ⟨#[]⟩) ∧ w0.cell? ⟨w.heap.size + 1, 2, none⟩ = some (.int .i64 0)) ∧
        (w0.frozen? ⟨w.heap.size + 1, 0, none⟩ = false ∧ w0.frozen? ⟨w.heap.size + 1, 1, none⟩ = false ∧ w0.frozen? ⟨w.heap.size + 1, 2, none⟩ = false)) := by
  obtain ⟨u, hu, hz, hb, hc, -⟩ := one_laid w n s x
  have hus : u.heap.size = w.heap.size + 1 := by rw [← hu]; simp
  obtain ⟨w0, hw0, hz0, hb0, hc0, hf0⟩ := one_laid u false ⟨#[]⟩ 0
  obtain ⟨c, -⟩ := bcell hb0
  rw [hus] at hz0 hc0 hf0
  refine ⟨w0, by rw [hu]; exact hw0, ⟨by omega, by omega⟩, hb.trans (hb0.mono hb.size), ?_, hc0, hf0⟩
  rw [c _ 0 hz, c _ 1 hz, c _ 2 hz]
  exact hc
theorem pair_kept {w w1 : World} {p r : Nat} {n : Bool} {s : ByteArray} {x : Int} {v0 v1 v2 : Value} (hb : Below w.heap.size w w1) (hp : p < w.heap.size ∧ r < w.heap.size) {v : World} (hv : Below v.heap.size v w)
    (h : w.cell? ⟨p, 0, none⟩ = some (.bool n) ∧ w.cell? ⟨p, 1, none⟩ = some (.string s) ∧ w.cell? ⟨p, 2, none⟩ = some (.int .i64 x))
    (h' : (w.cell? ⟨r, 0, none⟩ = some v0 ∧ w.cell? ⟨r, 1, none⟩ = some v1 ∧ w.cell? ⟨r, 2, none⟩ = some v2) ∧ (w.frozen? ⟨r, 0, none⟩ = false ∧ w.frozen? ⟨r, 1, none⟩ = false ∧ w.frozen? ⟨r, 2, none⟩ = false)) :
    Below v.heap.size v w1 ∧ (p < w1.heap.size ∧ r < w1.heap.size) ∧
    (w1.cell? ⟨p, 0, none⟩ = some (.bool n) ∧ w1.cell? ⟨p, 1, none⟩ = some (.string s) ∧ w1.cell? ⟨p, 2, none⟩ = some (.int .i64 x)) ∧
    ((w1.cell? ⟨r, 0, none⟩ = some v0 ∧ w1.cell? ⟨r, 1, none⟩ = some v1 ∧ w1.cell? ⟨r, 2, none⟩ = some v2) ∧ (w1.frozen? ⟨r, 0, none⟩ = false ∧ w1.frozen? ⟨r, 1, none⟩ = false ∧ w1.frozen? ⟨r, 2, none⟩ = false)) := by
  obtain ⟨c, f⟩ := bcell hb
  rw [c p 0 hp.1, c p 1 hp.1, c p 2 hp.1, c r 0 hp.2, c r 1 hp.2, c r 2 hp.2, f r 0 hp.2, f r 1 hp.2, f r 2 hp.2]
  exact ⟨hv.trans (hb.mono hv.size), ⟨Nat.lt_of_lt_of_le hp.1 hb.size, Nat.lt_of_lt_of_le hp.2 hb.size⟩, h, h'⟩
end Go.Proofs.YtjjpdoabagnmoaaDoor
