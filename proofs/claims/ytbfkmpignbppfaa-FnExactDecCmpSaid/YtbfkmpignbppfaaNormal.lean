/-
  The contract of impl.normal: formV of the digits' value. Conditions: digits, at most 2 to the 30 of them, an exponent of at most 2 to the 40.
-/
import Derived.Test.YtbfkmpignbppfaaForm
import Derived.Test.YtbfkmpignbppfaaNatRound
namespace Go.Proofs.Ytbfkmpignbppfaa
open Go.RowKit
set_option linter.unusedVariables false
set_option linter.unusedSimpArgs false

theorem dec_size (v : Nat) : ∃ q : ByteArray, ofL (dec v) = q ∧ bs q = dec v ∧ q.size = (dec v).length := ⟨_, rfl, rfl, size_ofL _⟩
theorem numV_eq {n m : Bool} {l k : List UInt8} {x y c d : Int} (h1 : n = m) (h2 : l = k) (h3 : x = y) (h4 : c = d) : numV n l x c = numV m k y d := by rw [h1, h2, h3, h4]

theorem one_laid (w : World) (n : Bool) (s : ByteArray) (x : Int) :
    ∃ w0, w.alloc (Obj.cells #[.bool n, .string s, .int .i64 x] 26) = w0 ∧ w.heap.size < w0.heap.size ∧ Below w.heap.size w w0 ∧
      (w0.cell? ⟨w.heap.size, 0, none⟩ = some (.bool n) ∧ w0.cell? ⟨w.heap.size, 1, none⟩ = some (.string s) ∧ w0.cell? ⟨w.heap.size, 2, none⟩ = some (.int .i64 x)) ∧ (w0.frozen? ⟨w.heap.size, 0, none⟩ = false ∧ w0.frozen? ⟨w.heap.size, 1, none⟩ = false ∧ w0.frozen? ⟨w.heap.size, 2, none⟩ = false) := by
  refine ⟨_, rfl, by simp, (Below.refl _ w).alloc (Nat.le_refl _) _, ?_⟩
  simp

theorem one_kept {w w1 : World} {p : Nat} {n : Bool} {s : ByteArray} {x : Int} (hb : Below w.heap.size w w1) (hp : p < w.heap.size)
    (h : w.cell? ⟨p, 0, none⟩ = some (.bool n) ∧ w.cell? ⟨p, 1, none⟩ = some (.string s) ∧ w.cell? ⟨p, 2, none⟩ = some (.int .i64 x))
    (h' : w.frozen? ⟨p, 0, none⟩ = false ∧ w.frozen? ⟨p, 1, none⟩ = false ∧ w.frozen? ⟨p, 2, none⟩ = false) :
    p < w1.heap.size ∧ (w1.cell? ⟨p, 0, none⟩ = some (.bool n) ∧ w1.cell? ⟨p, 1, none⟩ = some (.string s) ∧ w1.cell? ⟨p, 2, none⟩ = some (.int .i64 x)) ∧
      (w1.frozen? ⟨p, 0, none⟩ = false ∧ w1.frozen? ⟨p, 1, none⟩ = false ∧ w1.frozen? ⟨p, 2, none⟩ = false) := by
  obtain ⟨c, f⟩ := bcell hb
  rw [c p 0 hp, c p 1 hp, c p 2 hp, f p 0 hp, f p 1 hp, f p 2 hp]
  exact ⟨Nat.lt_of_lt_of_le hp hb.size, h, h'⟩

end Go.Proofs.Ytbfkmpignbppfaa
