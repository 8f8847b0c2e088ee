/-
  A number's three parts in a block: what calls, new blocks and stores elsewhere leave of it. No condition.
-/
import Derived.Test.YtjjpdoabagnmoaaDoorThree
import Derived.Test.YtjjpdoabagnmoaaDoorDecTwo
import Derived.Deep.RegionHeld
namespace Go.Proofs.YtjjpdoabagnmoaaDoor
open Go.RowKit
set_option linter.unusedVariables false
set_option linter.unusedSimpArgs false

structure NumAt (w : World) (p : Nat) (n : Bool) (u : ByteArray) (x : Int) : Prop where
  hz : p < w.heap.size
  hc : w.cell? ⟨p, 0, none⟩ = some (.bool n) ∧ w.cell? ⟨p, 1, none⟩ = some (.string u) ∧ w.cell? ⟨p, 2, none⟩ = some (.int .i64 x)
  hf : w.frozen? ⟨p, 0, none⟩ = false ∧ w.frozen? ⟨p, 1, none⟩ = false ∧ w.frozen? ⟨p, 2, none⟩ = false
theorem NumAt.below {w w' : World} {p : Nat} {n : Bool} {u : ByteArray} {x : Int} (h : NumAt w p n u x) (hb : Below w.heap.size w w') : NumAt w' p n u x := by
  obtain ⟨a, b, c⟩ := one_kept hb h.hz h.hc h.hf
  exact ⟨a, b, c⟩
theorem NumAt.drew {w : World} {p : Nat} {n : Bool} {u : ByteArray} {x : Int} (h : NumAt w p n u x) : NumAt w.drew p n u x := ⟨h.hz, h.hc, h.hf⟩
theorem undrew {w w1 : World} (h : Below w.drew.heap.size w.drew w1) : Below w.heap.size w w1 := ⟨h.os, h.tape, h.output, h.size, h.block⟩
def put3 (w : World) (p : Nat) (n : Bool) (u : ByteArray) (x : Int) : World := ((w.setCell ⟨p, 0, none⟩ (.bool n)).setCell ⟨p, 1, none⟩ (.string u)).setCell ⟨p, 2, none⟩ (.int .i64 x)
theorem put3_size (w : World) (p : Nat) (n : Bool) (u : ByteArray) (x : Int) : (put3 w p n u x).heap.size = w.heap.size := by simp [put3, World.setCell]
theorem put3_far (w : World) {p q : Nat} (o : Nat) (n : Bool) (u : ByteArray) (x : Int) (h : p ≠ q) : (put3 w p n u x).cell? ⟨q, o, none⟩ = w.cell? ⟨q, o, none⟩ := by
  unfold put3
  rw [World.cell?_setCell_far _ _ _ _ h, World.cell?_setCell_far _ _ _ _ h, World.cell?_setCell_far _ _ _ _ h]
theorem NumAt.other {w : World} {p q : Nat} {n m : Bool} {u v : ByteArray} {x y : Int} (h : NumAt w q n u x) (hne : p ≠ q) : NumAt (put3 w p m v y) q n u x := by
  refine ⟨by rw [put3_size]; exact h.hz, ?_, ?_⟩
  · rw [put3_far w 0 m v y hne, put3_far w 1 m v y hne, put3_far w 2 m v y hne]; exact h.hc
  · unfold put3; simpa using h.hf
theorem NumAt.put {w : World} {p : Nat} {n m : Bool} {u v : ByteArray} {x y : Int} (h : NumAt w p n u x) : NumAt (put3 w p m v y) p m v y := by
  refine ⟨by rw [put3_size]; exact h.hz, set_cells h.hc.1 h.hc.2.1 h.hc.2.2, ?_⟩
  unfold put3; simpa using h.hf
theorem numAt_new (w : World) (n : Bool) (u : ByteArray) (x : Int) : NumAt (w.alloc (Obj.cells #[.bool n, .string u, .int .i64 x] 23)) w.heap.size n u x := by
  obtain ⟨w0, hw, a, -, b, c⟩ := one_laid w n u x
  rw [hw]; exact ⟨a, b, c⟩
theorem below_put {v w : World} {p : Nat} (h : Below v.heap.size v w) (hp : v.heap.size ≤ p) (n : Bool) (u : ByteArray) (x : Int) : Below v.heap.size v (put3 w p n u x) := set_three h hp _ _ _
theorem below_new {v w : World} (h : Below v.heap.size v w) (o : Obj) : Below v.heap.size v (w.alloc o) := h.alloc h.size _
end Go.Proofs.YtjjpdoabagnmoaaDoor
