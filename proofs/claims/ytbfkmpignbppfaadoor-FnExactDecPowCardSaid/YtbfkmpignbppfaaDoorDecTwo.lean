/-
  What the laws on two numbers use: szDec's contracts. No condition.
-/
import Derived.Test.YtbfkmpignbppfaaDoorThree
import Derived.Test.YtbfkmpignbppfaaDoorDecLaw
import Derived.Deep.CutRange
namespace Go.Proofs.YtbfkmpignbppfaaDoor
open Go.RowKit
set_option linter.unusedVariables false
set_option linter.unusedSimpArgs false

theorem szDec_fit (n : Bool) (s : ByteArray) (x : Int) (l : Int) (w : World) (h : (s.size : Int) ≤ l) (hl : l ≤ 1048576) :
    Calls Tryd.prog 14 #[.agg #[.bool n, .string s, .int .i64 x], .int .i64 l] w fun e w' => e = .returned (.int .i64 (l - s.size)) ∧ Below w.heap.size w w' := by
  go_enter Tryd.func14, Tryd.ntmps14
  go_wp2
  go_ret
  refine ⟨rfl, ?_⟩
  go_light
  (repeat (first | exact Below.refl _ _ | assumption | refine Below.drew ?_ | refine below_drewN ?_ _ | (refine Below.alloc ?_ (by first | exact Nat.le_refl _ | (simp; done) | (simp; omega) | (simp at *; omega)) _) | (refine Below.setCell ?_ (by first | exact Nat.le_refl _ | (simp; done) | (simp; omega)) _) | (refine Below.trans ?_ (Below.mono (by assumption) (by first | exact Nat.le_refl _ | (simp; done) | (simp; omega) | (simp at *; omega))))))
theorem szDec_over (n : Bool) (s : ByteArray) (x : Int) (l : Int) (w : World) (h : l < (s.size : Int)) (hl : l ≤ 1048576) (hl0 : 0 ≤ l) (hs : s.size ≤ maxLen) :
    Calls Tryd.prog 14 #[.agg #[.bool n, .string s, .int .i64 x], .int .i64 l] w fun e w' => e = .returned (.int .i64 (-1)) ∧ Below w.heap.size w w' := by
  unfold maxLen at hs
  go_enter Tryd.func14, Tryd.ntmps14
  go_wp2
  go_ret
  refine ⟨rfl, ?_⟩
  go_light
  (repeat (first | exact Below.refl _ _ | assumption | refine Below.drew ?_ | refine below_drewN ?_ _ | (refine Below.alloc ?_ (by first | exact Nat.le_refl _ | (simp; done) | (simp; omega) | (simp at *; omega)) _) | (refine Below.setCell ?_ (by first | exact Nat.le_refl _ | (simp; done) | (simp; omega)) _) | (refine Below.trans ?_ (Below.mono (by assumption) (by first | exact Nat.le_refl _ | (simp; done) | (simp; omega) | (simp at *; omega))))))

theorem set_cells {w : World} {g : Nat} {v0 v1 v2 x y z : Value} (h0 : w.cell? ⟨g, 0, none⟩ = some v0) (h1 : w.cell? ⟨g, 1, none⟩ = some v1) (h2 : w.cell? ⟨g, 2, none⟩ = some v2) :
    (((w.setCell ⟨g, 0, none⟩ x).setCell ⟨g, 1, none⟩ y).setCell ⟨g, 2, none⟩ z).cell? ⟨g, 0, none⟩ = some x ∧
      (((w.setCell ⟨g, 0, none⟩ x).setCell ⟨g, 1, none⟩ y).setCell ⟨g, 2, none⟩ z).cell? ⟨g, 1, none⟩ = some y ∧
      (((w.setCell ⟨g, 0, none⟩ x).setCell ⟨g, 1, none⟩ y).setCell ⟨g, 2, none⟩ z).cell? ⟨g, 2, none⟩ = some z := by
  have n01 : (⟨g, 0, none⟩ : Addr) ≠ ⟨g, 1, none⟩ := by simp
  have n02 : (⟨g, 0, none⟩ : Addr) ≠ ⟨g, 2, none⟩ := by simp
  have n12 : (⟨g, 1, none⟩ : Addr) ≠ ⟨g, 2, none⟩ := by simp
  refine ⟨?_, ?_, ?_⟩
  · rw [World.cell?_setCell_other (h := n02.symm), World.cell?_setCell_other (h := n01.symm), World.cell?_setCell_same (h := h0)]
  · have e1 : (w.setCell ⟨g, 0, none⟩ x).cell? ⟨g, 1, none⟩ = some v1 := by rw [World.cell?_setCell_other (h := n01), h1]
    rw [World.cell?_setCell_other (h := n12.symm), World.cell?_setCell_same (h := e1)]
  · have e2 : ((w.setCell ⟨g, 0, none⟩ x).setCell ⟨g, 1, none⟩ y).cell? ⟨g, 2, none⟩ = some v2 := by rw [World.cell?_setCell_other (h := n12), World.cell?_setCell_other (h := n02), h2]
    rw [World.cell?_setCell_same (h := e2)]

theorem two_laidL (w : World) (n : Bool) (s : ByteArray) (x : Int) (m : Bool) (t : ByteArray) (y : Int) :
    ∃ w0, (w.alloc (Obj.cells #[.bool n, .string s, .int .i64 x] 23)).alloc (Obj.cells #[.bool m, .string t, .int .i64 y] 23) = w0 ∧ (w.heap.size < w0.heap.size ∧ w.heap.size + 1 < w0.heap.size) ∧ Below w.heap.size w w0 ∧
      (w0.cell? ⟨w.heap.size, 0, none⟩ = some (.bool n) ∧ w0.cell? ⟨w.heap.size, 1, none⟩ = some (.string s) ∧ w0.cell? ⟨w.heap.size, 2, none⟩ = some (.int .i64 x) ∧ w0.cell? ⟨w.heap.size + 1, 0, none⟩ = some (.bool m) ∧ w0.cell? ⟨w.heap.size + 1, 1, none⟩ = some (.string t) ∧ w0.cell? ⟨w.heap.size + 1, 2, none⟩ = some (.int .i64 y)) := by
  refine ⟨_, rfl, ⟨by simp; omega, by simp⟩, ((Below.refl _ w).alloc (Nat.le_refl _) _).alloc (by simp) _, ?_⟩
  simp

end Go.Proofs.YtbfkmpignbppfaaDoor
