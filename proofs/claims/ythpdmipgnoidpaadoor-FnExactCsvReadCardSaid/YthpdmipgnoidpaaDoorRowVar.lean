/-
  A row that is being read into a variable of its own, in block gr: its cells lie behind that block. No program's function here. No condition.
-/
import Derived.Test.YthpdmipgnoidpaaDoorCurRows
namespace Go.Proofs.YthpdmipgnoidpaaDoor
open Go.RowKit
set_option linter.unusedVariables false
set_option linter.unusedSimpArgs false

structure RowVar (wr : World) (gr : Nat) (cv : Value) (cells : List (List UInt8)) : Prop where
  cell : wr.cell? ⟨gr, 0, none⟩ = some cv
  free : wr.frozen? ⟨gr, 0, none⟩ = false
  own : wr.ownsRow (gr + 1) 9 1 cv cells.length ((cells.map ofL).map Value.string)
theorem RowVar.lt {wr : World} {gr : Nat} {cv : Value} {cells : List (List UInt8)} (h : RowVar wr gr cv cells) : gr < wr.heap.size := cell_lt h.cell
theorem RowVar.below {wr w' : World} {gr : Nat} {cv : Value} {cells : List (List UInt8)} (h : RowVar wr gr cv cells) (hb : Below wr.heap.size wr w') : RowVar w' gr cv cells :=
  ⟨by rw [hb.cell (p := ⟨gr, 0, none⟩) h.lt]; exact h.cell, by rw [hb.frozen (p := ⟨gr, 0, none⟩) h.lt]; exact h.free, ownsRow_below h.own hb⟩
theorem RowVar.most {wr w' : World} {gr p : Nat} {cv : Value} {cells : List (List UInt8)} (h : RowVar wr gr cv cells) (hm : Mostly p wr w') (hp : p < gr) : RowVar w' gr cv cells :=
  ⟨by rw [hm.cell (by omega) h.lt]; exact h.cell, by rw [hm.frozen (by omega) h.lt]; exact h.free, hm.ownsRow h.own (fun e => by have := (h.own.lt p e).1; omega)⟩
theorem RowVar.sliceC {wr : World} {gr : Nat} {cv : Value} {cells : List (List UInt8)} (h : RowVar wr gr cv cells) : ∃ a c, cv = .slice a cells.length c := ownsRow_slice h.own
/-- what is kept while the cells' slice grows -/
theorem RowVar.grown {wr w2 : World} {gr : Nat} {cv : Value} {cells : List (List UInt8)} (h : RowVar wr gr cv cells) (hg : wr.grownBy w2 cv.ownBlock) : w2.cell? ⟨gr, 0, none⟩ = some cv ∧ w2.frozen? ⟨gr, 0, none⟩ = false := by
  have hne : some gr ≠ cv.ownBlock := fun e => by have := (h.own.lt gr e.symm).1; omega
  exact ⟨by rw [hg.cell_far ⟨gr, 0, none⟩ h.lt hne]; exact h.cell, by rw [hg.frozen_far ⟨gr, 0, none⟩ h.lt hne]; exact h.free⟩
/-- one more cell -/
theorem RowVar.push {wr w2 : World} {gr : Nat} {cv cv2 : Value} {cells : List (List UInt8)} {x : List UInt8} (h : RowVar wr gr cv cells) (hg : wr.grownBy w2 cv.ownBlock) (ho : w2.ownsRow (gr + 1) 9 1 cv2 (cells.length + 1) ((cells.map ofL).map Value.string ++ [.string (ofL x)])) :
    RowVar (w2.setCell ⟨gr, 0, none⟩ cv2) gr cv2 (cells ++ [x]) := by
  obtain ⟨h1, h2⟩ := h.grown hg
  have hm : Mostly gr w2 (w2.setCell ⟨gr, 0, none⟩ cv2) := .set _ _ _ _
  refine ⟨World.cell?_setCell_same' _ _ _ (by rw [h1]; rfl), by rw [World.frozen?_setCell]; exact h2, ?_⟩
  have e : ((cells ++ [x]).map ofL).map Value.string = (cells.map ofL).map Value.string ++ [.string (ofL x)] := by simp
  rw [e, List.length_append]
  exact hm.ownsRow ho (fun e => by have := (ho.lt gr e).1; omega)
theorem Mostly.setNew {p : Nat} {a w : World} (h : Mostly p a w) (b o : Nat) (v : Value) (hb : a.heap.size ≤ b) : Mostly p a (w.setCell ⟨b, o, none⟩ v) :=
  ⟨h.os, h.tape, h.output, by simpa [World.setCell] using h.size, fun k hk hl => by rw [Below.heap_setCell _ _ _ _ (by show k ≠ b; omega)]; exact h.block k hk hl⟩
end Go.Proofs.YthpdmipgnoidpaaDoor
