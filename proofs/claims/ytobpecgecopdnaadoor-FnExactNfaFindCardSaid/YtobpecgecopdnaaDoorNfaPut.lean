/-
  What stays when the run's two results are put. No condition.
-/
import Derived.Test.YtobpecgecopdnaaDoorNfaCloseI
namespace Go.Proofs.YtobpecgecopdnaaDoor
open Go.RowKit
set_option linter.unusedVariables false
set_option linter.unusedSimpArgs false

/-- the run's results put -/
def putR (W : World) (r : Nat) (x y : Int) : World := (W.setCell ⟨r, 3, none⟩ (.int .i64 x)).setCell ⟨r, 4, none⟩ (.int .i64 y)
theorem putR_other (W : World) {r tb : Nat} (x y : Int) (h : r ≠ tb) : (putR W r x y).heap[tb]? = W.heap[tb]? := by
  unfold putR World.setCell
  simp only [Array.getElem?_modify]
  rw [if_neg h, if_neg h]
theorem put_keeps {W : World} {r sg n tb B k m : Nat} {ov lv0 sv lv av : Value} {xy : Int × Int} {xs ys : List Value} {f : Nat → Value} {e e2 : TypeId} {o : Obj} (x y : Int) (hr : RunM W r ov lv0 sv xy) (hm : Marks W sg n f) (hs : W.ownsRow B e 1 lv k xs) (ha : W.ownsRow B e2 2 av m ys) (hrB : r < B) (hrs : r ≠ sg) (hv : W.heap[tb]? = some o) (hrt : r ≠ tb) :
    RunM (putR W r x y) r ov lv0 sv (x, y) ∧ Marks (putR W r x y) sg n f ∧ (putR W r x y).ownsRow B e 1 lv k xs ∧ (putR W r x y).ownsRow B e2 2 av m ys ∧ (putR W r x y).heap[tb]? = some o ∧ Most2 r sg W (putR W r x y) := by
  have h1 : ∀ v n xs e sz, W.ownsRow B e sz v n xs → v.ownBlock ≠ some r := fun v n xs e sz h e' => by have := (h.lt r e').1; omega
  refine ⟨hr.put x y, (hm.most (Mostly.set W r 3 (.int .i64 x)) (Ne.symm hrs)).most (Mostly.set _ r 4 (.int .i64 y)) (Ne.symm hrs), ?_, ?_, by rw [putR_other W x y hrt]; exact hv, (Most2.set1 _ _ _ _ _).trans (.set1 _ _ _ _ _)⟩
  · exact ownsRow_setCell_other (ownsRow_setCell_other hs (h1 _ _ _ _ _ hs) _) (h1 _ _ _ _ _ hs) _
  · exact ownsRow_setCell_other (ownsRow_setCell_other ha (h1 _ _ _ _ _ ha) _) (h1 _ _ _ _ _ ha) _
end Go.Proofs.YtobpecgecopdnaaDoor
