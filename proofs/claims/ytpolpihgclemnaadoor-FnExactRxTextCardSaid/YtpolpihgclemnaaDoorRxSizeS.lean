/-
  The size of a pattern: the specification. Conditions: bounds.
-/
import Derived.Test.YtpolpihgclemnaaDoorRxSpec
import Derived.Deep.CutBlock
namespace Go.Proofs.YtpolpihgclemnaaDoor
open Go.RowKit
set_option linter.unusedVariables false
set_option linter.unusedSimpArgs false

theorem ndsOf_len (Q : List NdQ) : (ndsOf Q).length = Q.length := by unfold ndsOf; rw [List.length_map]
theorem ndsOf_kids (Q : List NdQ) : (ndsOf Q).map (fun v => v.2.2.2.2.2) = kidsOf Q := by unfold ndsOf kidsOf; rw [List.map_map]; rfl
theorem sizesL_at {L : List NdV} {k : Nat} (h : k < L.length) : sizesL (L.take (k + 1)) = sizesL (L.take k) ++ [nodeSz (sizesL (L.take k)) L[k]] := by
  rw [List.take_succ_eq_append_getElem h, sizesL_next]
theorem ndsOf_at {Q : List NdQ} {k : Nat} (h : k < Q.length) (h' : k < (ndsOf Q).length) : (ndsOf Q)[k] = (Q[k]).val := by simp [ndsOf]
/-- the sizes so far -/
def sizeF (S : List Int) (j : Nat) : Value := .int .i64 (S.getD j 0)
theorem sizeF_next {S : List Int} {k n : Nat} (hS : S.length = k) (x : Int) (hx : ∀ j, n ≤ j → j < n) : True := trivial
theorem sizeF_store {w wr : World} {g n k : Nat} {S : List Int} (h : Fill w wr g n (sizeF S)) (hk : k < n) (hS : S.length = k) (x : Int) : Fill w (wr.setCell ⟨g, k, none⟩ (.int .i64 x)) g n (sizeF (S ++ [x])) := by
  refine (h.store hk (.int .i64 x)).congr ?_
  intro j hj
  unfold sizeF
  by_cases e : j = k
  · subst e
    rw [if_pos rfl, List.getD_eq_getElem?_getD, List.getElem?_append_right (by omega), hS, Nat.sub_self]
    rfl
  · rw [if_neg e, List.getD_eq_getElem?_getD, List.getD_eq_getElem?_getD]
    by_cases e1 : j < k
    · rw [List.getElem?_append_left (by omega)]
    · rw [List.getElem?_eq_none (by omega), List.getElem?_eq_none (by rw [List.length_append]; simp; omega)]
theorem Fill.from {w wr w2 : World} {g n : Nat} {f : Nat → Value} (h : Fill w wr g n f) (hb : Below wr.heap.size wr w2) : Fill w w2 g n f :=
  ⟨h.below.trans (hb.mono h.below.size), h.lo, Nat.lt_of_lt_of_le h.hi hb.size, fun j hj => by rw [hb.cell (p := ⟨g, j, none⟩) h.hi]; exact h.cell j hj, fun j hj => by rw [hb.frozen (p := ⟨g, j, none⟩) h.hi]; exact h.free j hj⟩
theorem fillInts (w : World) (n : Nat) : Fill w (w.alloc (.cells (madeCells #[.int .i64 0] n) 3)) w.heap.size n (fun _ => .int .i64 0) := by
  have hF := Fill.made w w (Below.refl _ _) (madeCells #[.int .i64 0] n) 3 (fun _ => .int .i64 0) (fun j hj => madeCells_get _ _ _ (by simpa [size_madeCells] using hj))
  rw [size_madeCells] at hF
  exact hF

end Go.Proofs.YtpolpihgclemnaaDoor
