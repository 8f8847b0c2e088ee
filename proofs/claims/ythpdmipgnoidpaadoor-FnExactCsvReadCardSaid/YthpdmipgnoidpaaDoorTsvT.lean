/-
  What TsvRead gives, and small facts for its walks. No program's function here. No condition.
-/
import Derived.Test.YthpdmipgnoidpaaDoorCurRows
import Derived.Test.YthpdmipgnoidpaaDoorFileOk
namespace Go.Proofs.YthpdmipgnoidpaaDoor
open Go.RowKit
open Go.Lib hiding intOf
set_option linter.unusedVariables false
set_option linter.unusedSimpArgs false

/-- what TsvRead gives -/
def tsvT (s : ByteArray) : Row3 × Nat × Nat := if okF (bs s) = true then tsvG (bs s) 0 0 [] [] [] else ([], 0, 1)
theorem tsvT_no {s : ByteArray} (h : okF (bs s) = false) : tsvT s = ([], 0, 1) := by unfold tsvT; rw [h]; rfl
theorem tsvT_yes {s : ByteArray} (h : okF (bs s) = true) : tsvT s = tsvG (bs s) 0 0 [] [] [] := by unfold tsvT; rw [if_pos h]
theorem okF_size {s : ByteArray} (h : okF (bs s) = true) : s.size ≤ 4000 := by
  unfold okF at h
  rw [Bool.and_eq_true, decide_eq_true_eq, bs_length] at h
  exact h.1
theorem drop_end (s : ByteArray) (k : Nat) (h : s.size ≤ k) : (bs s).drop k = [] := List.drop_eq_nil_of_le (by rw [bs_length]; exact h)

theorem chr_snoc (s : ByteArray) (k : Nat) (h : k < s.size) (cell : List UInt8) : ofL cell ++ s.extract k (k + 1) = ofL (cell ++ [s[k]]) := bs_inj (by
  have e : bs (ofL cell ++ s.extract k (k + 1)) = cell ++ bs (s.extract k (k + 1)) := by simp [bs, ofL]
  have e2 : bs (s.extract k (k + 1)) = [s[k]] := by
    show (s.extract k (k + 1)).data.toList = _
    rw [Lib.extract_data]
    have h2 := take_snoc s k h
    have h3 : (s.data.toList.drop k).take (k + 1 - k) = [s[k]] := by
      have := bs_drop s k h
      unfold bs at this
      rw [this, Nat.add_sub_cancel_left]
      rfl
    rw [← h3]
  rw [e, e2, bs_ofL])
theorem byte_snoc (c : UInt8) (cell : List UInt8) : ofL cell ++ ofL [c] = ofL (cell ++ [c]) := bs_inj (by simp [bs, ofL])
/-- what stands at a return -/
theorem rows_fin {w wr : World} {g T : Nat} {rv cvv : Value} {Q : List RowQ} {cells : List (List UInt8)} {rows : Row3} (hba : Below (w.heap.size + 1) (w.alloc (.cells #[] 60)) wr) (hrv : Q = [] → rv = .slice (some ⟨w.heap.size, 0, none⟩) 0 0) (hcr : CurRows wr (g + 1) g rv Q T cvv cells rows) (hg : w.heap.size + 1 ≤ g) :
    ssOf Q = rowsS rows ∧ RowsIn wr w.heap.size rv Q wr.heap.size ∧ Below w.heap.size w wr := by
  have hz : (w.alloc (.cells #[] 60)).heap.size = w.heap.size + 1 := by simp
  refine ⟨hcr.ss, outRows_post hcr.out (fun h0 => ⟨0, ?_, fun i hi => by simp at hi, fun i j hi => by simp at hi⟩) (by omega), ((Below.refl w.heap.size w).alloc (Nat.le_refl _) _).trans (hba.mono (by omega))⟩
  rw [hrv h0]
  exact ownsRow_below (ownsRow_empty w w.heap.size 60 (Nat.le_refl _)) (by rw [hz]; exact hba)

end Go.Proofs.YthpdmipgnoidpaaDoor
