/-
  The text of rows, in plain words: cells as they are written, parted by a sign, a new line behind each row; none that is too long. No program's function here. No condition.
-/
import Derived.Test.YtobpecgecopdnaaGreatDoorRowsOk
import Derived.Test.YtobpecgecopdnaaGreatDoorText
namespace Go.Proofs.YtobpecgecopdnaaGreatDoor
open Go.RowKit
set_option linter.unusedVariables false

/-- the first k cells of a row -/
def cellsB (sep : UInt8) (W : List UInt8 → List UInt8) (ss : List ByteArray) : Nat → List UInt8
  | 0 => []
  | k + 1 => cellsB sep W ss k ++ (if 0 < k then [sep] else []) ++ W (bs (ss.getD k .empty))
/-- the first j rows -/
def rowsB (sep : UInt8) (W : List UInt8 → List UInt8) (R : List (List ByteArray)) : Nat → List UInt8
  | 0 => []
  | j + 1 => rowsB sep W R j ++ cellsB sep W (R.getD j []) (R.getD j []).length ++ [10]
theorem rowsB_mono (sep : UInt8) (W : List UInt8 → List UInt8) (R : List (List ByteArray)) (i : Nat) : ∀ d, (rowsB sep W R i).length ≤ (rowsB sep W R (i + d)).length
  | 0 => Nat.le_refl _
  | d + 1 => by
    have := rowsB_mono sep W R i d
    rw [← Nat.add_assoc, rowsB, List.length_append, List.length_append]
    omega
/-- the text of rows; none of rows that are none, or whose text is too long -/
def rowsTx (sep : UInt8) (W : List UInt8 → List UInt8) (R : List (List ByteArray)) : Option (List UInt8) :=
  if rowsOk R = true ∧ (rowsB sep W R R.length).length ≤ 4000 then some (rowsB sep W R R.length) else none
theorem rowsTx_no {sep : UInt8} {W : List UInt8 → List UInt8} {R : List (List ByteArray)} (h : rowsOk R = false) : rowsTx sep W R = none := by unfold rowsTx; rw [if_neg (by rw [h]; simp)]
theorem rowsTx_long {sep : UInt8} {W : List UInt8 → List UInt8} {R : List (List ByteArray)} {j : Nat} (hj : j ≤ R.length) (h : 4000 < (rowsB sep W R j).length) : rowsTx sep W R = none := by
  unfold rowsTx
  rw [if_neg]
  rintro ⟨_, h2⟩
  have := rowsB_mono sep W R j (R.length - j)
  rw [show j + (R.length - j) = R.length by omega] at this
  omega
theorem rowsTx_yes {sep : UInt8} {W : List UInt8 → List UInt8} {R : List (List ByteArray)} (h : rowsOk R = true) (h2 : (rowsB sep W R R.length).length ≤ 4000) : rowsTx sep W R = some (rowsB sep W R R.length) := by
  unfold rowsTx; rw [if_pos ⟨h, h2⟩]
/-- the law's two results -/
def txS (o : Option (List UInt8)) : ByteArray := ofL (o.getD [])
def txB (o : Option (List UInt8)) : Bool := o.isSome
/-- what stands in rows that are rows -/
theorem rowsOk_at {R : List (List ByteArray)} {j : Nat} (h : rowsOk R = true) (hj : j < R.length) : 1 ≤ R[j].length ∧ R[j].length ≤ 100 ∧ ∀ s ∈ R[j], okT (bs s) = true := by
  unfold rowsOk at h
  rw [List.all_eq_true] at h
  have h1 := h _ (List.getElem_mem hj)
  unfold rowOk betw cellsOk at h1
  simp only [Bool.and_eq_true, decide_eq_true_eq, List.all_eq_true] at h1
  exact ⟨by omega, by omega, h1.2⟩
theorem cellsB_len {sep : UInt8} {W : List UInt8 → List UInt8} {ss : List ByteArray} {N : Nat} (hW : ∀ s ∈ ss, (W (bs s)).length ≤ N) : ∀ k, k ≤ ss.length → (cellsB sep W ss k).length ≤ k * (N + 1)
  | 0, _ => by simp [cellsB]
  | k + 1, h => by
    have h1 := cellsB_len (sep := sep) hW k (by omega)
    have h2 := hW (ss[k]'(by omega)) (List.getElem_mem _)
    have e : ss.getD k .empty = ss[k]'(by omega) := by simp [show k < ss.length by omega]
    rw [cellsB, List.length_append, List.length_append, e, Nat.succ_mul]
    have h3 : (if 0 < k then [sep] else []).length ≤ 1 := by split <;> simp
    omega
theorem okT_len {s : ByteArray} (h : okT (bs s) = true) : s.size ≤ 1000 := by
  unfold okT textRunes at h
  by_cases h1 : 1000 < (bs s).length
  · rw [if_pos h1] at h; simp at h
  · rw [bs_length] at h1; omega

/-- is a cell quoted for it? -/
def spB (c : UInt8) : Bool := c == 44 || c == 34 || c == 10 || c == 13
def dblL (l : List UInt8) : List UInt8 := l.flatMap fun c => if c = 34 then [34, 34] else [c]
/-- a cell as CSV writes it -/
def cellC (l : List UInt8) : List UInt8 := if l.any spB = true then 34 :: (dblL l ++ [34]) else l
theorem dblL_len : ∀ l : List UInt8, (dblL l).length ≤ 2 * l.length
  | [] => by simp [dblL]
  | c :: l => by
    have := dblL_len l
    unfold dblL at *
    rw [List.flatMap_cons, List.length_append, List.length_cons]
    have h3 : (if c = 34 then [34, 34] else [c] : List UInt8).length ≤ 2 := by split <;> simp
    omega
theorem cellC_len (l : List UInt8) : (cellC l).length ≤ 2 * l.length + 2 := by
  have := dblL_len l
  unfold cellC
  split
  · simp; omega
  · omega
theorem dblL_snoc (l : List UInt8) (c : UInt8) : dblL (l ++ [c]) = dblL l ++ if c = 34 then [34, 34] else [c] := by simp [dblL]
theorem dblL_none : ∀ {l : List UInt8}, 34 ∉ l → dblL l = l
  | [], _ => rfl
  | c :: l, h => by
    simp at h
    have := dblL_none h.2
    unfold dblL at *
    rw [List.flatMap_cons, this, if_neg (fun e => h.1 e.symm)]
    rfl
theorem sp_none {l : List UInt8} (h : l.any spB = false) : 34 ∉ l := by
  intro hm
  rw [List.any_eq_false] at h
  exact h 34 hm rfl
theorem any_snoc (l : List UInt8) (c : UInt8) : (l ++ [c]).any spB = (l.any spB || spB c) := by simp
end Go.Proofs.YtobpecgecopdnaaGreatDoor
