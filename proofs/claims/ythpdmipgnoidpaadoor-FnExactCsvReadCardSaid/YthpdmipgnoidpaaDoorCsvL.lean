/-
  Reading rows parted by commas, in plain words: a cell, what ends it, and the reading of what is left. No program here. No condition.
-/
import Derived.Test.YthpdmipgnoidpaaDoorTsvL
namespace Go.Proofs.YthpdmipgnoidpaaDoor
set_option linter.unusedVariables false

/-- how many bytes a row's end has here; 9 at the text's end, 0 of none -/
def endB : List UInt8 → Nat
  | [] => 9
  | c :: l => if c = 10 then 1 else if c = 13 ∧ l.head? = some 10 then 2 else 0
theorem endB_cons (c : UInt8) (l : List UInt8) : endB (c :: l) = if c = 10 then 1 else if c = 13 ∧ l.head? = some 10 then 2 else 0 := rfl
/-- a quoted cell behind its first quote: the cell, the place behind its last one, what is left -/
def csvQ : List UInt8 → Nat → List UInt8 → Option (List UInt8 × Nat × List UInt8)
  | [], _, _ => none
  | c :: l, at', out => if c ≠ 34 then csvQ l (at' + 1) (out ++ [c]) else match l with
    | [] => some (out, at' + 1, [])
    | x :: l' => if x = 34 then csvQ l' (at' + 2) (out ++ [34]) else some (out, at' + 1, x :: l')
theorem csvQ_nil (at' : Nat) (out : List UInt8) : csvQ [] at' out = none := by rw [csvQ.eq_def]
theorem csvQ_cons (c : UInt8) (l : List UInt8) (at' : Nat) (out : List UInt8) : csvQ (c :: l) at' out = if c ≠ 34 then csvQ l (at' + 1) (out ++ [c]) else match l with
    | [] => some (out, at' + 1, [])
    | x :: l' => if x = 34 then csvQ l' (at' + 2) (out ++ [34]) else some (out, at' + 1, x :: l') := by rw [csvQ.eq_def]
theorem csvQ_chr {c : UInt8} {l : List UInt8} {at' : Nat} {out : List UInt8} (h : c ≠ 34) : csvQ (c :: l) at' out = csvQ l (at' + 1) (out ++ [c]) := by rw [csvQ_cons, if_pos h]
theorem csvQ_two {l : List UInt8} {at' : Nat} {out : List UInt8} : csvQ (34 :: 34 :: l) at' out = csvQ l (at' + 2) (out ++ [34]) := by rw [csvQ_cons, if_neg (by decide)]; simp
theorem csvQ_end {l : List UInt8} {at' : Nat} {out : List UInt8} (h : l.head? ≠ some 34) : csvQ (34 :: l) at' out = some (out, at' + 1, l) := by
  rw [csvQ_cons, if_neg (by decide)]
  cases l with
  | nil => rfl
  | cons x l => simp at h; simp [h]
theorem csvQ_pre {rest : List UInt8} : ∀ (pre : List UInt8) (at' : Nat) (out : List UInt8), 34 ∉ pre → csvQ (pre ++ rest) at' out = csvQ rest (at' + pre.length) (out ++ pre)
  | [], at', out, _ => by simp
  | c :: pre, at', out, h => by
    simp at h
    rw [List.cons_append, csvQ_chr (fun e => h.1 e.symm), csvQ_pre pre _ _ h.2]
    simp [Nat.add_assoc, Nat.add_comm 1]
theorem csvQ_len : ∀ (n : Nat) (l : List UInt8) (at' : Nat) (out : List UInt8) {c r : List UInt8} {k : Nat}, l.length ≤ n → csvQ l at' out = some (c, k, r) → r.length + 1 ≤ l.length ∧ k + r.length = at' + l.length := by
  intro n
  induction n with
  | zero =>
    intro l at' out c r k hl h
    obtain rfl : l = [] := List.eq_nil_of_length_eq_zero (by omega)
    rw [csvQ_nil] at h; cases h
  | succ n ih =>
    intro l at' out c r k hl h
    cases l with
    | nil => rw [csvQ_nil] at h; cases h
    | cons x l =>
      simp only [List.length_cons] at hl ⊢
      by_cases hx : x = 34
      · subst hx
        cases l with
        | nil => rw [csvQ_end (by simp)] at h; simp at h; obtain ⟨_, rfl, rfl⟩ := h; exact ⟨by simp, by simp⟩
        | cons y l =>
          simp only [List.length_cons] at hl ⊢
          by_cases hy : y = 34
          · subst hy
            rw [csvQ_two] at h
            have := ih l _ _ (by omega) h
            omega
          · rw [csvQ_end (by simpa using hy)] at h
            simp at h
            obtain ⟨_, rfl, rfl⟩ := h
            simp; omega
      · rw [csvQ_chr hx] at h
        have := ih l _ _ (by omega) h
        omega
/-- a cell without quotes: code, cell, where it ends, what is left -/
def csvU : List UInt8 → Nat → List UInt8 → Nat × List UInt8 × Nat × List UInt8
  | [], at', out => (0, out, at', [])
  | c :: l, at', out => if endB (c :: l) ≠ 0 ∨ c = 44 then (0, out, at', c :: l) else if c = 34 then (2, [], at', c :: l) else if c = 13 then (4, [], at', c :: l) else csvU l (at' + 1) (out ++ [c])
theorem csvU_len : ∀ (l : List UInt8) (at' : Nat) (out : List UInt8), (csvU l at' out).2.2.2.length ≤ l.length ∧ (csvU l at' out).2.2.1 + (csvU l at' out).2.2.2.length = at' + l.length ∧ (csvU l at' out).1 ≤ 7
  | [], at', out => by simp [csvU]
  | c :: l, at', out => by
    have := csvU_len l (at' + 1) (out ++ [c])
    unfold csvU
    split
    · simp
    split
    · simp
    split
    · simp
    · simp only [List.length_cons]; omega
theorem csvU_hit {l : List UInt8} {at' : Nat} {out : List UInt8} (h : endB l ≠ 0 ∨ l.head? = some 44) : csvU l at' out = (0, out, at', l) := by
  cases l with
  | nil => rfl
  | cons c l => rw [csvU, if_pos (by simpa using h)]
/-- a cell: code, cell, where it ends, what is left -/
def cellG (l : List UInt8) (at' : Nat) : Nat × List UInt8 × Nat × List UInt8 :=
  if l.head? = some 34 then
    match csvQ (l.drop 1) (at' + 1) [] with
    | none => (3, [], at' + l.length, [])
    | some (c, k, r) => if endB r = 0 ∧ r.head? ≠ some 44 then (2, [], k, r) else (0, c, k, r)
  else csvU l at' []
theorem cellG_len (l : List UInt8) (at' : Nat) : (cellG l at').2.2.2.length ≤ l.length ∧ (cellG l at').2.2.1 + (cellG l at').2.2.2.length = at' + l.length ∧ (cellG l at').1 ≤ 7 := by
  unfold cellG
  split
  · rename_i h
    have hl : 1 ≤ l.length := by cases l with
      | nil => simp at h
      | cons => simp
    split
    · simp
    · rename_i c k r he
      have := csvQ_len _ _ _ _ (Nat.le_refl _) he
      rw [List.length_drop] at this
      split
      · exact ⟨by show r.length ≤ _; omega, by show k + r.length = _; omega, by simp⟩
      · exact ⟨by show r.length ≤ _; omega, by show k + r.length = _; omega, by simp⟩
  · exact csvU_len _ _ _

/-- the reading of what is left, from the start of a cell on -/
inductive CsvR : List UInt8 → Nat → List (List UInt8) → Row3 → Row3 × Nat × Nat → Prop
  | many {l : List UInt8} {at' : Nat} {cells : List (List UInt8)} {rows : Row3} : cells.length = 100 → CsvR l at' cells rows (rows, at', 5)
  | bad {l : List UInt8} {at' : Nat} {cells : List (List UInt8)} {rows : Row3} : cells.length ≠ 100 → (cellG l at').1 ≠ 0 → CsvR l at' cells rows (rows, (cellG l at').2.2.1, (cellG l at').1)
  | long {l : List UInt8} {at' : Nat} {cells : List (List UInt8)} {rows : Row3} : cells.length ≠ 100 → (cellG l at').1 = 0 → 1000 < (cellG l at').2.1.length → CsvR l at' cells rows (rows, at', 6)
  | more {l : List UInt8} {at' : Nat} {cells : List (List UInt8)} {rows : Row3} {res : Row3 × Nat × Nat} : cells.length ≠ 100 → (cellG l at').1 = 0 → ¬ 1000 < (cellG l at').2.1.length → endB (cellG l at').2.2.2 = 0 →
      CsvR ((cellG l at').2.2.2.drop 1) ((cellG l at').2.2.1 + 1) (cells ++ [(cellG l at').2.1]) rows res → CsvR l at' cells rows res
  | row {l : List UInt8} {at' : Nat} {cells : List (List UInt8)} {rows : Row3} {res : Row3 × Nat × Nat} : cells.length ≠ 100 → (cellG l at').1 = 0 → ¬ 1000 < (cellG l at').2.1.length → endB (cellG l at').2.2.2 ≠ 0 → (cellG l at').2.2.2.drop (endB (cellG l at').2.2.2) ≠ [] →
      CsvR ((cellG l at').2.2.2.drop (endB (cellG l at').2.2.2)) ((cellG l at').2.2.1 + endB (cellG l at').2.2.2) [] (rows ++ [cells ++ [(cellG l at').2.1]]) res → CsvR l at' cells rows res
  | last {l : List UInt8} {at' : Nat} {cells : List (List UInt8)} {rows : Row3} : cells.length ≠ 100 → (cellG l at').1 = 0 → ¬ 1000 < (cellG l at').2.1.length → endB (cellG l at').2.2.2 ≠ 0 → (cellG l at').2.2.2.drop (endB (cellG l at').2.2.2) = [] →
      CsvR l at' cells rows (rows ++ [cells ++ [(cellG l at').2.1]], 0, 0)
theorem CsvR.same {l : List UInt8} {at' : Nat} {cells : List (List UInt8)} {rows : Row3} {x y : Row3 × Nat × Nat} (h : CsvR l at' cells rows x) (k : CsvR l at' cells rows y) : x = y := by
  induction h with
  | many h1 => cases k <;> first | rfl | contradiction
  | bad h1 h2 => cases k <;> first | rfl | contradiction
  | long h1 h2 h3 => cases k <;> first | rfl | contradiction
  | more h1 h2 h3 h4 _ ih =>
    cases k with
    | more _ _ _ _ k5 => exact ih k5
    | _ => contradiction
  | row h1 h2 h3 h4 h5 _ ih =>
    cases k with
    | row _ _ _ _ _ k5 => exact ih k5
    | _ => contradiction
  | last h1 h2 h3 h4 h5 => cases k <;> first | rfl | contradiction
theorem endB_zero {l : List UInt8} (h : endB l = 0) : l ≠ [] := by rintro rfl; cases h
theorem CsvR.len {N : Nat} {l : List UInt8} {at' : Nat} {cells : List (List UInt8)} {rows : Row3} {x : Row3 × Nat × Nat} (h : CsvR l at' cells rows x) (hc : cells.length + l.length + 1 ≤ N) (hr : ∀ r ∈ rows, 0 < r.length ∧ r.length ≤ N) :
    x.1.length ≤ rows.length + l.length + 1 ∧ (∀ r ∈ x.1, 0 < r.length ∧ r.length ≤ N) ∧ x.2.1 ≤ at' + l.length ∧ x.2.2 ≤ 7 := by
  have hrow : ∀ (cells : List (List UInt8)) (cell : List UInt8) (rows : Row3), cells.length + 1 ≤ N → (∀ r ∈ rows, 0 < r.length ∧ r.length ≤ N) → ∀ r ∈ rows ++ [cells ++ [cell]], 0 < r.length ∧ r.length ≤ N := by
    intro cells cell rows h1 h2 r hr
    rcases List.mem_append.1 hr with h | h
    · exact h2 r h
    · simp at h; subst h; simp; omega
  induction h with
  | many h1 => exact ⟨by simp; omega, hr, by simp, by simp⟩
  | @bad l at' cells rows h1 h2 =>
    obtain ⟨k1, k2, k3⟩ := cellG_len l at'
    exact ⟨by show rows.length ≤ _; omega, hr, by show (cellG l at').2.2.1 ≤ _; omega, k3⟩
  | long h1 h2 h3 => exact ⟨by simp; omega, hr, by simp, by simp⟩
  | @more l at' cells rows res h1 h2 h3 h4 _ ih =>
    obtain ⟨k1, k2, k3⟩ := cellG_len l at'
    have hp := List.length_pos_iff.2 (endB_zero h4)
    generalize cellG l at' = G at *
    have := ih (by rw [List.length_append, List.length_drop]; simp only [List.length_cons, List.length_nil]; omega) hr
    rw [List.length_drop] at this
    exact ⟨by omega, this.2.1, by omega, this.2.2.2⟩
  | @row l at' cells rows res h1 h2 h3 h4 h5 _ ih =>
    obtain ⟨k1, k2, k3⟩ := cellG_len l at'
    generalize cellG l at' = G at *
    have hp : endB G.2.2.2 < G.2.2.2.length := by
      rcases Nat.lt_or_ge (endB G.2.2.2) G.2.2.2.length with h | h
      · exact h
      · exact absurd (List.drop_eq_nil_of_le h) h5
    have := ih (by rw [List.length_drop]; simp only [List.length_nil]; omega) (hrow _ _ _ (by omega) hr)
    rw [List.length_drop, List.length_append] at this
    simp only [List.length_cons, List.length_nil] at this
    exact ⟨by omega, this.2.1, by omega, this.2.2.2⟩
  | last h1 h2 h3 h4 h5 => exact ⟨by simp, hrow _ _ _ (by omega) hr, by simp, by simp⟩
end Go.Proofs.YthpdmipgnoidpaaDoor
