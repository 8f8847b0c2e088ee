/-
  Reading rows parted by tabs, in plain words: the reference's one loop as a function of what is left, and what the program's rows and cells make of it. No program here. No condition.
-/
import Derived.Lib.Hide
namespace Go.Proofs.YthpdmipgnoidpaaDoor
set_option linter.unusedVariables false

abbrev Row3 := List (List (List UInt8))
/-- what a letter behind a backslash stands for; 0 of none -/
def escB (b : UInt8) : UInt8 := if b = 116 then 9 else if b = 110 then 10 else if b = 114 then 13 else if b = 92 then 92 else 0
/-- the reading of what is left: rows, offset, code -/
def tsvG : List UInt8 → Nat → Nat → List UInt8 → List (List UInt8) → Row3 → Row3 × Nat × Nat
  | [], at', fr, cell, cells, rows =>
    if at' = fr ∧ cells = [] then (rows, 0, 0) else if at' = fr ∧ cells.length = 100 then (rows, at', 5) else if 1000 < cell.length then (rows, fr, 6) else (rows ++ [cells ++ [cell]], 0, 0)
  | c :: l, at', fr, cell, cells, rows =>
    if at' = fr ∧ cells.length = 100 then (rows, at', 5)
    else if c ≠ 9 ∧ c ≠ 10 then
      if c ≠ 92 then tsvG l (at' + 1) fr (cell ++ [c]) cells rows
      else match l with
        | [] => (rows, at', 7)
        | x :: l' => if escB x = 0 then (rows, at', 7) else tsvG l' (at' + 2) fr (cell ++ [escB x]) cells rows
    else if 1000 < cell.length then (rows, fr, 6)
    else if c = 10 then tsvG l (at' + 1) (at' + 1) [] [] (rows ++ [cells ++ [cell]])
    else tsvG l (at' + 1) (at' + 1) [] (cells ++ [cell]) rows

theorem tsvG_nil (at' fr : Nat) (cell : List UInt8) (cells : List (List UInt8)) (rows : Row3) : tsvG [] at' fr cell cells rows =
    if at' = fr ∧ cells = [] then (rows, 0, 0) else if at' = fr ∧ cells.length = 100 then (rows, at', 5) else if 1000 < cell.length then (rows, fr, 6) else (rows ++ [cells ++ [cell]], 0, 0) := by
  rw [tsvG.eq_def]
theorem tsvG_cons (c : UInt8) (l : List UInt8) (at' fr : Nat) (cell : List UInt8) (cells : List (List UInt8)) (rows : Row3) : tsvG (c :: l) at' fr cell cells rows =
    if at' = fr ∧ cells.length = 100 then (rows, at', 5)
    else if c ≠ 9 ∧ c ≠ 10 then
      if c ≠ 92 then tsvG l (at' + 1) fr (cell ++ [c]) cells rows
      else match l with
        | [] => (rows, at', 7)
        | x :: l' => if escB x = 0 then (rows, at', 7) else tsvG l' (at' + 2) fr (cell ++ [escB x]) cells rows
    else if 1000 < cell.length then (rows, fr, 6)
    else if c = 10 then tsvG l (at' + 1) (at' + 1) [] [] (rows ++ [cells ++ [cell]])
    else tsvG l (at' + 1) (at' + 1) [] (cells ++ [cell]) rows := by
  rw [tsvG.eq_def]
theorem tsvG_end {at' : Nat} {rows : Row3} : tsvG [] at' at' [] [] rows = (rows, 0, 0) := by simp [tsvG_nil]
theorem tsvG_endmany {at' : Nat} {cell : List UInt8} {cells : List (List UInt8)} {rows : Row3} (h : cells.length = 100) (l : List UInt8) : tsvG l at' at' cell cells rows = (rows, at', 5) := by
  have h0 : ¬ cells = [] := by rintro rfl; simp at h
  cases l with
  | nil => rw [tsvG_nil, if_neg (fun k => h0 k.2), if_pos ⟨rfl, h⟩]
  | cons c l => rw [tsvG_cons, if_pos ⟨rfl, h⟩]
theorem tsvG_endlong {at' fr : Nat} {cell : List UInt8} {cells : List (List UInt8)} {rows : Row3} (h : ¬ (at' = fr ∧ cells = [])) (h1 : ¬ (at' = fr ∧ cells.length = 100)) (h2 : 1000 < cell.length) : tsvG [] at' fr cell cells rows = (rows, fr, 6) := by
  rw [tsvG_nil, if_neg h, if_neg h1, if_pos h2]
theorem tsvG_endrow {at' fr : Nat} {cell : List UInt8} {cells : List (List UInt8)} {rows : Row3} (h : ¬ (at' = fr ∧ cells = [])) (h1 : ¬ (at' = fr ∧ cells.length = 100)) (h2 : ¬ 1000 < cell.length) : tsvG [] at' fr cell cells rows = (rows ++ [cells ++ [cell]], 0, 0) := by
  rw [tsvG_nil, if_neg h, if_neg h1, if_neg h2]
theorem tsvG_chr {c : UInt8} {l : List UInt8} {at' fr : Nat} {cell : List UInt8} {cells : List (List UInt8)} {rows : Row3} (h : ¬ (at' = fr ∧ cells.length = 100)) (h9 : c ≠ 9) (h10 : c ≠ 10) (h92 : c ≠ 92) : tsvG (c :: l) at' fr cell cells rows = tsvG l (at' + 1) fr (cell ++ [c]) cells rows := by
  rw [tsvG_cons, if_neg h, if_pos ⟨h9, h10⟩, if_pos h92]
theorem tsvG_esc {x : UInt8} {l : List UInt8} {at' fr : Nat} {cell : List UInt8} {cells : List (List UInt8)} {rows : Row3} (h : ¬ (at' = fr ∧ cells.length = 100)) (hx : escB x ≠ 0) : tsvG (92 :: x :: l) at' fr cell cells rows = tsvG l (at' + 2) fr (cell ++ [escB x]) cells rows := by
  rw [tsvG_cons, if_neg h, if_pos (by decide), if_neg (by decide)]
  simp [hx]
theorem tsvG_bad {x : UInt8} {l : List UInt8} {at' fr : Nat} {cell : List UInt8} {cells : List (List UInt8)} {rows : Row3} (h : ¬ (at' = fr ∧ cells.length = 100)) (hx : escB x = 0) : tsvG (92 :: x :: l) at' fr cell cells rows = (rows, at', 7) := by
  rw [tsvG_cons, if_neg h, if_pos (by decide), if_neg (by decide)]
  simp [hx]
theorem tsvG_badend {at' fr : Nat} {cell : List UInt8} {cells : List (List UInt8)} {rows : Row3} (h : ¬ (at' = fr ∧ cells.length = 100)) : tsvG [92] at' fr cell cells rows = (rows, at', 7) := by
  rw [tsvG_cons, if_neg h, if_pos (by decide), if_neg (by decide)]
theorem tsvG_long {c : UInt8} {l : List UInt8} {at' fr : Nat} {cell : List UInt8} {cells : List (List UInt8)} {rows : Row3} (h : ¬ (at' = fr ∧ cells.length = 100)) (hc : c = 9 ∨ c = 10) (h2 : 1000 < cell.length) : tsvG (c :: l) at' fr cell cells rows = (rows, fr, 6) := by
  rw [tsvG_cons, if_neg h, if_neg (fun k => by rcases hc with e | e; exact k.1 e; exact k.2 e), if_pos h2]
theorem tsvG_nl {l : List UInt8} {at' fr : Nat} {cell : List UInt8} {cells : List (List UInt8)} {rows : Row3} (h : ¬ (at' = fr ∧ cells.length = 100)) (h2 : ¬ 1000 < cell.length) : tsvG (10 :: l) at' fr cell cells rows = tsvG l (at' + 1) (at' + 1) [] [] (rows ++ [cells ++ [cell]]) := by
  rw [tsvG_cons, if_neg h, if_neg (by decide), if_neg h2, if_pos rfl]
theorem tsvG_tab {l : List UInt8} {at' fr : Nat} {cell : List UInt8} {cells : List (List UInt8)} {rows : Row3} (h : ¬ (at' = fr ∧ cells.length = 100)) (h2 : ¬ 1000 < cell.length) : tsvG (9 :: l) at' fr cell cells rows = tsvG l (at' + 1) (at' + 1) [] (cells ++ [cell]) rows := by
  rw [tsvG_cons, if_neg h, if_neg (by decide), if_neg h2, if_neg (by decide)]

/-- how many rows and cells there are, of what is left -/
theorem tsvG_len (N : Nat) : ∀ (n : Nat) (l : List UInt8) (at' fr : Nat) (cell : List UInt8) (cells : List (List UInt8)) (rows : Row3), l.length ≤ n → fr ≤ at' → cells.length + l.length + 1 ≤ N → (∀ r ∈ rows, 0 < r.length ∧ r.length ≤ N) →
    (tsvG l at' fr cell cells rows).1.length ≤ rows.length + l.length + 1 ∧ (∀ r ∈ (tsvG l at' fr cell cells rows).1, 0 < r.length ∧ r.length ≤ N) ∧ (tsvG l at' fr cell cells rows).2.1 ≤ at' + l.length ∧ (tsvG l at' fr cell cells rows).2.2 ≤ 7 := by
  have hrow : ∀ (cells : List (List UInt8)) (cell : List UInt8) (rows : Row3), cells.length + 1 ≤ N → (∀ r ∈ rows, 0 < r.length ∧ r.length ≤ N) → ∀ r ∈ rows ++ [cells ++ [cell]], 0 < r.length ∧ r.length ≤ N := by
    intro cells cell rows h1 h2 r hr
    rcases List.mem_append.1 hr with h | h
    · exact h2 r h
    · simp at h; subst h; simp; omega
  have hnil : ∀ (at' fr : Nat) (cell : List UInt8) (cells : List (List UInt8)) (rows : Row3), fr ≤ at' → cells.length + 1 ≤ N → (∀ r ∈ rows, 0 < r.length ∧ r.length ≤ N) → (tsvG [] at' fr cell cells rows).1.length ≤ rows.length + 0 + 1 ∧ (∀ r ∈ (tsvG [] at' fr cell cells rows).1, 0 < r.length ∧ r.length ≤ N) ∧ (tsvG [] at' fr cell cells rows).2.1 ≤ at' + 0 ∧ (tsvG [] at' fr cell cells rows).2.2 ≤ 7 := by
    intro at' fr cell cells rows hf hc hr
    rw [tsvG_nil]
    split
    · exact ⟨by simp, hr, by simp, by simp⟩
    split
    · exact ⟨by simp, hr, by simp, by simp⟩
    split
    · exact ⟨by simp, hr, by simpa using hf, by simp⟩
    · exact ⟨by simp, hrow _ _ _ hc hr, by simp, by simp⟩
  intro n
  induction n with
  | zero =>
    intro l at' fr cell cells rows hl hf hc hr
    obtain rfl : l = [] := List.eq_nil_of_length_eq_zero (by omega)
    exact hnil _ _ _ _ _ hf (by simpa using hc) hr
  | succ n ih =>
    intro l at' fr cell cells rows hl hf hc hr
    cases l with
    | nil => exact hnil _ _ _ _ _ hf (by simpa using hc) hr
    | cons c l =>
      simp only [List.length_cons] at hl hc ⊢
      by_cases h : at' = fr ∧ cells.length = 100
      · rw [tsvG_cons, if_pos h]; exact ⟨by show rows.length ≤ _; omega, hr, by show at' ≤ _; omega, by simp⟩
      by_cases h9 : c = 9 ∨ c = 10
      · by_cases h2 : 1000 < cell.length
        · rw [tsvG_long h h9 h2]; exact ⟨by show rows.length ≤ _; omega, hr, by show fr ≤ _; omega, by simp⟩
        rcases h9 with rfl | rfl
        · rw [tsvG_tab h h2]
          have := ih l (at' + 1) (at' + 1) [] (cells ++ [cell]) rows (by omega) (Nat.le_refl _) (by simp; omega) hr
          exact ⟨by omega, this.2.1, by omega, this.2.2.2⟩
        · rw [tsvG_nl h h2]
          have := ih l (at' + 1) (at' + 1) [] [] (rows ++ [cells ++ [cell]]) (by omega) (Nat.le_refl _) (by simp; omega) (hrow _ _ _ (by omega) hr)
          rw [List.length_append] at this
          simp only [List.length_cons, List.length_nil] at this
          exact ⟨by omega, this.2.1, by omega, this.2.2.2⟩
      · by_cases h92 : c = 92
        · subst h92
          cases l with
          | nil => rw [tsvG_badend h]; exact ⟨by show rows.length ≤ _; omega, hr, by show at' ≤ _; omega, by simp⟩
          | cons x l =>
            simp only [List.length_cons] at hl hc ⊢
            by_cases hx : escB x = 0
            · rw [tsvG_bad h hx]; exact ⟨by show rows.length ≤ _; omega, hr, by show at' ≤ _; omega, by simp⟩
            · rw [tsvG_esc h hx]
              have := ih l (at' + 2) fr (cell ++ [escB x]) cells rows (by omega) (by omega) (by omega) hr
              exact ⟨by omega, this.2.1, by omega, this.2.2.2⟩
        · rw [tsvG_chr h (fun e => h9 (.inl e)) (fun e => h9 (.inr e)) h92]
          have := ih l (at' + 1) fr (cell ++ [c]) cells rows (by omega) (by omega) (by omega) hr
          exact ⟨by omega, this.2.1, by omega, this.2.2.2⟩
end Go.Proofs.YthpdmipgnoidpaaDoor
