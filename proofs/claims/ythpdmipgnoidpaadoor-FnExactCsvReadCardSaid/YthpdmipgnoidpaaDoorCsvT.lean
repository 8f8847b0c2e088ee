/-
  What CsvRead gives, and small facts for its walks: where a row ends, a quoted cell, a cell, over the bytes of a text from a place on. No program's function here. No condition.
-/
import Derived.Test.YthpdmipgnoidpaaDoorTsvT
import Derived.Test.YthpdmipgnoidpaaDoorCsvL
namespace Go.Proofs.YthpdmipgnoidpaaDoor
open Go.RowKit
open Go.Lib hiding intOf
set_option linter.unusedVariables false
set_option linter.unusedSimpArgs false

open Classical in
/-- what CsvRead gives -/
noncomputable def csvT (s : ByteArray) : Row3 × Nat × Nat :=
  if okF (bs s) = true then (if h : s.size ≠ 0 ∧ ∃ x, CsvR (bs s) 0 [] [] x then h.2.choose else ([], 0, 0)) else ([], 0, 1)
theorem csvT_no {s : ByteArray} (h : okF (bs s) = false) : csvT s = ([], 0, 1) := by unfold csvT; rw [h]; rfl
theorem csvT_yes {s : ByteArray} {x : Row3 × Nat × Nat} (h : okF (bs s) = true) (h0 : s.size ≠ 0) (hx : CsvR (bs s) 0 [] [] x) : csvT s = x := by
  have hh : s.size ≠ 0 ∧ ∃ x, CsvR (bs s) 0 [] [] x := ⟨h0, x, hx⟩
  unfold csvT
  rw [if_pos h, dif_pos hh]
  exact hh.2.choose_spec.same hx
theorem csvT_empty {s : ByteArray} (h : okF (bs s) = true) (h0 : s.size = 0) : csvT s = ([], 0, 0) := by
  unfold csvT
  rw [if_pos h, dif_neg (fun k => k.1 h0)]
theorem csvT_len (s : ByteArray) : (csvT s).1.length ≤ 100000 ∧ ∀ r ∈ (csvT s).1, r.length ≤ 100000 := by
  cases hk : okF (bs s)
  · rw [csvT_no hk]; exact ⟨by simp, fun r hr => by simp at hr⟩
  · have h4 := okF_size hk
    by_cases hh : s.size ≠ 0 ∧ ∃ x, CsvR (bs s) 0 [] [] x
    · obtain ⟨h0, x, hx⟩ := hh
      rw [csvT_yes hk h0 hx]
      have h5 := hx.len (N := 100000) (by rw [bs_length]; simp; omega) (fun r hr => by simp at hr)
      rw [bs_length] at h5
      exact ⟨by have := h5.1; simp at this; omega, fun r hr => (h5.2.1 r hr).2⟩
    · unfold csvT
      rw [if_pos hk, dif_neg hh]
      exact ⟨by simp, fun r hr => by simp at hr⟩

theorem endB_nine {s : ByteArray} {k : Nat} : endB ((bs s).drop k) = 9 ↔ s.size ≤ k := by
  constructor
  · intro h
    rcases Nat.lt_or_ge k s.size with h1 | h1
    · rw [bs_drop s k h1, endB_cons] at h
      by_cases h2 : s[k] = 10
      · rw [if_pos h2] at h; omega
      · rw [if_neg h2] at h
        split at h <;> omega
    · exact h1
  · intro h; rw [drop_end s k h]; rfl
theorem endB_nl {s : ByteArray} {k : Nat} (h : k < s.size) (hc : s[k] = 10) : endB ((bs s).drop k) = 1 := by rw [bs_drop s k h]; simp [endB, hc]
theorem endB_crlf {s : ByteArray} {k : Nat} (h : k + 1 < s.size) (hc : s[k] = 13) (hd : s[k + 1] = 10) : endB ((bs s).drop k) = 2 := by
  rw [bs_drop s k (by omega), bs_drop s (k + 1) h]; simp [endB, hc, hd]
theorem endB_none {s : ByteArray} {k : Nat} (h : k < s.size) (hc : s[k] ≠ 10) (hd : s[k] = 13 → ∀ h1 : k + 1 < s.size, s[k + 1] ≠ 10) : endB ((bs s).drop k) = 0 := by
  rw [bs_drop s k h, endB_cons, if_neg hc, if_neg]
  rintro ⟨h1, h2⟩
  by_cases h3 : k + 1 < s.size
  · rw [bs_drop s (k + 1) h3] at h2
    exact hd h1 h3 (by simpa using h2)
  · rw [drop_end s (k + 1) (by omega)] at h2
    cases h2
theorem endB_le (l : List UInt8) : endB l ≤ 9 := by
  unfold endB
  split
  · exact Nat.le_refl _
  · split
    · omega
    · split <;> omega
theorem endB_short {s : ByteArray} {k : Nat} (h : k < s.size) : k + endB ((bs s).drop k) ≤ s.size ∧ endB ((bs s).drop k) ≤ 2 := by
  have h1 := bs_drop s k h
  unfold endB
  rw [h1]
  simp only
  split
  · omega
  · split
    · rename_i h2
      by_cases h3 : k + 1 < s.size
      · omega
      · rw [drop_end s (k + 1) (by omega)] at h2
        cases h2.2
    · omega
/-- what endsRow answers -/
def eR (l : List UInt8) : Int := if endB l = 0 then -1 else if endB l = 9 then 0 else endB l
theorem eR_neg {l : List UInt8} : eR l < 0 ↔ endB l = 0 := by
  unfold eR
  by_cases h : endB l = 0
  · simp [h]
  · rw [if_neg h]
    split
    · simp [h]
    · simp [h]
/-- behind a row's end -/
theorem eR_place {s : ByteArray} {k : Nat} (h : endB ((bs s).drop k) ≠ 0) (hk : k ≤ s.size) : ∃ k' : Nat, (k : Int) + eR ((bs s).drop k) = (k' : Int) ∧ k ≤ k' ∧ k' ≤ s.size ∧ ((bs s).drop k).drop (endB ((bs s).drop k)) = (bs s).drop k' ∧ (k < s.size → k < k' ∧ k' = k + endB ((bs s).drop k)) := by
  unfold eR
  rw [if_neg h]
  by_cases h9 : s.size ≤ k
  · have h1 := endB_nine.2 h9
    rw [if_pos h1]
    rw [drop_end s k h9]
    exact ⟨k, by simp, Nat.le_refl _, hk, by rw [drop_end s k h9]; rfl, fun h2 => by omega⟩
  · have h1 : endB ((bs s).drop k) ≠ 9 := fun e => h9 (endB_nine.1 e)
    rw [if_neg h1]
    have h2 := endB_short (s := s) (k := k) (by omega)
    generalize endB ((bs s).drop k) = m at *
    exact ⟨k + m, by omega, by omega, h2.1, by rw [List.drop_drop], fun _ => ⟨by omega, rfl⟩⟩

/-- the reader's byte and the list's head -/
theorem head_at {s : ByteArray} {k : Nat} (h : k < s.size) (c : UInt8) : ((bs s).drop k).head? = some c ↔ s[k] = c := by rw [bs_drop s k h]; simp
theorem csvQ_suffix : ∀ (n : Nat) (l : List UInt8) (at' : Nat) (out : List UInt8) {c r : List UInt8} {k : Nat}, l.length ≤ n → csvQ l at' out = some (c, k, r) → r = l.drop (k - at') ∧ at' ≤ k := by
  intro n
  induction n with
  | zero =>
    intro l at' out c r k hl h
    obtain rfl : l = [] := List.eq_nil_of_length_eq_zero (by omega)
    rw [csvQ_nil] at h; cases h
  | succ n ih =>
    intro l at' out c r k hl h
    cases l with
    | nil => rw [csvQ_nil] at h; cases h
    | cons x l =>
      simp only [List.length_cons] at hl
      by_cases hx : x = 34
      · subst hx
        cases l with
        | nil => rw [csvQ_end (by simp)] at h; simp at h; obtain ⟨_, rfl, rfl⟩ := h; exact ⟨by simp, by omega⟩
        | cons y l =>
          simp only [List.length_cons] at hl
          by_cases hy : y = 34
          · subst hy
            rw [csvQ_two] at h
            obtain ⟨h1, h2⟩ := ih l _ _ (by omega) h
            refine ⟨?_, by omega⟩
            rw [h1, show k - at' = (k - (at' + 2)) + 2 by omega]
            rfl
          · rw [csvQ_end (by simpa using hy)] at h
            simp at h
            obtain ⟨_, rfl, rfl⟩ := h
            refine ⟨?_, by omega⟩
            rw [Nat.add_sub_cancel_left]; rfl
      · rw [csvQ_chr hx] at h
        obtain ⟨h1, h2⟩ := ih l _ _ (by omega) h
        refine ⟨?_, by omega⟩
        rw [h1, show k - at' = (k - (at' + 1)) + 1 by omega]
        rfl
theorem csvQ_no : ∀ (l : List UInt8) (at' : Nat) (out : List UInt8), 34 ∉ l → csvQ l at' out = none := by
  intro l at' out h
  have := csvQ_pre (rest := []) l at' out h
  rw [List.append_nil, csvQ_nil] at this
  exact this
/-- a cell that is quoted, and is ended: what stands behind it decides -/
theorem cellG_quoted {s : ByteArray} {k k' : Nat} {c : List UInt8} (h : k < s.size) (hc : s[k] = 34) (hq : csvQ ((bs s).drop (k + 1)) (k + 1) [] = some (c, k', (bs s).drop k')) :
    cellG ((bs s).drop k) k = if endB ((bs s).drop k') = 0 ∧ ((bs s).drop k').head? ≠ some 44 then (2, [], k', (bs s).drop k') else (0, c, k', (bs s).drop k') := by
  unfold cellG
  rw [if_pos ((head_at h 34).2 hc), show ((bs s).drop k).drop 1 = (bs s).drop (k + 1) by rw [List.drop_drop], hq]
theorem cellG_open {s : ByteArray} {k : Nat} (h : k < s.size) (hc : s[k] = 34) (hq : csvQ ((bs s).drop (k + 1)) (k + 1) [] = none) : cellG ((bs s).drop k) k = (3, [], s.size, []) := by
  unfold cellG
  rw [if_pos ((head_at h 34).2 hc), show ((bs s).drop k).drop 1 = (bs s).drop (k + 1) by rw [List.drop_drop], hq]
  have : k + ((bs s).drop k).length = s.size := by rw [List.length_drop, bs_length]; omega
  simp only [this]
theorem cellG_plain {s : ByteArray} {k : Nat} (h : ∀ h : k < s.size, s[k] ≠ 34) : cellG ((bs s).drop k) k = csvU ((bs s).drop k) k [] := by
  unfold cellG
  rw [if_neg]
  intro e
  by_cases h1 : k < s.size
  · exact h h1 ((head_at h1 34).1 e)
  · rw [drop_end s k (by omega)] at e; cases e
theorem csvU_cons (c : UInt8) (l : List UInt8) (at' : Nat) (out : List UInt8) : csvU (c :: l) at' out = if endB (c :: l) ≠ 0 ∨ c = 44 then (0, out, at', c :: l) else if c = 34 then (2, [], at', c :: l) else if c = 13 then (4, [], at', c :: l) else csvU l (at' + 1) (out ++ [c]) := by rw [csvU]
theorem csvU_end {s : ByteArray} {k : Nat} {out : List UInt8} (h : endB ((bs s).drop k) ≠ 0 ∨ ∀ h : k < s.size, s[k] = 44) : csvU ((bs s).drop k) k out = (0, out, k, (bs s).drop k) := by
  by_cases h1 : k < s.size
  · refine csvU_hit ?_
    rcases h with h | h
    · exact .inl h
    · exact .inr ((head_at h1 44).2 (h h1))
  · rw [drop_end s k (by omega)]; rfl
theorem csvU_step {s : ByteArray} {k : Nat} {out : List UInt8} (h : k < s.size) (h0 : endB ((bs s).drop k) = 0) (h44 : s[k] ≠ 44) :
    csvU ((bs s).drop k) k out = if s[k] = 34 then (2, [], k, (bs s).drop k) else if s[k] = 13 then (4, [], k, (bs s).drop k) else csvU ((bs s).drop (k + 1)) (k + 1) (out ++ [s[k]]) := by
  have hd := bs_drop s k h
  rw [hd] at h0 ⊢
  rw [csvU_cons, if_neg]
  rintro (h1 | h1)
  · exact h1 h0
  · exact h44 h1
/-- where a byte first stands in a list -/
theorem indexByte_split (c : UInt8) : ∀ l : List UInt8, (Lib.indexByte l c = -1 ∧ c ∉ l) ∨ ∃ pre post, l = pre ++ c :: post ∧ c ∉ pre ∧ Lib.indexByte l c = (pre.length : Int)
  | [] => .inl ⟨rfl, by simp⟩
  | x :: l => by
    by_cases h : x = c
    · subst h
      exact .inr ⟨[], l, rfl, by simp, by simp [Lib.indexByte]⟩
    · rcases indexByte_split c l with ⟨h1, h2⟩ | ⟨pre, post, rfl, h2, h3⟩
      · exact .inl ⟨by simp [Lib.indexByte, h, h1], by simp [h2, Ne.symm h]⟩
      · refine .inr ⟨x :: pre, post, rfl, by simp [h2, Ne.symm h], ?_⟩
        have h4 : ((pre.length : Int) == -1) = false := by rw [beq_eq_false_iff_ne]; omega
        have h5 : (x == c) = false := by rw [beq_eq_false_iff_ne]; exact h
        rw [Lib.indexByte, h3, h4, h5]
        simp
end Go.Proofs.YthpdmipgnoidpaaDoor
