/-
  Plain facts on the lines of a text and on its paragraphs: the reference's way, over one empty line more, and the program's way. No program here. No condition.
-/
import Derived.Test.YtnleemcddhpanaaDoorSplitL
namespace Go.Proofs.YtnleemcddhpanaaDoor

theorem occ_one (c : UInt8) (l : List UInt8) (j : Nat) : Lib.occAt l [c] j = (l[j]? == some c) := by
  unfold Lib.occAt
  have e : l[j]? = (l.drop j)[0]? := by rw [List.getElem?_drop, Nat.add_zero]
  rw [e]
  cases l.drop j with
  | nil => simp
  | cons x t =>
    simp only [List.getElem?_cons_zero, List.isPrefixOf]
    by_cases h : c = x
    · subst h; simp
    · have h2 : ¬ x = c := fun e => h e.symm
      have h3 : (c == x) = false := beq_eq_false_iff_ne.2 h
      rw [h3]
      simp [h2]
theorem split_snoc (c : UInt8) : ∀ (n : Nat) (l : List UInt8), l.length ≤ n → Lib.split (l ++ [c]) [c] = Lib.split l [c] ++ [[]]
  | n, l, hn => by
    have hne : [c] ≠ ([] : List UInt8) := by simp
    have hnil : Lib.split [] [c] = [[]] := split_miss (by simp [Lib.index])
    rcases Lib.index_spec l [c] with ⟨h1, h2⟩ | ⟨i, h1, h2, h3, h4⟩
    · have hi : Lib.index (l ++ [c]) [c] = (l.length : Int) := by
        refine Lib.index_hit (fun j hj => ?_) (by simp) ?_
        · rw [occ_one, List.getElem?_append_left hj]
          have := h2 j (by omega)
          rw [occ_one] at this
          exact this
        · rw [occ_one, List.getElem?_append_right (Nat.le_refl _), Nat.sub_self]
          simp
      rw [split_hit hne hi, split_miss h1, List.take_left]
      have e : (l ++ [c]).drop (l.length + [c].length) = [] := List.drop_eq_nil_of_le (by simp)
      rw [e, hnil]
      rfl
    · have hil : i < l.length := by
        rcases Lib.occAt_room h3 with h | h
        · simp at h; omega
        · exact absurd h hne
      have hi : Lib.index (l ++ [c]) [c] = (i : Int) := by
        refine Lib.index_hit (fun j hj => ?_) (by simp; omega) ?_
        · rw [occ_one, List.getElem?_append_left (by omega)]
          have := h4 j hj
          rw [occ_one] at this
          exact this
        · rw [occ_one, List.getElem?_append_left hil]
          rw [occ_one] at h3
          exact h3
      rw [split_hit hne hi, split_hit hne h1]
      have e1 : (l ++ [c]).take i = l.take i := List.take_append_of_le_length (by omega)
      have e2 : (l ++ [c]).drop (i + [c].length) = l.drop (i + [c].length) ++ [c] := List.drop_append_of_le_length (by simp; omega)
      have ih := split_snoc c (n - 1) (l.drop (i + [c].length)) (by rw [List.length_drop]; simp; omega)
      rw [e1, e2, ih]
      rfl
  termination_by n => n
  decreasing_by
    have : 0 < l.length := by omega
    omega

/-- paragraphs: what is closed, and the open one, after j lines -/
def psL (L : List (List UInt8)) : Nat → List (List UInt8) × Option (List UInt8)
  | 0 => ([], none)
  | j + 1 => if L.getD j [] = [] then ((psL L j).1 ++ (psL L j).2.toList, none) else ((psL L j).1, some (match (psL L j).2 with | none => L.getD j [] | some y => y ++ 10 :: L.getD j []))
theorem psL_nil (L : List (List UInt8)) (j : Nat) (h : L.getD j [] = []) : psL L (j + 1) = ((psL L j).1 ++ (psL L j).2.toList, none) := by
  show (if L.getD j [] = [] then _ else _) = _
  rw [if_pos h]
theorem psL_more (L : List (List UInt8)) (j : Nat) (h : ¬ L.getD j [] = []) : psL L (j + 1) = ((psL L j).1, some (match (psL L j).2 with | none => L.getD j [] | some y => y ++ 10 :: L.getD j [])) := by
  show (if L.getD j [] = [] then _ else _) = _
  rw [if_neg h]
theorem psL_snoc (L : List (List UInt8)) (x : List UInt8) : ∀ j, j ≤ L.length → psL (L ++ [x]) j = psL L j
  | 0, _ => rfl
  | j + 1, h => by
    have e : (L ++ [x]).getD j [] = L.getD j [] := by rw [List.getD_eq_getElem?_getD, List.getD_eq_getElem?_getD, List.getElem?_append_left (by omega)]
    have ih := psL_snoc L x j (by omega)
    by_cases h0 : L.getD j [] = []
    · rw [psL_nil _ _ (by rw [e]; exact h0), psL_nil _ _ h0, ih]
    · rw [psL_more _ _ (by rw [e]; exact h0), psL_more _ _ h0, ih, e]
theorem psL_count (L : List (List UInt8)) : ∀ j, (psL L j).1.length + (psL L j).2.toList.length ≤ j
  | 0 => by simp [psL]
  | j + 1 => by
    have ih := psL_count L j
    by_cases h0 : L.getD j [] = []
    · rw [psL_nil _ _ h0]; simp; omega
    · rw [psL_more _ _ h0]
      have : 1 ≤ 1 + (psL L j).2.toList.length := by omega
      simp only [Option.toList_some, List.length_cons, List.length_nil]
      cases h : (psL L j).2 with
      | none => rw [h] at ih; simp at ih; omega
      | some y => rw [h] at ih; simp at ih; omega
theorem split_elem (sep : List UInt8) : ∀ (k : Nat) (l : List UInt8), ∀ x ∈ Lib.splitK sep 0 k l, x.length ≤ l.length
  | 0, l, x, h => by
    have : x = l := by simpa [Lib.splitK] using h
    rw [this]; exact Nat.le_refl _
  | k + 1, l, x, h => by
    unfold Lib.splitK at h
    split at h
    · have : x = l := by simpa using h
      rw [this]; exact Nat.le_refl _
    · rcases List.mem_cons.1 h with rfl | h
      · rw [List.length_take]; omega
      · have := split_elem sep k _ x h
        rw [List.length_drop] at this
        omega
theorem psL_row (L : List (List UInt8)) (M : Nat) (hM : ∀ x ∈ L, x.length ≤ M) : ∀ j, ((psL L j).2.getD []).length ≤ j * (M + 1)
  | 0 => by simp [psL]
  | j + 1 => by
    have ih := psL_row L M hM j
    have hx : (L.getD j []).length ≤ M := by
      by_cases h : j < L.length
      · rw [show L.getD j [] = L[j] by simp [h]]; exact hM _ (List.getElem_mem _)
      · rw [show L.getD j [] = [] by simp [h]]; exact Nat.zero_le _
    rw [Nat.add_mul, Nat.one_mul]
    by_cases h0 : L.getD j [] = []
    · rw [psL_nil _ _ h0]; simp
    · rw [psL_more _ _ h0]
      cases h : (psL L j).2 with
      | none => simp only [Option.getD_some]; omega
      | some y =>
        rw [h] at ih
        simp only [Option.getD_some, List.length_append, List.length_cons] at *
        omega
/-- the paragraphs of a text -/
def parasL (l : List UInt8) : List (List UInt8) := (psL (Lib.split l [10]) (Lib.split l [10]).length).1 ++ (psL (Lib.split l [10]) (Lib.split l [10]).length).2.toList
/-- over one empty line more, nothing is left open -/
theorem parasL_spec (l : List UInt8) : psL (Lib.split (l ++ [10]) [10]) (Lib.split (l ++ [10]) [10]).length = (parasL l, none) := by
  rw [split_snoc 10 _ l (Nat.le_refl _)]
  rw [List.length_append]
  have e : (Lib.split l [10] ++ [[]]).getD (Lib.split l [10]).length [] = [] := by
    rw [List.getD_eq_getElem?_getD, List.getElem?_append_right (Nat.le_refl _), Nat.sub_self]; rfl
  rw [show (Lib.split l [10]).length + [([] : List UInt8)].length = (Lib.split l [10]).length + 1 from rfl, psL_nil _ _ e, psL_snoc _ _ _ (Nat.le_refl _)]
  rfl

/-- the last one away if it is empty -/
def dropE (L : List ByteArray) : List ByteArray := if (L.getD (L.length - 1) .empty).size = 0 then L.take (L.length - 1) else L
end Go.Proofs.YtnleemcddhpanaaDoor
