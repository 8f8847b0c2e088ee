/-
  Plain facts on the words of a text between blanks: byte by byte, and as the library finds them, code point by code point. No program here. No condition.
-/
import Derived.Test.YtnleemcddhpanaaDoorCodes
import Derived.Lib.FieldsP
namespace Go.Proofs.YtnleemcddhpanaaDoor
open Go.Lib hiding intOf
set_option linter.unusedVariables false

/-- a blank -/
def blk (x : Nat) : Bool := x == 32 || x == 9 || x == 10 || x == 13
theorem blk_iff (x : Nat) : blk x = true ↔ x = 32 ∨ x = 9 ∨ x = 10 ∨ x = 13 := by simp [blk, or_assoc]
theorem blk_int (x : Nat) : blk x = (((x : Int) == 32) || ((x : Int) == 9) || ((x : Int) == 10) || ((x : Int) == 13)) := by
  have e : ∀ d : Nat, (x == d) = ((x : Int) == (d : Int)) := fun d => by
    rw [Bool.eq_iff_iff, beq_iff_eq, beq_iff_eq]; omega
  unfold blk
  rw [e 32, e 9, e 10, e 13]
  rfl
/-- after j bytes: the words that are closed, and where the open one began; behind the end stands a blank -/
def BS (l : List UInt8) : Nat → List (Nat × Nat) × Option Nat
  | 0 => ([], none)
  | j + 1 => if blk (l.getD j 32).toNat = true then ((BS l j).1 ++ ((BS l j).2.map (fun a => (a, j))).toList, none) else ((BS l j).1, some ((BS l j).2.getD j))
theorem BS_yes {l : List UInt8} {j : Nat} (h : blk (l.getD j 32).toNat = true) : BS l (j + 1) = ((BS l j).1 ++ ((BS l j).2.map (fun a => (a, j))).toList, none) := by
  show (if blk (l.getD j 32).toNat = true then _ else _) = _
  rw [if_pos h]
theorem BS_no {l : List UInt8} {j : Nat} (h : ¬ blk (l.getD j 32).toNat = true) : BS l (j + 1) = ((BS l j).1, some ((BS l j).2.getD j)) := by
  show (if blk (l.getD j 32).toNat = true then _ else _) = _
  rw [if_neg h]
theorem BS_lt (l : List UInt8) : ∀ (j a : Nat), (BS l j).2 = some a → a < j
  | 0, a, h => by simp [BS] at h
  | j + 1, a, h => by
    by_cases hb : blk (l.getD j 32).toNat = true
    · rw [BS_yes hb] at h; simp at h
    · rw [BS_no hb] at h
      cases h2 : (BS l j).2 with
      | none => rw [h2] at h; simp at h; omega
      | some b => rw [h2] at h; simp at h; have := BS_lt l j b h2; omega
theorem BS_count (l : List UInt8) : ∀ j, (BS l j).1.length + (BS l j).2.toList.length ≤ j
  | 0 => by simp [BS]
  | j + 1 => by
    have ih := BS_count l j
    by_cases hb : blk (l.getD j 32).toNat = true
    · rw [BS_yes hb]
      cases h2 : (BS l j).2 with
      | none => rw [h2] at ih; simp at *; omega
      | some b => rw [h2] at ih; simp at *; omega
    · rw [BS_no hb]
      cases h2 : (BS l j).2 with
      | none => rw [h2] at ih; simp at *; omega
      | some b => rw [h2] at ih; simp at *; omega
theorem BS_run {l : List UInt8} {pos : Nat} : ∀ k, (∀ i, i < k + 1 → ¬ blk (l.getD (pos + i) 32).toNat = true) → BS l (pos + (k + 1)) = ((BS l pos).1, some ((BS l pos).2.getD pos))
  | 0, h => BS_no (h 0 (by omega))
  | k + 1, h => by
    have ih := BS_run k (fun i hi => h i (by omega))
    have hk := h (k + 1) (by omega)
    rw [show pos + (k + 1 + 1) = (pos + (k + 1)) + 1 by omega, BS_no hk, ih]
    rfl
theorem spans_BS (s : ByteArray) : ∀ (f pos : Nat) (r : List Nat), pos ≤ s.size → s.size ≤ pos + f → runes ((bs s).drop pos) = some r →
    Lib.spansFromP blk s f pos (BS (bs s) pos).2 (BS (bs s) pos).1 = BS (bs s) s.size
  | 0, pos, r, h1, h2, _ => by
    obtain rfl : pos = s.size := by omega
    rfl
  | f + 1, pos, r, h1, h2, hr => by
    by_cases hlt : pos < s.size
    · have hne : (bs s).drop pos ≠ [] := by
        intro e
        have := congrArg List.length e
        rw [List.length_drop, bs_length, List.length_nil] at this
        omega
      obtain ⟨t, e1, e2, e3, e4, e5, e6⟩ := runes_cons hne hr
      have hdec : decodeL ((bs s).drop pos) = Utf8.decode s pos := decodeL_drop s pos
      rw [hdec] at e1 e2 e3 e4 e5 e6
      rw [List.length_drop, bs_length] at e5
      have hbyte : ∀ i, i < (Utf8.decode s pos).2 → (ptBytes (Utf8.decode s pos).1)[i]? = some ((bs s).getD (pos + i) 32) := fun i hi => by
        rw [← e3, List.getElem?_take_of_lt hi, List.getElem?_drop, List.getD_eq_getElem?_getD, List.getElem?_eq_getElem (by rw [bs_length]; omega)]
        rfl
      have hlen : (ptBytes (Utf8.decode s pos).1).length = (Utf8.decode s pos).2 := by
        rw [← e3, List.length_take, List.length_drop, bs_length]; omega
      rw [List.drop_drop] at e2
      have ih := spans_BS s f (pos + (Utf8.decode s pos).2) t (by omega) (by omega) e2
      unfold Lib.spansFromP
      rw [if_pos hlt]
      generalize (Utf8.decode s pos).2 = n at *
      generalize (Utf8.decode s pos).1 = c at *
      by_cases hb : blk c = true
      · rw [if_pos hb]
        have hc : c < 128 := by rw [blk_iff] at hb; omega
        have hn : n = 1 := by rw [← hlen, ptBytes_one hc]; rfl
        subst hn
        have h0 := hbyte 0 (by omega)
        rw [ptBytes_one hc, Nat.add_zero] at h0
        have h3 : (bs s).getD pos 32 = c.toUInt8 := by simpa using h0.symm
        have hbb : blk ((bs s).getD pos 32).toNat = true := by rw [h3, u8n (by omega)]; exact hb
        rw [BS_yes hbb] at ih
        cases h : (BS (bs s) pos).2 with
        | none => rw [h] at ih; simpa using ih
        | some a => rw [h] at ih; simpa using ih
      · rw [if_neg hb]
        obtain ⟨k, rfl⟩ : ∃ k, n = k + 1 := ⟨n - 1, by omega⟩
        have hno : ∀ i, i < k + 1 → ¬ blk ((bs s).getD (pos + i) 32).toNat = true := fun i hi => by
          have h0 := hbyte i hi
          by_cases hc : c < 128
          · have hn : k + 1 = 1 := by rw [← hlen, ptBytes_one hc]; rfl
            obtain rfl : i = 0 := by omega
            rw [ptBytes_one hc] at h0
            have h3 : (bs s).getD (pos + 0) 32 = c.toUInt8 := by simpa using h0.symm
            rw [h3, u8n (by omega)]
            exact hb
          · have h4 := (ptBytes_mid e6 i _ h0).2 (by omega)
            rw [blk_iff]
            omega
        rw [BS_run k hno] at ih
        cases h : (BS (bs s) pos).2 with
        | none => rw [h] at ih; simpa using ih
        | some a => rw [h] at ih; simpa using ih
    · obtain rfl : pos = s.size := by omega
      rw [Lib.spansFromP_end _ _ _ _ _ _ hlt]
theorem fields_BS {s : ByteArray} {r : List Nat} (h : runes (bs s) = some r) : Lib.goFieldsP blk s = (BS (bs s) (s.size + 1)).1.map (fun x => s.extract x.1 x.2) := by
  have h1 := spans_BS s s.size 0 r (Nat.zero_le _) (by omega) (by rw [List.drop_zero]; exact h)
  have h2 : Lib.spansFromP blk s s.size 0 none [] = BS (bs s) s.size := h1
  have hb : blk ((bs s).getD s.size 32).toNat = true := by
    rw [List.getD_eq_getElem?_getD, List.getElem?_eq_none (by rw [bs_length]; exact Nat.le_refl _)]
    rfl
  unfold Lib.goFieldsP Lib.spansOfP Lib.closeSpans
  rw [h2, BS_yes hb]
  cases h3 : (BS (bs s) s.size).2 with
  | none => simp
  | some a => simp
/-- the words of a text; none of what is no text -/
def blanksT (s : ByteArray) : List ByteArray := if okT (bs s) = true then (BS (bs s) (s.size + 1)).1.map (fun x => s.extract x.1 x.2) else []
theorem blanksT_len (s : ByteArray) (h : s.size ≤ 1048576) : (blanksT s).length ≤ 1048577 := by
  unfold blanksT
  split
  · rw [List.length_map]
    have := BS_count (bs s) (s.size + 1)
    omega
  · simp
end Go.Proofs.YtnleemcddhpanaaDoor
