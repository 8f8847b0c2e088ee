/-
  What a byte of a text becomes in quotes (qtB) and in a line of records (jsB). No program here. No condition.
-/
import Derived.Test.YtbdamjhgggnihaaDoorText
namespace Go.Proofs.YtbdamjhgggnihaaDoor

/-- a byte in quotes -/
def qtB (x : UInt8) : List UInt8 :=
  if x.toNat = 34 ∨ x.toNat = 92 then [92, x] else if x.toNat = 10 then [92, 110] else if x.toNat = 9 then [92, 116] else if x.toNat = 13 then [92, 114] else [x]
def qtL (l : List UInt8) : List UInt8 := 34 :: l.flatMap qtB
theorem qtL_take (l : List UInt8) (j : Nat) (h : j < l.length) : qtL (l.take (j + 1)) = qtL (l.take j) ++ qtB l[j] := by
  unfold qtL
  rw [List.take_succ_eq_append_getElem h, List.flatMap_append]
  simp
theorem qtB_length (x : UInt8) : (qtB x).length ≤ 2 := by
  unfold qtB
  split
  · simp
  · split
    · simp
    · split
      · simp
      · split <;> simp
theorem qtL_length : ∀ l : List UInt8, (qtL l).length ≤ 2 * l.length + 1
  | [] => by simp [qtL]
  | x :: l => by
    have h := qtL_length l
    have h1 := qtB_length x
    unfold qtL at *
    rw [List.flatMap_cons]
    simp only [List.length_cons, List.length_append] at *
    omega

/-- a digit of sixteen -/
def hexB (n : Nat) : UInt8 := (if n < 10 then 48 + n else 87 + n).toUInt8
/-- a byte in a string of records -/
def jsB (x : UInt8) : List UInt8 :=
  if x.toNat = 34 ∨ x.toNat = 92 then [92, x] else if x.toNat = 8 then [92, 98] else if x.toNat = 12 then [92, 102] else if x.toNat = 10 then [92, 110] else if x.toNat = 13 then [92, 114] else if x.toNat = 9 then [92, 116]
  else if x.toNat < 32 then [92, 117, 48, 48, hexB (x.toNat / 16), hexB (x.toNat % 16)] else [x]
def jsL (l : List UInt8) : List UInt8 := 34 :: l.flatMap jsB
theorem jsL_take (l : List UInt8) (j : Nat) (h : j < l.length) : jsL (l.take (j + 1)) = jsL (l.take j) ++ jsB l[j] := by
  unfold jsL
  rw [List.take_succ_eq_append_getElem h, List.flatMap_append]
  simp
theorem jsB_length (x : UInt8) : (jsB x).length ≤ 6 := by
  unfold jsB
  repeat' split
  all_goals simp
theorem jsL_length : ∀ l : List UInt8, (jsL l).length ≤ 6 * l.length + 1
  | [] => by simp [jsL]
  | x :: l => by
    have h := jsL_length l
    have h1 := jsB_length x
    unfold jsL at *
    rw [List.flatMap_cons]
    simp only [List.length_cons, List.length_append] at *
    omega
end Go.Proofs.YtbdamjhgggnihaaDoor
