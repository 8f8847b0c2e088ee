/-
  The contract of rounding a natural by a power of ten, the program's. Conditions: a canonical row and a power, no longer than 2 to the 38.
-/
import Derived.Test.YtbfkmpignbppfaaShift
import Derived.Test.YtbfkmpignbppfaaNatAdd
namespace Go.Proofs.Ytbfkmpignbppfaa
open Go.RowKit
set_option linter.unusedVariables false
set_option linter.unusedSimpArgs false

theorem bs_front (s : ByteArray) (k : Nat) : bs (s.extract 0 k) = (bs s).take k := by
  show (s.extract 0 k).data.toList = _
  rw [Lib.extract_data]; simp [bs]
theorem bs_tail (s : ByteArray) (k : Nat) : bs (s.extract k s.size) = (bs s).drop k := by
  show (s.extract k s.size).data.toList = _
  rw [Lib.extract_data]
  exact List.take_of_length_le (by rw [List.length_drop, show s.data.toList = bs s from rfl, bs_length]; exact Nat.le_refl _)
theorem all_take {l : List UInt8} (h : l.all isDig = true) (k : Nat) : (l.take k).all isDig = true := by
  rw [List.all_eq_true] at h ⊢; exact fun c hc => h c (List.mem_of_mem_take hc)
theorem all_drop {l : List UInt8} (h : l.all isDig = true) (k : Nat) : (l.drop k).all isDig = true := by
  rw [List.all_eq_true] at h ⊢; exact fun c hc => h c (List.mem_of_mem_drop hc)


/-- the string of a canonical number, its last digit -/
theorem last_dec (m : Nat) : ∃ q : ByteArray, ofL (dec m) = q ∧ bs q = dec m ∧ ∃ h : 0 < q.size, q[q.size - 1].toNat = 48 + m % 10 := by
  refine ⟨ofL (dec m), rfl, rfl, ?_⟩
  have hl := dec_len m
  have hs := size_ofL (dec m)
  refine ⟨by omega, ?_⟩
  have e : (ofL (dec m))[(ofL (dec m)).size - 1]'(by omega) = (dec m)[(dec m).length - 1]'(by omega) := by
    rw [← bs_get (ofL (dec m)) _ (by omega)]
    congr 1
    try rw [hs]
  rw [e, dec_last m, ofNat_dig (Nat.mod_lt _ (by omega))]

end Go.Proofs.Ytbfkmpignbppfaa
