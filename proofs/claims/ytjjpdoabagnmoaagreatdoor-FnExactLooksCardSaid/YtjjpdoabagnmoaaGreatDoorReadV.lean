/-
  What a number's text is worth, and small facts on its bytes. No condition but the text's parts.
-/
import Derived.Test.YtjjpdoabagnmoaaGreatDoorReadL
import Derived.Test.YtjjpdoabagnmoaaGreatDoorScan
import Derived.Test.YtjjpdoabagnmoaaGreatDoorFormS
import Derived.Test.YtjjpdoabagnmoaaGreatDoorThree
namespace Go.Proofs.YtjjpdoabagnmoaaGreatDoor
open Go.RowKit
set_option linter.unusedVariables false
set_option linter.unusedSimpArgs false

/-- the number that a text's parts tell, and the code -/
def readV (sg d1 d2 sg2 d3 : List UInt8) : Value := formV (decide (sg = [45])) (val (d1 ++ d2)) (exV sg2 d3 - (d2.length : Int))
theorem bs_one' (s : ByteArray) (k : Nat) (h : k < s.size) : bs (s.extract k (k + 1)) = [s[k]] := by
  have e : bs (s.extract k (k + 1)) = ((bs s).take (k + 1)).drop k := by
    show (s.extract k (k + 1)).data.toList = _
    rw [ByteArray.data_extract, Array.toList_extract]
    simp only [List.extract_eq_take_drop]
    rw [List.drop_take]
  rw [e, List.drop_take, bs_drop s k h]
  simp
theorem byte_sub (c : UInt8) (h : isDig c = true) : IntKind.u8.wrap ((c.toNat : Int) - 48) = ((c.toNat - 48 : Nat) : Int) := by
  have := (isDig_iff c).1 h
  rw [IntWalk.u8_in _ (by omega)]
  omega
theorem l03Digit_at (x : Int) (c : UInt8) (b : Bool) (w : World) (hx : x = (c.toNat : Int)) (h : isDig c = b) :
    Calls Tryz.prog 58 #[.int .u8 x] w fun e w' => e = .returned (.bool b) ∧ w' = w := by
  subst hx h; exact l03Digit_any c w
/-- what the first byte tells of the sign -/
theorem first_byte {s : ByteArray} {sg b d1 d2 ex : List UInt8} (hl : bs s = sg ++ (b ++ ex)) (h1 : IsSg sg) (h2 : IsBody b d1 d2) :
    ∃ h : 0 < s.size, (sg = [] ∧ ((s[0].toNat : Int) == 43) = false ∧ ((s[0].toNat : Int) == 45) = false) ∨ (sg = [43] ∧ (s[0].toNat : Int) = 43) ∨ (sg = [45] ∧ (s[0].toNat : Int) = 45) := by
  obtain ⟨c, r, hb, hc⟩ := body_head h2
  have h0 : 0 < s.size := by rw [← bs_length, hl, hb]; simp; omega
  have e := bs_drop s 0 h0
  rw [List.drop_zero, hl] at e
  refine ⟨h0, ?_⟩
  rcases h1 with rfl | rfl | rfl
  · left
    rw [hb] at e
    simp only [List.nil_append, List.cons_append, List.cons.injEq] at e
    rw [← e.1]
    refine ⟨rfl, ?_, ?_⟩
    all_goals
      rw [beq_eq_false_iff_ne]
      rcases hc with hc | rfl
      · have := (isDig_iff c).1 hc; omega
      · decide
  · right; left
    simp only [List.nil_append, List.cons_append, List.cons.injEq] at e
    exact ⟨rfl, by rw [← e.1]; rfl⟩
  · right; right
    simp only [List.nil_append, List.cons_append, List.cons.injEq] at e
    exact ⟨rfl, by rw [← e.1]; rfl⟩

end Go.Proofs.YtjjpdoabagnmoaaGreatDoor
