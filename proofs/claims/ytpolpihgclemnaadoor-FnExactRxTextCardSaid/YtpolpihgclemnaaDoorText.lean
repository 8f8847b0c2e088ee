/-
  Plain facts on texts as lists of bytes: digits, naturals' texts, and small lemmas on lists. No program here. No condition.
-/
import Derived.Test.YtpolpihgclemnaaDoorRows
import Derived.WalkKit
import Derived.Lib.Hide
import Derived.Lib.Strings
namespace Go.Proofs.YtpolpihgclemnaaDoor
open Go.RowKit

/-- the bytes of a string -/
abbrev bs (s : ByteArray) : List UInt8 := s.data.toList

theorem bs_length (s : ByteArray) : (bs s).length = s.size := by
  unfold bs; rw [Array.length_toList]; rfl
theorem bs_get (s : ByteArray) (k : Nat) (h : k < s.size) : (bs s)[k]'(by rw [bs_length]; exact h) = s[k] := by
  simp [bs]; rfl
theorem take_snoc (s : ByteArray) (k : Nat) (h : k < s.size) : (bs s).take (k + 1) = (bs s).take k ++ [s[k]] := by
  rw [List.take_succ_eq_append_getElem (by rw [bs_length]; exact h), bs_get s k h]
theorem take_all (s : ByteArray) : (bs s).take s.size = bs s := by
  rw [List.take_of_length_le]; rw [bs_length]; exact Nat.le_refl _
theorem bs_mem (s : ByteArray) (k : Nat) (h : k < s.size) : s[k] ∈ bs s := by
  rw [← bs_get s k h]; exact List.getElem_mem _

/-- a digit -/
def isDig (c : UInt8) : Bool := decide (48 ≤ (c.toNat : Int)) && decide ((c.toNat : Int) ≤ 57)
theorem isDig_iff (c : UInt8) : isDig c = true ↔ 48 ≤ (c.toNat : Int) ∧ (c.toNat : Int) ≤ 57 := by simp [isDig]
theorem isDig_no {c : UInt8} (h : (c.toNat : Int) < 48 ∨ 57 < (c.toNat : Int)) : isDig c = false := by
  simp [isDig]; omega

/-- a code point -/
def isPt (c : Int) : Bool := decide (1 ≤ c) && decide (c ≤ 1114111) && !(decide (55296 ≤ c) && decide (c ≤ 57343))

theorem isPt_iff (c : Int) : isPt c = true ↔ 1 ≤ c ∧ c ≤ 1114111 ∧ ¬ (55296 ≤ c ∧ c ≤ 57343) := by
  unfold isPt; simp; omega

/-- a natural's text: 1 to 600 digits, no 0 ahead but in "0" -/
def natOk (l : List UInt8) : Bool := l.all isDig && (decide (1 ≤ l.length) && decide (l.length ≤ 600) && (decide (l.length = 1) || l.head? != some 48))

theorem ret_bool {a b : Bool} (h : a = b) : Ending.returned (.bool a) = .returned (.bool b) := by rw [h]
theorem ret_int {k : IntKind} {a b : Int} (h : a = b) : Ending.returned (.int k a) = .returned (.int k b) := by rw [h]
theorem all_no {l : List UInt8} {p : UInt8 → Bool} {c : UInt8} (h : c ∈ l) (hc : p c = false) : l.all p = false := by
  rw [List.all_eq_false]; exact ⟨c, h, by simp [hc]⟩
theorem natOk_big {l : List UInt8} (h : 600 < l.length) : natOk l = false := by
  unfold natOk; rw [decide_eq_false (p := l.length ≤ 600) (by omega)]; simp
theorem natOk_empty {l : List UInt8} (h : l.length < 1) : natOk l = false := by
  unfold natOk; rw [decide_eq_false (p := 1 ≤ l.length) (by omega)]; simp
theorem natOk_nz {c : UInt8} {l : List UInt8} (ha : (c :: l).all isDig = true) (h2 : (c :: l).length ≤ 600) (h : ¬ (c.toNat : Int) = 48) : natOk (c :: l) = true := by
  have hc : ¬ c = 48 := fun e => h (by rw [e]; rfl)
  unfold natOk; rw [ha, decide_eq_true h2]; simp [hc]
theorem natOk_z {c : UInt8} {l : List UInt8} (ha : (c :: l).all isDig = true) (h2 : (c :: l).length ≤ 600) (h : (c.toNat : Int) = 48) : natOk (c :: l) = ((c :: l) == [48]) := by
  have hc : c = 48 := UInt8.toNat_inj.1 (by have e : (48 : UInt8).toNat = 48 := rfl; omega)
  subst hc
  unfold natOk; rw [ha, decide_eq_true h2]
  cases l with
  | nil => simp
  | cons d l => simp
theorem bs_drop (s : ByteArray) (k : Nat) (h : k < s.size) : (bs s).drop k = s[k] :: (bs s).drop (k + 1) := by
  rw [← bs_get s k h]; exact List.drop_eq_getElem_cons _
theorem bs_cons (s : ByteArray) (h : 0 < s.size) : ∃ l, bs s = s[0] :: l := ⟨_, bs_drop s 0 h⟩
theorem u8_lt (c : UInt8) : (c.toNat : Int) < 256 := by have := c.toNat_lt; omega
theorem wrap64_u8 (c : UInt8) : wrap64 (c.toNat : Int) = (c.toNat : Int) := IntWalk.wrap64_in _ (by have := u8_lt c; constructor <;> omega)
theorem bs_head (s : ByteArray) (h : 0 < s.size) : (bs s).head? = some s[0] := by
  obtain ⟨l, hl⟩ := bs_cons s h; rw [hl]; rfl
theorem bs_last (s : ByteArray) (h : 0 < s.size) : (bs s).getLast? = some (s[s.size - 1]'(by omega)) := by
  rw [← bs_get s (s.size - 1) (by omega), List.getLast?_eq_getElem?]
  have e : (bs s).length - 1 = s.size - 1 := by rw [bs_length]
  rw [e, List.getElem?_eq_getElem]
theorem u8_eq {c : UInt8} {d : UInt8} (h : (c.toNat : Int) = (d.toNat : Int)) : c = d := UInt8.toNat_inj.1 (by omega)
theorem u8_48 {c : UInt8} (h : (c.toNat : Int) = 48) : c = 48 := u8_eq h
theorem u8_n48 {c : UInt8} (h : ¬ (c.toNat : Int) = 48) : ¬ c = 48 := fun e => h (by rw [e]; rfl)
theorem bs_empty {s : ByteArray} (h : s.size = 0) : bs s = [] := List.eq_nil_of_length_eq_zero (by rw [bs_length]; exact h)
theorem isEmpty_yes {s : ByteArray} (h : s.size = 0) : s.toList.isEmpty = true := by rw [Lib.toList_data]; show (bs s).isEmpty = true; rw [bs_empty h]; rfl
theorem isEmpty_no {s : ByteArray} (h : 0 < s.size) : s.toList.isEmpty = false := by
  rw [Lib.toList_data]; show (bs s).isEmpty = false; obtain ⟨l, hl⟩ := bs_cons s h; rw [hl]; rfl
theorem ne_nil {s : ByteArray} (h : 0 < s.size) : ¬ bs s = [] := by obtain ⟨l, hl⟩ := bs_cons s h; rw [hl]; simp
/-- what lies below B reads in w1 as in W -/
theorem bcell {B : Nat} {W w1 : World} (hb : Below B W w1) : (∀ b o, b < B → w1.cell? ⟨b, o, none⟩ = W.cell? ⟨b, o, none⟩) ∧ (∀ b o, b < B → w1.frozen? ⟨b, o, none⟩ = W.frozen? ⟨b, o, none⟩) :=
  ⟨fun b o h => hb.cell (p := ⟨b, o, none⟩) h, fun b o h => hb.frozen (p := ⟨b, o, none⟩) h⟩
end Go.Proofs.YtpolpihgclemnaaDoor
