/-
  The blanks ahead of a text: what both sides make of them. Conditions: a string no longer than 2 to the 40.
-/
import Derived.Test.YtjjpdoabagnmoaaGreatDoorScanS
import Derived.Test.YtjjpdoabagnmoaaGreatDoorShelf
import Derived.Lib.SlTrimSet
import Derived.Shelf.Strings.SlTrimAscii
namespace Go.Proofs.YtjjpdoabagnmoaaGreatDoor
open Go.RowKit
set_option linter.unusedVariables false
set_option linter.unusedSimpArgs false

def isBl (c : UInt8) : Bool := decide (c = 32) || decide (c = 9) || decide (c = 10) || decide (c = 13)
/-- how many blanks stand ahead -/
def blN : List UInt8 → Nat
  | [] => 0
  | c :: l => if isBl c = true then blN l + 1 else 0
theorem blN_le : ∀ l : List UInt8, blN l ≤ l.length
  | [] => Nat.le_refl _
  | c :: l => by
    rw [blN]
    split
    · have := blN_le l; simp; omega
    · exact Nat.zero_le _
theorem trim_blN : ∀ l : List UInt8, Lib.trimLeftS l [32, 9, 10, 13] = l.drop (blN l)
  | [] => rfl
  | c :: l => by
    have hc : [32, 9, 10, 13].contains c = isBl c := by
      unfold isBl
      simp only [List.contains_cons, List.contains_nil, Bool.or_false, Bool.or_assoc]
      rfl
    have ih := trim_blN l
    unfold Lib.trimLeftS at ih ⊢
    rw [blN]
    by_cases h : isBl c = true
    · rw [if_pos h, List.dropWhile_cons_of_pos (by rw [hc]; exact h), ih, List.drop_succ_cons]
    · rw [if_neg h, List.dropWhile_cons_of_neg (by rw [hc]; exact h)]; rfl
theorem isBl_int (c : UInt8) : isBl c = ((((c.toNat : Int) == 32) || ((c.toNat : Int) == 9)) || ((c.toNat : Int) == 10) || ((c.toNat : Int) == 13)) := by
  have e : ∀ d : UInt8, decide (c = d) = ((c.toNat : Int) == (d.toNat : Int)) := fun d => by
    rw [Bool.eq_iff_iff, decide_eq_true_iff, beq_iff_eq]
    exact ⟨fun h => by rw [h], fun h => u8_eq h⟩
  unfold isBl
  rw [e 32, e 9, e 10, e 13]
  rfl
theorem isBlank_to (x : Int) (c : UInt8) (b : Bool) (w : World) (hx : x = (c.toNat : Int)) (hb : isBl c = b) :
    Calls Tryz.prog 32 #[.int .i64 x] w fun e w' => e = .returned (.bool b) ∧ w' = w := by
  subst hx hb
  rw [isBl_int]
  obtain ⟨b1, h1⟩ : ∃ b, ((c.toNat : Int) == 32) = b := ⟨_, rfl⟩
  obtain ⟨b2, h2⟩ : ∃ b, ((c.toNat : Int) == 9) = b := ⟨_, rfl⟩
  obtain ⟨b3, h3⟩ : ∃ b, ((c.toNat : Int) == 10) = b := ⟨_, rfl⟩
  obtain ⟨b4, h4⟩ : ∃ b, ((c.toNat : Int) == 13) = b := ⟨_, rfl⟩
  rw [h1, h2, h3, h4]
  cases b1 <;> cases b2 <;> cases b3 <;> cases b4
  all_goals
    go_enter Tryz.func32, Tryz.ntmps32
    go_wp2
    go_ret
    exact ⟨rfl, rfl⟩
theorem bl_at {s : ByteArray} {k A : Nat} (h : k < s.size) (hd : isBl s[k] = true) (h1 : k + blN ((bs s).drop k) = A) : k + 1 + blN ((bs s).drop (k + 1)) = A := by
  rw [bs_drop s k h, blN, if_pos hd] at h1
  omega
theorem bl_out {s : ByteArray} {k A : Nat} (h : k < s.size) (hd : isBl s[k] = false) (h1 : k + blN ((bs s).drop k) = A) : k = A := by
  rw [bs_drop s k h, blN, if_neg (by rw [hd]; decide)] at h1
  exact h1
theorem bl_over {s : ByteArray} {k A : Nat} (h : ¬ k < s.size) (h1 : k + blN ((bs s).drop k) = A) : k = A := by
  rw [drop_over h] at h1
  exact h1
theorem l04Start_to (s : ByteArray) (A : Nat) (w : World) (hs : s.size ≤ 1099511627776) (hA : blN (bs s) = A) :
    Calls Tryz.prog 30 #[.string s] w fun e w' => e = .returned (.int .i64 (A : Int)) ∧ w' = w := by
  have HA := Lib.hid (show 0 + blN ((bs s).drop 0) = A by rw [Nat.zero_add]; exact hA)
  clear hA
  go_enter Tryz.func30, Tryz.ntmps30
  go_wp2
  go_loop [3] (fun i => ∃ k : Nat, k ≤ s.size ∧ i = .int .i64 (k : Int) ∧ k + blN ((bs s).drop k) = A) (fun i => s.size - (intOf i).toNat)
  case atStart => exact ⟨0, by omega, rfl, HA.out⟩
  case round =>
    obtain ⟨k, hk, rfl, hr⟩ := hrel
    have HR := Lib.hid hr
    clear hr
    by_cases hlt : k < s.size
    · cases hd : isBl s[k]
      · obtain rfl := bl_out hlt hd HR.out
        go_wp2_with (go_at_call 32; refine (isBlank_to _ s[k] _ _ (by first | omega | (rw [IntWalk.wrap64_in _ (by have := UInt8.toNat_lt s[k]; omega)])) hd).mono ?_; rintro e w1 ⟨rfl, rfl⟩)
        go_ret
        exact ⟨rfl, rfl⟩
      · go_wp2_with (go_at_call 32; refine (isBlank_to _ s[k] _ _ (by first | omega | (rw [IntWalk.wrap64_in _ (by have := UInt8.toNat_lt s[k]; omega)])) hd).mono ?_; rintro e w1 ⟨rfl, rfl⟩)
        go_round
        case rel => exact ⟨k + 1, by omega, by go_num, bl_at hlt hd HR.out⟩
        case measure => simp [intOf]; omega
    · obtain rfl := bl_over hlt HR.out
      go_wp2
      go_ret
      exact ⟨rfl, rfl⟩
theorem trimBlanks_to (t T : ByteArray) (w : World) (hr : (bs t).drop (blN (bs t)) = bs T) :
    Calls Tryz.prog 34 #[.string t, .string ⟨#[32, 9, 10, 13]⟩] w fun e w' => e = .returned (.string T) ∧ Below w.heap.size w w' := by
  refine (Any.strings_TrimLeft_laid Tryz.lays161 (by kernel_rfl) t ⟨#[32, 9, 10, 13]⟩ w (by decide) (ascii_of_all (by decide))).mono ?_
  rintro e w' ⟨rfl, hb⟩
  refine ⟨?_, hb⟩
  show Ending.returned (Value.string (ofL (Lib.trimLeftS (bs t) [32, 9, 10, 13]))) = _
  rw [trim_blN, hr, ofL_bs]
theorem l03Scan_over (s : ByteArray) (k0 : Nat) (w : World) (hs : s.size ≤ 1099511627776) (h : ¬ k0 < s.size) (hk : k0 ≤ 1099511627776) :
    Calls Tryz.prog 57 #[.string s, .int .i64 (k0 : Int)] w fun e w' => e = .returned (.int .i64 (k0 : Int)) ∧ w' = w := by
  go_enter Tryz.func57, Tryz.ntmps57
  go_wp2
  go_loop [5, 6, 7] (fun u v q => u = .int .i64 (k0 : Int) ∧ v = .int .i64 0) (fun _ _ _ => 0)
  case atStart => exact ⟨rfl, rfl⟩
  case round =>
    obtain ⟨rfl, rfl⟩ := hrel
    go_wp2
    go_ret
    exact ⟨rfl, rfl⟩
theorem l03Scan_to (s : ByteArray) (x : Int) (k0 K : Nat) (w : World) (hx : x = (k0 : Int)) (hs : s.size ≤ 1099511627776) (hk : k0 ≤ s.size) (hK : k0 + scanN ((bs s).drop k0) = K) :
    Calls Tryz.prog 57 #[.string s, .int .i64 x] w fun e w' => e = .returned (.int .i64 (K : Int)) ∧ w' = w := by
  subst hx
  by_cases h : k0 < s.size
  · rw [← hK]; exact l03Scan_any s k0 w hs h
  · rw [drop_over h] at hK
    obtain rfl : k0 = K := hK
    exact l03Scan_over s k0 w hs h (by omega)
theorem decEnd_to' (s : ByteArray) (K : Nat) (w : World) (hs : s.size ≤ 1099511627776) (hK : scanN (bs s) = K) :
    Calls Tryz.prog 43 #[.string s] w fun e w' => e = .returned (.int .i64 (K : Int)) ∧ w' = w := by
  subst hK; exact decEnd_any s w hs
end Go.Proofs.YtjjpdoabagnmoaaGreatDoor
