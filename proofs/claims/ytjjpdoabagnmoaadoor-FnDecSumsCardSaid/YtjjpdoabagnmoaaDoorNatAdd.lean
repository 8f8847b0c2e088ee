/-
  The contracts of adding naturals, the program's: the row of the sum. Conditions: rows of digits, no longer than 2 to the 39.
-/
import Derived.Test.YtjjpdoabagnmoaaDoorSums
import Derived.Test.YtjjpdoabagnmoaaDoorFill
import Derived.Test.YtjjpdoabagnmoaaDoorNat1
namespace Go.Proofs.YtjjpdoabagnmoaaDoor
open Go.RowKit
set_option linter.unusedVariables false
set_option linter.unusedSimpArgs false

theorem ret_str {s t : ByteArray} (h : s = t) : Ending.returned (.string s) = .returned (.string t) := by rw [h]

set_option maxHeartbeats 1000000 in
theorem natAdd_any (s t : ByteArray) (w : World) (hs : (bs s).all isDig = true) (ht : (bs t).all isDig = true) (hs' : s.size ≤ 549755813888) (ht' : t.size ≤ 549755813888) :
    Calls Tryd.prog 70 #[.string s, .string t] w fun e w' => e = .returned (.string (ofL (dec (val (bs s) + val (bs t))))) ∧ Below w.heap.size w w' := by
  obtain ⟨n, hn⟩ : ∃ n : Nat, n = max s.size t.size + 1 := ⟨_, rfl⟩
  have hmk := makeBytes n (by omega)
  have HF := Lib.hid (fillBytes w n)
  have HS := Lib.hid hs
  have HT := Lib.hid ht
  have hA := val_lt (bs s) hs
  have hB := val_lt (bs t) ht
  rw [bs_length] at hA hB
  have hlt : val (bs s) + val (bs t) < 10 ^ n := by
    have h1 : 10 ^ s.size ≤ 10 ^ (max s.size t.size) := Nat.pow_le_pow_right (by omega) (by omega)
    have h2 : 10 ^ t.size ≤ 10 ^ (max s.size t.size) := Nat.pow_le_pow_right (by omega) (by omega)
    rw [hn, Nat.pow_succ]; omega
  have HLT := Lib.hid hlt
  have hmax : (max (s.size : Int) (t.size : Int)) + 1 = (n : Int) := by omega
  have hn0 : 1 ≤ n := by omega
  have hnb : n ≤ 549755813889 := by omega
  have HN := Lib.hid hn
  clear hs ht hA hB hlt hn
  go_enter Tryd.func70, Tryd.ntmps70
  go_wp2
  clear hmk hmax
  go_loopw [7, 18] (fun c i wr => ∃ k : Nat, k ≤ n ∧ i = .int .i64 k ∧ c = .int .i64 (car (val (bs s)) (val (bs t)) k : Nat) ∧ Fill w wr w.heap.size n (fun j => if n - k ≤ j then .int .u8 (48 + (dgt (val (bs s) + val (bs t)) (n - 1 - j) : Nat)) else .int .u8 0)) (fun _ i _ => n - (intOf i).toNat)
  case atStart =>
    refine ⟨0, Nat.zero_le _, rfl, by rw [car_zero]; rfl, HF.out.congr (fun j hj => ?_)⟩
    rw [if_neg (by omega)]
  case round =>
    obtain ⟨k, hk, rfl, rfl, hfill⟩ := hrel
    have HI := Lib.hid hfill
    clear hfill
    obtain ⟨A, hA⟩ : ∃ A, val (bs s) = A := ⟨_, rfl⟩
    obtain ⟨B, hB⟩ : ∃ B, val (bs t) = B := ⟨_, rfl⟩
    rw [hA, hB] at HI ⊢
    have HA := Lib.hid hA
    have HB := Lib.hid hB
    clear hA hB
    by_cases hlt : k < n
    · have c1 := car_le A B k
      have c2 := dgt_lt A k
      have c3 := dgt_lt B k
      have HC4 := Lib.hid (car_succ A B k)
      have HC5 := Lib.hid (car_dgt A B k)
      obtain ⟨c, hc⟩ : ∃ c, car A B k = c := ⟨_, rfl⟩
      obtain ⟨x, hx⟩ : ∃ x, dgt A k = x := ⟨_, rfl⟩
      obtain ⟨y, hy⟩ : ∃ y, dgt B k = y := ⟨_, rfl⟩
      rw [hc] at c1 ⊢
      rw [hx] at c2
      rw [hy] at c3
      have HC := Lib.hid hc
      have HX := Lib.hid hx
      have HY := Lib.hid hy
      clear hc hx hy
      have hs0 := HI.out.cell (n - 1 - k) (by omega)
      have hf0 := HI.out.free (n - 1 - k) (by omega)
      rw [if_neg (by omega)] at hs0
      have ht0 : ((n : Int) - 1 - (k : Int)).toNat = n - 1 - k := by omega
      have ht1 : 0 ≤ (n : Int) - 1 - (k : Int) := by omega
      have ht2 : (n : Int) - 1 - (k : Int) < (n : Int) := by omega
      have hkn : (k : Int) < (n : Int) := by omega
      have hd0 : 0 ≤ ((c : Int) + ((x : Int) + (y : Int))) / 10 := by omega
      have hd1 : ((c : Int) + ((x : Int) + (y : Int))) / 10 ≤ 1 := by omega
      have hm0 : 0 ≤ ((c : Int) + ((x : Int) + (y : Int))) % 10 := by omega
      have hm1 : ((c : Int) + ((x : Int) + (y : Int))) % 10 ≤ 9 := by omega
      go_wp2_with fail
      refine (digitAt_any s k _ HS.out (by omega) (by omega)).mono ?_
      rintro e w1 ⟨rfl, hw1⟩
      obtain rfl : wr = w1 := hw1.symm
      rw [HA.out, HX.out]
      go_wp2_with fail
      refine (digitAt_any t k _ HT.out (by omega) (by omega)).mono ?_
      rintro e w2 ⟨rfl, hw2⟩
      obtain rfl : wr = w2 := hw2.symm
      rw [HB.out, HY.out]
      clear hw1 hw2
      go_wp2
      have e4 := HC4.out
      have e5 := HC5.out
      rw [HC.out, HX.out, HY.out] at e4 e5
      refine ⟨⟨k + 1, by omega, by go_num, by rw [← e4]; congr 1; omega, ?_⟩, by simp [intOf]; omega⟩
      refine (HI.out.store (j := n - 1 - k) (by omega) _).congr ?_
      intro j hj
      by_cases e : j = n - 1 - k
      · rw [if_pos e, if_pos (by omega), e, show n - 1 - (n - 1 - k) = k by omega, ← e5]
        congr 1
        omega
      · rw [if_neg e]
        by_cases e1 : n - k ≤ j
        · rw [if_pos e1, if_pos (by omega)]
        · rw [if_neg e1, if_neg (by omega)]
    · obtain rfl : k = n := by omega
      have hconv := textOfDigs (cap := k) (HI.out.congr (fun j hj => if_pos (by omega)))
      have HTD := Lib.hid (trimZ_digs HLT.out)
      go_wp2_with fail
      refine (trimNat_any _ _).mono ?_
      rintro e w1 ⟨rfl, rfl⟩
      go_wp2
      go_ret
      refine ⟨ret_str ?_, HI.out.below⟩
      rw [bs_ofL, ← HA.out, ← HB.out, HTD.out]
end Go.Proofs.YtjjpdoabagnmoaaDoor
