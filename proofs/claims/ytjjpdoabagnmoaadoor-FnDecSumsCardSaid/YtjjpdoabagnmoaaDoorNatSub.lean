/-
  The contract of taking away, the program's: the row of the difference. Conditions: rows of digits, no longer than 2 to the 39; the second number is not greater.
-/
import Derived.Test.YtjjpdoabagnmoaaDoorNatAdd
namespace Go.Proofs.YtjjpdoabagnmoaaDoor
open Go.RowKit
set_option linter.unusedVariables false
set_option linter.unusedSimpArgs false

set_option maxHeartbeats 1000000 in
theorem natSub_any (s t : ByteArray) (w : World) (hs : (bs s).all isDig = true) (ht : (bs t).all isDig = true) (hs' : s.size ≤ 549755813888) (ht' : t.size ≤ 549755813888) (hle : val (bs t) ≤ val (bs s)) :
    Calls Tryd.prog 72 #[.string s, .string t] w fun e w' => e = .returned (.string (ofL (dec (val (bs s) - val (bs t))))) ∧ Below w.heap.size w w' := by
  have hmk := makeBytes s.size (by omega)
  have HF := Lib.hid (fillBytes w s.size)
  have HS := Lib.hid hs
  have HT := Lib.hid ht
  have HLE := Lib.hid hle
  have hA := val_lt (bs s) hs
  rw [bs_length] at hA
  have HLT := Lib.hid (show val (bs s) - val (bs t) < 10 ^ s.size by omega)
  clear hs ht hA hle
  go_enter Tryd.func72, Tryd.ntmps72
  go_wp2
  clear hmk
  go_loopw [7, 15] (fun c i wr => ∃ k : Nat, k ≤ s.size ∧ i = .int .i64 k ∧ c = .int .i64 (owe (val (bs s)) (val (bs t)) k : Nat) ∧ Fill w wr w.heap.size s.size (fun j => if s.size - k ≤ j then .int .u8 (48 + (dgt (val (bs s) - val (bs t)) (s.size - 1 - j) : Nat)) else .int .u8 0)) (fun _ i _ => s.size - (intOf i).toNat)
  case atStart =>
    refine ⟨0, Nat.zero_le _, rfl, by rw [owe_zero]; rfl, HF.out.congr (fun j hj => ?_)⟩
    rw [if_neg (by omega)]
  case round =>
    obtain ⟨k, hk, rfl, rfl, hfill⟩ := hrel
    have HI := Lib.hid hfill
    clear hfill
    obtain ⟨A, hA⟩ : ∃ A, val (bs s) = A := ⟨_, rfl⟩
    obtain ⟨B, hB⟩ : ∃ B, val (bs t) = B := ⟨_, rfl⟩
    rw [hA, hB] at HI ⊢
    have HA := Lib.hid hA
    have HB := Lib.hid hB
    clear hA hB
    by_cases hlt : k < s.size
    · have c1 := owe_le A B k
      have c2 := dgt_lt A k
      have c3 := dgt_lt B k
      have HC4 := Lib.hid (owe_step A B k (by rw [← HA.out, ← HB.out]; exact HLE.out))
      obtain ⟨c, hc⟩ : ∃ c, owe A B k = c := ⟨_, rfl⟩
      obtain ⟨x, hx⟩ : ∃ x, dgt A k = x := ⟨_, rfl⟩
      obtain ⟨y, hy⟩ : ∃ y, dgt B k = y := ⟨_, rfl⟩
      rw [hc] at c1 ⊢
      rw [hx] at c2
      rw [hy] at c3
      have HC := Lib.hid hc
      have HX := Lib.hid hx
      have HY := Lib.hid hy
      clear hc hx hy
      have hs0 := HI.out.cell (s.size - 1 - k) (by omega)
      have hf0 := HI.out.free (s.size - 1 - k) (by omega)
      rw [if_neg (by omega)] at hs0
      have ht0 : ((s.size : Int) - 1 - (k : Int)).toNat = s.size - 1 - k := by omega
      have ht1 : 0 ≤ (s.size : Int) - 1 - (k : Int) := by omega
      have ht2 : (s.size : Int) - 1 - (k : Int) < (s.size : Int) := by omega
      have hkn : (k : Int) < (s.size : Int) := by omega
      by_cases hbor : y + c ≤ x
      · have hbi : 0 ≤ (x : Int) - (y : Int) - (c : Int) := by omega
        have hbor' := hbor
        go_wp2_with fail
        refine (digitAt_any s k _ HS.out (by omega) (by omega)).mono ?_
        rintro e w1 ⟨rfl, hw1⟩
        obtain rfl : wr = w1 := hw1.symm
        rw [HA.out, HX.out]
        go_wp2_with fail
        refine (digitAt_any t k _ HT.out (by omega) (by omega)).mono ?_
        rintro e w2 ⟨rfl, hw2⟩
        obtain rfl : wr = w2 := hw2.symm
        rw [HB.out, HY.out]
        clear hw1 hw2
        go_wp2
        have e4 := HC4.out
        rw [HC.out, HX.out, HY.out] at e4
        obtain ⟨e5, e6⟩ := e4.1 hbor'
        refine ⟨⟨k + 1, by omega, by go_num, by rw [e5]; rfl, ?_⟩, by simp [intOf]; omega⟩
        refine (HI.out.store (j := s.size - 1 - k) (by omega) _).congr ?_
        intro j hj
        by_cases e : j = s.size - 1 - k
        · rw [if_pos e, if_pos (by omega), e, show s.size - 1 - (s.size - 1 - k) = k by omega, e6]
          congr 1
          omega
        · rw [if_neg e]
          by_cases e1 : s.size - k ≤ j
          · rw [if_pos e1, if_pos (by omega)]
          · rw [if_neg e1, if_neg (by omega)]
      · have hbi : (x : Int) - (y : Int) - (c : Int) < 0 := by omega
        have hbor' : x < y + c := by omega
        go_wp2_with fail
        refine (digitAt_any s k _ HS.out (by omega) (by omega)).mono ?_
        rintro e w1 ⟨rfl, hw1⟩
        obtain rfl : wr = w1 := hw1.symm
        rw [HA.out, HX.out]
        go_wp2_with fail
        refine (digitAt_any t k _ HT.out (by omega) (by omega)).mono ?_
        rintro e w2 ⟨rfl, hw2⟩
        obtain rfl : wr = w2 := hw2.symm
        rw [HB.out, HY.out]
        clear hw1 hw2
        go_wp2
        have e4 := HC4.out
        rw [HC.out, HX.out, HY.out] at e4
        obtain ⟨e5, e6⟩ := e4.2 hbor'
        refine ⟨⟨k + 1, by omega, by go_num, by rw [e5]; rfl, ?_⟩, by simp [intOf]; omega⟩
        refine (HI.out.store (j := s.size - 1 - k) (by omega) _).congr ?_
        intro j hj
        by_cases e : j = s.size - 1 - k
        · rw [if_pos e, if_pos (by omega), e, show s.size - 1 - (s.size - 1 - k) = k by omega, e6]
          congr 1
          omega
        · rw [if_neg e]
          by_cases e1 : s.size - k ≤ j
          · rw [if_pos e1, if_pos (by omega)]
          · rw [if_neg e1, if_neg (by omega)]
    · obtain rfl : k = s.size := by omega
      have hconv := textOfDigs (cap := s.size) (HI.out.congr (fun j hj => if_pos (by omega)))
      have HTD := Lib.hid (trimZ_digs HLT.out)
      go_wp2_with fail
      refine (trimNat_any _ _).mono ?_
      rintro e w1 ⟨rfl, rfl⟩
      go_wp2
      go_ret
      refine ⟨ret_str ?_, HI.out.below⟩
      rw [bs_ofL, ← HA.out, ← HB.out, HTD.out]
end Go.Proofs.YtjjpdoabagnmoaaDoor
