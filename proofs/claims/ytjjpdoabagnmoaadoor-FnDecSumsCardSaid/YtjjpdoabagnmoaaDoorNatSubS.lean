/-
  The contract of taking away, the reference's: the row of the difference. Conditions: rows of digits, no longer than 2 to the 39; the second number is not greater.
-/
import Derived.Test.YtjjpdoabagnmoaaDoorNatAddS
import Derived.Test.YtjjpdoabagnmoaaDoorNatSub
namespace Go.Proofs.YtjjpdoabagnmoaaDoor
open Go.RowKit
set_option linter.unusedVariables false
set_option linter.unusedSimpArgs false

set_option maxRecDepth 10000 in
set_option maxHeartbeats 2000000 in
theorem l02Sub_any (s t : ByteArray) (w : World) (hs : (bs s).all isDig = true) (ht : (bs t).all isDig = true) (hs' : s.size ≤ 549755813888) (ht' : t.size ≤ 549755813888) (hle : val (bs t) ≤ val (bs s)) :
    Calls Tryd.prog 76 #[.string s, .string t] w fun e w' => e = .returned (.string (ofL (dec (val (bs s) - val (bs t))))) ∧ Below w.heap.size w w' := by
  obtain ⟨i0, hi, hz0, hz1, hz2⟩ := info_parts infoByte
  have HS := Lib.hid hs
  have HT := Lib.hid ht
  obtain ⟨A, hA⟩ : ∃ A, val (bs s) = A := ⟨_, rfl⟩
  obtain ⟨B, hB⟩ : ∃ B, val (bs t) = B := ⟨_, rfl⟩
  have hA' := val_lt (bs s) hs
  rw [bs_length, hA] at hA'
  have HA := Lib.hid hA
  have HB := Lib.hid hB
  rw [hA, hB] at hle
  have HLE := Lib.hid hle
  have HLT := Lib.hid (show A - B < 10 ^ s.size by omega)
  rw [hA, hB]
  clear hs ht hA hB hA' hle
  go_enter Tryd.func76, Tryd.ntmps76
  go_wp2
  go_loopw [5, 6, 7] (fun v c i wr => ∃ (k g cap : Nat), k ≤ s.size ∧ i = .int .i64 k ∧ c = .int .i64 (owe A B k : Nat) ∧ v = .slice (some ⟨g, 0, none⟩) k cap ∧ wr.ownsRow w.heap.size 5 1 (.slice (some ⟨g, 0, none⟩) k cap) k ((digs (A - B) k).map byteV) ∧ Below w.heap.size w wr) (fun _ _ i _ => s.size - (intOf i).toNat)
  case atStart =>
    exact ⟨0, w.heap.size, 0, Nat.zero_le _, rfl, by rw [owe_zero]; rfl, rfl, ownsRow_empty _ _ _ (Nat.le_refl _), (Below.refl _ _).alloc (Nat.le_refl _) _⟩
  case round =>
    obtain ⟨k, g, cap, hk, rfl, rfl, rfl, hown, hb⟩ := hrel
    have HOW := Lib.hid hown
    have HBW := Lib.hid hb
    have hlow := hb.size
    clear hown hb
    by_cases hgo : k < s.size
    · have c1 := owe_le A B k
      have c2 := dgt_lt A k
      have c3 := dgt_lt B k
      have HC4 := Lib.hid (owe_step A B k HLE.out)
      obtain ⟨c, hc⟩ : ∃ c, owe A B k = c := ⟨_, rfl⟩
      obtain ⟨x, hx⟩ : ∃ x, dgt A k = x := ⟨_, rfl⟩
      obtain ⟨y, hy⟩ : ∃ y, dgt B k = y := ⟨_, rfl⟩
      rw [hc] at c1 ⊢
      rw [hx] at c2
      rw [hy] at c3
      have HC := Lib.hid hc
      have HX := Lib.hid hx
      have HY := Lib.hid hy
      clear hc hx hy
      by_cases hbor : y + c ≤ x
      · have hbi : 0 ≤ (x : Int) - (y : Int) - (c : Int) := by omega
        have hbor' := hbor
        go_wp2_with fail
        refine (l02Digit_any s k _ HS.out (by omega) (by omega)).mono ?_
        rintro e w1 ⟨rfl, hw1⟩
        obtain rfl : wr = w1 := hw1.symm
        rw [HA.out, HX.out]
        go_wp2_with fail
        refine (l02Digit_any t k _ HT.out (by omega) (by omega)).mono ?_
        rintro e w2 ⟨rfl, hw2⟩
        obtain rfl : wr = w2 := hw2.symm
        rw [HB.out, HY.out]
        clear hw1 hw2
        go_wp2_with (at_builtin; refine wpList_append_own _ rfl _ _ 29 rfl w.heap.size 5 i0 (.int .u8 0) 1 1 Tryd.underlying29 hi hz0 hz1 hz2 rfl (by decide) _ _ _ rfl (ownsRow_one wr w.heap.size 5 _ hlow) ⟨g, 0, none⟩ k cap ((digs (A - B) k).map byteV) rfl (by simp [digs_length]) (ownsRow_news (HOW.out.alloc _)) byteV_one (by unfold maxLen; omega) (by omega) (by simp; omega) ?_; intro v2 w2 hown2 hgr2 hnil2)
        have e4 := HC4.out
        rw [HC.out, HX.out, HY.out] at e4
        obtain ⟨e5, e6⟩ := e4.1 hbor'
        obtain ⟨g2, cap2, rfl, hg2, hg2'⟩ := ownsRow_some hown2 (by omega)
        have hbz : Below w.heap.size w w2 := Below.grown (HBW.out.alloc hlow _) hgr2 (by simp; omega) (ownBlock_lo (ownsRow_one wr w.heap.size 5 (.bool true) hlow))
        refine ⟨⟨k + 1, g2, cap2, by omega, by go_num, by rw [e5]; rfl, by rw [Nat.add_comm 1 k], ?_, hbz⟩, by simp [intOf]; omega⟩
        rw [digs_cons, List.map_cons, e6]
        rw [Nat.add_comm 1 k] at hown2
        have hx5 : byteV (UInt8.ofNat (48 + (x - y - c))) = .int .u8 (48 + ((x : Int) - (y : Int) - (c : Int))) := by
          unfold byteV; rw [ofNat_val (by omega)]; congr 1; omega
        rw [hx5]
        exact hown2
      · have hbi : (x : Int) - (y : Int) - (c : Int) < 0 := by omega
        have hbor' : x < y + c := by omega
        go_wp2_with fail
        refine (l02Digit_any s k _ HS.out (by omega) (by omega)).mono ?_
        rintro e w1 ⟨rfl, hw1⟩
        obtain rfl : wr = w1 := hw1.symm
        rw [HA.out, HX.out]
        go_wp2_with fail
        refine (l02Digit_any t k _ HT.out (by omega) (by omega)).mono ?_
        rintro e w2 ⟨rfl, hw2⟩
        obtain rfl : wr = w2 := hw2.symm
        rw [HB.out, HY.out]
        clear hw1 hw2
        go_wp2_with (at_builtin; refine wpList_append_own _ rfl _ _ 29 rfl w.heap.size 5 i0 (.int .u8 0) 1 1 Tryd.underlying29 hi hz0 hz1 hz2 rfl (by decide) _ _ _ rfl (ownsRow_one wr w.heap.size 5 _ hlow) ⟨g, 0, none⟩ k cap ((digs (A - B) k).map byteV) rfl (by simp [digs_length]) (ownsRow_news (HOW.out.alloc _)) byteV_one (by unfold maxLen; omega) (by omega) (by simp; omega) ?_; intro v2 w2 hown2 hgr2 hnil2)
        have e4 := HC4.out
        rw [HC.out, HX.out, HY.out] at e4
        obtain ⟨e5, e6⟩ := e4.2 hbor'
        obtain ⟨g2, cap2, rfl, hg2, hg2'⟩ := ownsRow_some hown2 (by omega)
        have hbz : Below w.heap.size w w2 := Below.grown (HBW.out.alloc hlow _) hgr2 (by simp; omega) (ownBlock_lo (ownsRow_one wr w.heap.size 5 (.bool true) hlow))
        refine ⟨⟨k + 1, g2, cap2, by omega, by go_num, by rw [e5]; rfl, by rw [Nat.add_comm 1 k], ?_, hbz⟩, by simp [intOf]; omega⟩
        rw [digs_cons, List.map_cons, e6]
        rw [Nat.add_comm 1 k] at hown2
        have hx5 : byteV (UInt8.ofNat (48 + (x + 10 - y - c))) = .int .u8 (48 + ((x : Int) - (y : Int) - (c : Int) + 10)) := by
          unfold byteV; rw [ofNat_val (by omega)]; congr 1; omega
        rw [hx5]
        exact hown2
    · obtain rfl : k = s.size := by omega
      have hconv := textOfOwned HOW.out
      have HTD := Lib.hid (trimZ_digs HLT.out)
      go_wp2_with fail
      refine (l02Trim_any _ _ (by rw [size_ofL, digs_length]; omega)).mono ?_
      rintro e w1 ⟨rfl, hw1⟩
      obtain rfl : wr = w1 := hw1.symm
      go_wp2
      go_ret
      refine ⟨ret_str ?_, HBW.out⟩
      rw [bs_ofL, HTD.out]
end Go.Proofs.YtjjpdoabagnmoaaDoor
