/-
  The contract of adding naturals, the reference's: the row of the sum. Conditions: rows of digits, no longer than 2 to the 39.
-/
import Derived.Test.YtjjpdoabagnmoaaDoorNatAdd
namespace Go.Proofs.YtjjpdoabagnmoaaDoor
open Go.RowKit
set_option linter.unusedVariables false
set_option linter.unusedSimpArgs false

theorem ofNat_val {d : Nat} (h : d < 10) : ((UInt8.ofNat (48 + d)).toNat : Int) = 48 + (d : Int) := by rw [ofNat_dig h]; omega

set_option maxRecDepth 10000 in
set_option maxHeartbeats 2000000 in
theorem l02Add_any (s t : ByteArray) (w : World) (hs : (bs s).all isDig = true) (ht : (bs t).all isDig = true) (hs' : s.size ≤ 549755813888) (ht' : t.size ≤ 549755813888) :
    Calls Tryd.prog 74 #[.string s, .string t] w fun e w' => e = .returned (.string (ofL (dec (val (bs s) + val (bs t))))) ∧ Below w.heap.size w w' := by
  obtain ⟨i0, hi, hz0, hz1, hz2⟩ := info_parts infoByte
  obtain ⟨n, hn⟩ : ∃ n : Nat, n = max s.size t.size := ⟨_, rfl⟩
  have HS := Lib.hid hs
  have HT := Lib.hid ht
  obtain ⟨A, hA⟩ : ∃ A, val (bs s) = A := ⟨_, rfl⟩
  obtain ⟨B, hB⟩ : ∃ B, val (bs t) = B := ⟨_, rfl⟩
  have hA' := val_lt (bs s) hs
  have hB' := val_lt (bs t) ht
  rw [bs_length, hA] at hA'
  rw [bs_length, hB] at hB'
  have HA := Lib.hid hA
  have HB := Lib.hid hB
  have HLA := Lib.hid hA'
  have HLB := Lib.hid hB'
  have hns : s.size ≤ n := by omega
  have hnt : t.size ≤ n := by omega
  have hnb : n ≤ 549755813888 := by omega
  rw [hA, hB]
  clear hs ht hA hB hA' hB' hn
  go_enter Tryd.func74, Tryd.ntmps74
  go_wp2
  go_loopw [5, 6, 7] (fun v c i wr => ∃ (k g cap : Nat), k ≤ n + 1 ∧ i = .int .i64 k ∧ c = .int .i64 (car A B k : Nat) ∧ v = .slice (some ⟨g, 0, none⟩) k cap ∧ wr.ownsRow w.heap.size 5 1 (.slice (some ⟨g, 0, none⟩) k cap) k ((digs (A + B) k).map byteV) ∧ Below w.heap.size w wr) (fun _ _ i _ => n + 2 - (intOf i).toNat)
  case atStart =>
    exact ⟨0, w.heap.size, 0, Nat.zero_le _, rfl, by rw [car_zero]; rfl, rfl, ownsRow_empty _ _ _ (Nat.le_refl _), (Below.refl _ _).alloc (Nat.le_refl _) _⟩
  case round =>
    obtain ⟨k, g, cap, hk, rfl, rfl, rfl, hown, hb⟩ := hrel
    have HOW := Lib.hid hown
    have HBW := Lib.hid hb
    have hlow := hb.size
    clear hown hb
    have c1 := car_le A B k
    have c2 := dgt_lt A k
    have c3 := dgt_lt B k
    have HC4 := Lib.hid (car_succ A B k)
    have HC5 := Lib.hid (car_dgt A B k)
    obtain ⟨c, hc⟩ : ∃ c, car A B k = c := ⟨_, rfl⟩
    obtain ⟨x, hx⟩ : ∃ x, dgt A k = x := ⟨_, rfl⟩
    obtain ⟨y, hy⟩ : ∃ y, dgt B k = y := ⟨_, rfl⟩
    rw [hc] at c1 ⊢
    rw [hx] at c2
    rw [hy] at c3
    have HC := Lib.hid hc
    have HX := Lib.hid hx
    have HY := Lib.hid hy
    have hcn : k = n + 1 → c = 0 := fun e => by
      rw [← hc, e]
      exact car_over (n := n) (Nat.lt_of_lt_of_le HLA.out (Nat.pow_le_pow_right (by omega) hns)) (Nat.lt_of_lt_of_le HLB.out (Nat.pow_le_pow_right (by omega) hnt)) (by omega)
    clear hc hx hy
    by_cases hgo : k < s.size ∨ k < t.size ∨ 0 < c
    · have hkn : k ≤ n := by omega
      have hd0 : 0 ≤ ((x : Int) + (y : Int) + (c : Int)) / 10 := by omega
      have hd1 : ((x : Int) + (y : Int) + (c : Int)) / 10 ≤ 1 := by omega
      have hm0 : 0 ≤ ((x : Int) + (y : Int) + (c : Int)) % 10 := by omega
      have hm1 : ((x : Int) + (y : Int) + (c : Int)) % 10 ≤ 9 := by omega
      clear hcn
      rcases (by omega : k < s.size ∨ (s.size ≤ k ∧ k < t.size) ∨ (s.size ≤ k ∧ t.size ≤ k ∧ 0 < c)) with h1 | ⟨h1, h2⟩ | ⟨h1, h2, h3⟩
      all_goals
        clear hgo
        go_wp2_with fail
        refine (l02Digit_any s k _ HS.out (by omega) (by omega)).mono ?_
        rintro e w1 ⟨rfl, hw1⟩
        obtain rfl : wr = w1 := hw1.symm
        rw [HA.out, HX.out]
        go_wp2_with fail
        refine (l02Digit_any t k _ HT.out (by omega) (by omega)).mono ?_
        rintro e w2 ⟨rfl, hw2⟩
        obtain rfl : wr = w2 := hw2.symm
        rw [HB.out, HY.out]
        clear hw1 hw2
        go_wp2_with (at_builtin; refine wpList_append_own _ rfl _ _ 29 rfl w.heap.size 5 i0 (.int .u8 0) 1 1 Tryd.underlying29 hi hz0 hz1 hz2 rfl (by decide) _ _ _ rfl (ownsRow_one wr w.heap.size 5 _ hlow) ⟨g, 0, none⟩ k cap ((digs (A + B) k).map byteV) rfl (by simp [digs_length]) (ownsRow_news (HOW.out.alloc _)) byteV_one (by unfold maxLen; omega) (by omega) (by simp; omega) ?_; intro v2 w2 hown2 hgr2 hnil2)
        have e4 := HC4.out
        have e5 := HC5.out
        rw [HC.out, HX.out, HY.out] at e4 e5
        obtain ⟨g2, cap2, rfl, hg2, hg2'⟩ := ownsRow_some hown2 (by omega)
        have hbz : Below w.heap.size w w2 := Below.grown (HBW.out.alloc hlow _) hgr2 (by simp; omega) (ownBlock_lo (ownsRow_one wr w.heap.size 5 (.bool true) hlow))
        refine ⟨⟨k + 1, g2, cap2, by omega, by go_num, by rw [← e4]; congr 1; omega, by rw [Nat.add_comm 1 k], ?_, hbz⟩, by simp [intOf]; omega⟩
        rw [digs_cons, List.map_cons, ← e5]
        rw [Nat.add_comm 1 k] at hown2
        have hx5 : byteV (UInt8.ofNat (48 + (c + x + y) % 10)) = .int .u8 (48 + ((x : Int) + (y : Int) + (c : Int)) % 10) := by
          unfold byteV; rw [ofNat_val (Nat.mod_lt _ (by omega))]; congr 1; omega
        rw [hx5]
        exact hown2
    · have hc0 : c = 0 := by omega
      have h1 : s.size ≤ k := by omega
      have h2 : t.size ≤ k := by omega
      have hconv := textOfOwned HOW.out
      have hAk : A < 10 ^ k := Nat.lt_of_lt_of_le HLA.out (Nat.pow_le_pow_right (by omega) h1)
      have hBk : B < 10 ^ k := Nat.lt_of_lt_of_le HLB.out (Nat.pow_le_pow_right (by omega) h2)
      have HTD := Lib.hid (trimZ_digs (car_end hAk hBk (by rw [HC.out, hc0])))
      subst hc0
      clear hAk hBk hcn hgo
      go_wp2_with fail
      refine (l02Trim_any _ _ (by rw [size_ofL, digs_length]; omega)).mono ?_
      rintro e w1 ⟨rfl, hw1⟩
      obtain rfl : wr = w1 := hw1.symm
      go_wp2
      go_ret
      refine ⟨ret_str ?_, HBW.out⟩
      rw [bs_ofL, HTD.out]
end Go.Proofs.YtjjpdoabagnmoaaDoor
