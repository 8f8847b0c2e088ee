/-
  The contracts of NumText: the numeral of every int. Condition: an int.
-/
import Derived.Test.YtpolpihgclemnaaDoorRounds
import Derived.Test.YtpolpihgclemnaaDoorFill
import Derived.Lib.ItoaNum
namespace Go.Proofs.YtpolpihgclemnaaDoor
open Go.RowKit
set_option linter.unusedVariables false
set_option linter.unusedSimpArgs false

theorem num_len {v k : Nat} (h1 : 10 ^ k ≤ v) (h2 : v < 10 ^ (k + 1)) : (dec v).length = k + 1 := by
  have a := dec_len_le (k + 1) v (by omega) h2
  have b : v < 10 ^ (dec v).length := by
    have := val_lt (dec v) (dec_all v)
    rwa [val_dec] at this
  have c : ¬ (dec v).length ≤ k := fun hc => by
    have := Nat.pow_le_pow_right (n := 10) (by omega) hc
    omega
  omega
theorem num_val {d : Nat} (h : d < 10) : ((UInt8.ofNat (48 + d)).toNat : Int) = 48 + (d : Int) := by rw [ofNat_dig h]; omega
theorem num_ret {s t : ByteArray} (h : s = t) : Ending.returned (.string s) = .returned (.string t) := by rw [h]
theorem decDigits_dec : ∀ n : Nat, Lib.decDigits n = dec n := by
  intro n
  induction n using Nat.strongRecOn with
  | ind n ih =>
    by_cases h : n < 10
    · rw [dec_small h, Lib.decDigits, dif_pos h]
    · rw [dec_big h, Lib.decDigits, dif_neg h, ih (n / 10) (by omega)]
/-- the numeral of an int -/
def numL (n : Int) : List UInt8 := if n < 0 then 45 :: dec n.natAbs else dec n.natAbs
theorem itoa_numL (n : Int) : Lib.itoa n = numL n := by
  unfold Lib.itoa numL
  by_cases h : n < 0
  · rw [if_pos h, if_pos h, decDigits_dec]
  · rw [if_neg h, if_neg h, decDigits_dec]; congr 1; omega
theorem digs_dec {A k : Nat} (h1 : A < 10 ^ k) (h2 : k = 0 ∨ 10 ^ (k - 1) ≤ A) (h0 : A ≠ 0) : digs A k = dec A := by
  have hk : k ≠ 0 := by intro e; rw [e] at h1; omega
  obtain ⟨j, rfl⟩ : ∃ j, k = j + 1 := ⟨k - 1, by omega⟩
  have h3 : 10 ^ j ≤ A := by
    rcases h2 with h | h
    · omega
    · exact h
  refine val_inj _ _ (digs_all _ _) (dec_all A) (by rw [digs_length, num_len h3 h1]) ?_
  rw [val_digs _ _ h1, val_dec]
theorem tmod_neg (M : Nat) : Int.tmod (-(M : Int)) 10 = -((M % 10 : Nat) : Int) := by
  rw [Int.neg_tmod, Int.tmod_eq_emod_of_nonneg (by omega)]; omega
theorem tdiv_neg (M : Nat) : Int.tdiv (-(M : Int)) 10 = -((M / 10 : Nat) : Int) := by
  rw [Int.neg_tdiv, Int.tdiv_eq_ediv_of_nonneg (by omega)]; omega
theorem tmod_pos (M : Nat) : Int.tmod (M : Int) 10 = ((M % 10 : Nat) : Int) := by
  rw [Int.tmod_eq_emod_of_nonneg (by omega)]; omega
theorem tdiv_pos (M : Nat) : Int.tdiv (M : Int) 10 = ((M / 10 : Nat) : Int) := by
  rw [Int.tdiv_eq_ediv_of_nonneg (by omega)]; omega
theorem div_pow_succ (A k : Nat) : A / 10 ^ k / 10 = A / 10 ^ (k + 1) := by rw [Nat.div_div_eq_div_mul, ← Nat.pow_succ]
theorem dgt_divp (A k : Nat) : A / 10 ^ k % 10 = dgt A k := rfl
theorem div_pos_pow {A k : Nat} (h : A / 10 ^ k ≠ 0) : 10 ^ k ≤ A := by
  rcases Nat.lt_or_ge A (10 ^ k) with h1 | h1
  · exact absurd (Nat.div_eq_of_lt h1) h
  · exact h1
theorem div_zero_pow {A k : Nat} (h : A / 10 ^ k = 0) : A < 10 ^ k := by
  rcases Nat.div_eq_zero_iff.1 h with h1 | h1
  · have : 0 < 10 ^ k := Nat.pow_pos (by omega)
    omega
  · exact h1

set_option maxRecDepth 10000 in
set_option maxHeartbeats 2000000 in
theorem specNumText_pos (A : Nat) (w : World) (h0 : A ≠ 0) (h1 : A ≤ 9223372036854775807) :
    Calls Tryd.prog 20 #[.int .i64 ((A : Nat) : Int)] w fun e w' => e = .returned (.string (ofL (dec A))) ∧ Below w.heap.size w w' := by
  obtain ⟨i0, hi, hz0, hz1, hz2⟩ := info_parts infoByte
  have hnz : ((((A : Nat) : Int) : Int) == 0) = false := beq_eq_false_iff_ne.2 (by omega)
  have hnn : ¬ ((A : Nat) : Int) < 0 := by omega
  go_enter Tryd.func20, Tryd.ntmps20
  go_wp2
  go_loopw [3, 4] (fun v m wr => ∃ (k g cap : Nat), k ≤ 100 ∧ (k = 0 ∨ 10 ^ (k - 1) ≤ A) ∧ m = .int .i64 ((A / 10 ^ k : Nat) : Int) ∧ v = .slice (some ⟨g, 0, none⟩) k cap ∧ wr.ownsRow w.heap.size 5 1 (.slice (some ⟨g, 0, none⟩) k cap) k ((digs A k).map byteV) ∧ Below w.heap.size w wr) (fun _ m _ => (intOf m).natAbs)
  case atStart =>
    exact ⟨0, w.heap.size, 0, Nat.zero_le _, .inl rfl, by rw [Nat.pow_zero, Nat.div_one], rfl, ownsRow_empty _ _ _ (Nat.le_refl _), (Below.refl _ _).alloc (Nat.le_refl _) _⟩
  case round =>
    obtain ⟨k, g, cap, hk, hkA, rfl, rfl, hown, hb⟩ := hrel
    have HOW := Lib.hid hown
    have HBW := Lib.hid hb
    have HKA := Lib.hid hkA
    have hlow := hb.size
    have hds := div_pow_succ A k
    have hdg := dgt_divp A k
    have hML : A / 10 ^ k ≤ 9223372036854775807 := Nat.le_trans (Nat.div_le_self _ _) h1
    have HPP := Lib.hid (div_pos_pow (A := A) (k := k))
    have HZP := Lib.hid (div_zero_pow (A := A) (k := k))
    clear hown hb hkA
    obtain ⟨M, hM⟩ : ∃ M, A / 10 ^ k = M := ⟨_, rfl⟩
    rw [hM] at hds hdg hML HPP HZP ⊢
    have HDS := Lib.hid hds
    have HDG := Lib.hid hdg
    clear hds hdg hM
    by_cases hM0 : M = 0
    · have hlt := HZP.out hM0
      have HDD := Lib.hid (digs_dec hlt HKA.out h0)
      have hconv := textOfOwned HOW.out
      subst hM0
      clear hlt
      go_wp2
      go_ret
      refine ⟨num_ret ?_, HBW.out⟩
      rw [HDD.out]
    · have hk2 : k ≤ 18 := by
        have h3 := HPP.out hM0
        rcases Nat.lt_or_ge 18 k with h | h
        · have := Nat.pow_le_pow_right (n := 10) (by decide) (show 19 ≤ k by omega)
          omega
        · exact h
      have hdl := dgt_lt A k
      have hmz : ((((M : Nat) : Int) : Int) == 0) = false := beq_eq_false_iff_ne.2 (by omega)
      have hrem : Int.tmod (((M : Nat) : Int)) 10 = ((M % 10 : Nat) : Int) := tmod_pos M
      have hquo : Int.tdiv (((M : Nat) : Int)) 10 = ((M / 10 : Nat) : Int) := tdiv_pos M
      go_wp2_with (at_builtin; refine wpList_append_own _ rfl _ _ 56 rfl w.heap.size 5 i0 (.int .u8 0) 1 1 Tryd.underlying56 hi hz0 hz1 hz2 rfl (by decide) _ _ _ rfl (ownsRow_one wr w.heap.size 5 _ hlow) ⟨g, 0, none⟩ k cap ((digs A k).map byteV) rfl (by simp [digs_length]) (ownsRow_news (HOW.out.alloc _)) byteV_one (by unfold maxLen; omega) (by omega) (by simp; omega) ?_; intro v2 w2 hown2 hgr2 hnil2)
      obtain ⟨g2, cap2, rfl, hg2, hg2'⟩ := ownsRow_some hown2 (by omega)
      have hbz : Below w.heap.size w w2 := Below.grown (HBW.out.alloc hlow _) hgr2 (by simp; omega) (ownBlock_lo (ownsRow_one wr w.heap.size 5 (.bool true) hlow))
      have hdsx := HDS.out
      have hdgx := HDG.out
      refine ⟨⟨k + 1, g2, cap2, by omega, .inr (by rw [Nat.add_sub_cancel]; exact HPP.out hM0), by congr 1; omega, by rw [Nat.add_comm 1 k], ?_, hbz⟩, by simp [intOf]; omega⟩
      rw [digs_cons, List.map_cons]
      rw [Nat.add_comm 1 k] at hown2
      have hx5 : byteV (UInt8.ofNat (48 + dgt A k)) = .int .u8 (48 + (M : Int) % 10) := by
        unfold byteV; rw [num_val hdl]; congr 1; omega
      rw [hx5]
      exact hown2

set_option maxRecDepth 10000 in
set_option maxHeartbeats 2000000 in
theorem specNumText_neg (A : Nat) (w : World) (h0 : A ≠ 0) (h1 : A ≤ 9223372036854775808) :
    Calls Tryd.prog 20 #[.int .i64 (-((A : Nat) : Int))] w fun e w' => e = .returned (.string (ofL (45 :: dec A))) ∧ Below w.heap.size w w' := by
  obtain ⟨i0, hi, hz0, hz1, hz2⟩ := info_parts infoByte
  have hnz : (((-((A : Nat) : Int)) : Int) == 0) = false := beq_eq_false_iff_ne.2 (by omega)
  have hnn : (-((A : Nat) : Int)) < 0 := by omega
  go_enter Tryd.func20, Tryd.ntmps20
  go_wp2
  go_loopw [3, 4] (fun v m wr => ∃ (k g cap : Nat), k ≤ 100 ∧ (k = 0 ∨ 10 ^ (k - 1) ≤ A) ∧ m = .int .i64 (-((A / 10 ^ k : Nat) : Int)) ∧ v = .slice (some ⟨g, 0, none⟩) k cap ∧ wr.ownsRow w.heap.size 5 1 (.slice (some ⟨g, 0, none⟩) k cap) k ((digs A k).map byteV) ∧ Below w.heap.size w wr) (fun _ m _ => (intOf m).natAbs)
  case atStart =>
    exact ⟨0, w.heap.size, 0, Nat.zero_le _, .inl rfl, by rw [Nat.pow_zero, Nat.div_one], rfl, ownsRow_empty _ _ _ (Nat.le_refl _), (Below.refl _ _).alloc (Nat.le_refl _) _⟩
  case round =>
    obtain ⟨k, g, cap, hk, hkA, rfl, rfl, hown, hb⟩ := hrel
    have HOW := Lib.hid hown
    have HBW := Lib.hid hb
    have HKA := Lib.hid hkA
    have hlow := hb.size
    have hds := div_pow_succ A k
    have hdg := dgt_divp A k
    have hML : A / 10 ^ k ≤ 9223372036854775808 := Nat.le_trans (Nat.div_le_self _ _) h1
    have HPP := Lib.hid (div_pos_pow (A := A) (k := k))
    have HZP := Lib.hid (div_zero_pow (A := A) (k := k))
    clear hown hb hkA
    obtain ⟨M, hM⟩ : ∃ M, A / 10 ^ k = M := ⟨_, rfl⟩
    rw [hM] at hds hdg hML HPP HZP ⊢
    have HDS := Lib.hid hds
    have HDG := Lib.hid hdg
    clear hds hdg hM
    by_cases hM0 : M = 0
    · have hlt := HZP.out hM0
      have HDD := Lib.hid (digs_dec hlt HKA.out h0)
      have hconv := textOfOwned HOW.out
      subst hM0
      clear hlt
      have hk3 : k ≤ 100 := hk
      go_wp2_with (at_builtin; refine wpList_append_own _ rfl _ _ 56 rfl w.heap.size 5 i0 (.int .u8 0) 1 1 Tryd.underlying56 hi hz0 hz1 hz2 rfl (by decide) _ _ _ rfl (ownsRow_one wr w.heap.size 5 _ hlow) ⟨g, 0, none⟩ k cap ((digs A k).map byteV) rfl (by simp [digs_length]) (ownsRow_news (HOW.out.alloc _)) byteV_one (by unfold maxLen; omega) (by omega) (by simp; omega) ?_; intro v2 w2 hown2 hgr2 hnil2)
      obtain ⟨g2, cap2, rfl, hg2, hg2'⟩ := ownsRow_some hown2 (by omega)
      have hbz : Below w.heap.size w w2 := Below.grown (HBW.out.alloc hlow _) hgr2 (by simp; omega) (ownBlock_lo (ownsRow_one wr w.heap.size 5 (.bool true) hlow))
      have hconv2 := textOfOwned (l := 45 :: digs A k) (by rw [List.map_cons]; exact hown2)
      rw [hconv2]
      go_wp2
      go_ret
      refine ⟨num_ret ?_, hbz⟩
      rw [HDD.out]
    · have hk2 : k ≤ 18 := by
        have h3 := HPP.out hM0
        rcases Nat.lt_or_ge 18 k with h | h
        · have := Nat.pow_le_pow_right (n := 10) (by decide) (show 19 ≤ k by omega)
          omega
        · exact h
      have hdl := dgt_lt A k
      have hmz : (((-((M : Nat) : Int)) : Int) == 0) = false := beq_eq_false_iff_ne.2 (by omega)
      have hrem : Int.tmod ((-((M : Nat) : Int))) 10 = (-((M % 10 : Nat) : Int)) := tmod_neg M
      have hquo : Int.tdiv ((-((M : Nat) : Int))) 10 = (-((M / 10 : Nat) : Int)) := tdiv_neg M
      by_cases hd0 : M % 10 = 0
      · have hdi : ((M % 10 : Nat) : Int) = 0 := by omega
        go_wp2_with (at_builtin; refine wpList_append_own _ rfl _ _ 56 rfl w.heap.size 5 i0 (.int .u8 0) 1 1 Tryd.underlying56 hi hz0 hz1 hz2 rfl (by decide) _ _ _ rfl (ownsRow_one wr w.heap.size 5 _ hlow) ⟨g, 0, none⟩ k cap ((digs A k).map byteV) rfl (by simp [digs_length]) (ownsRow_news (HOW.out.alloc _)) byteV_one (by unfold maxLen; omega) (by omega) (by simp; omega) ?_; intro v2 w2 hown2 hgr2 hnil2)
        obtain ⟨g2, cap2, rfl, hg2, hg2'⟩ := ownsRow_some hown2 (by omega)
        have hbz : Below w.heap.size w w2 := Below.grown (HBW.out.alloc hlow _) hgr2 (by simp; omega) (ownBlock_lo (ownsRow_one wr w.heap.size 5 (.bool true) hlow))
        have hdsx := HDS.out
        have hdgx := HDG.out
        refine ⟨⟨k + 1, g2, cap2, by omega, .inr (by rw [Nat.add_sub_cancel]; exact HPP.out hM0), by congr 1; omega, by rw [Nat.add_comm 1 k], ?_, hbz⟩, by simp [intOf]; omega⟩
        rw [digs_cons, List.map_cons]
        rw [Nat.add_comm 1 k] at hown2
        have hx5 : byteV (UInt8.ofNat (48 + dgt A k)) = .int .u8 (48) := by
          unfold byteV; rw [num_val hdl]; congr 1; omega
        rw [hx5]
        exact hown2
      · have hdi : 0 < ((M % 10 : Nat) : Int) := by omega
        go_wp2_with (at_builtin; refine wpList_append_own _ rfl _ _ 56 rfl w.heap.size 5 i0 (.int .u8 0) 1 1 Tryd.underlying56 hi hz0 hz1 hz2 rfl (by decide) _ _ _ rfl (ownsRow_one wr w.heap.size 5 _ hlow) ⟨g, 0, none⟩ k cap ((digs A k).map byteV) rfl (by simp [digs_length]) (ownsRow_news (HOW.out.alloc _)) byteV_one (by unfold maxLen; omega) (by omega) (by simp; omega) ?_; intro v2 w2 hown2 hgr2 hnil2)
        obtain ⟨g2, cap2, rfl, hg2, hg2'⟩ := ownsRow_some hown2 (by omega)
        have hbz : Below w.heap.size w w2 := Below.grown (HBW.out.alloc hlow _) hgr2 (by simp; omega) (ownBlock_lo (ownsRow_one wr w.heap.size 5 (.bool true) hlow))
        have hdsx := HDS.out
        have hdgx := HDG.out
        refine ⟨⟨k + 1, g2, cap2, by omega, .inr (by rw [Nat.add_sub_cancel]; exact HPP.out hM0), by congr 1; omega, by rw [Nat.add_comm 1 k], ?_, hbz⟩, by simp [intOf]; omega⟩
        rw [digs_cons, List.map_cons]
        rw [Nat.add_comm 1 k] at hown2
        have hx5 : byteV (UInt8.ofNat (48 + dgt A k)) = .int .u8 (48 + ((M % 10 : Nat) : Int)) := by
          unfold byteV; rw [num_val hdl]; congr 1; omega
        rw [hx5]
        exact hown2

theorem specNumText_any (n : Int) (w : World) (h0 : -9223372036854775808 ≤ n) (h1 : n ≤ 9223372036854775807) :
    Calls Tryd.prog 20 #[.int .i64 n] w fun e w' => e = .returned (.string (ofL (numL n))) ∧ Below w.heap.size w w' := by
  rcases (by omega : n = 0 ∨ 0 < n ∨ n < 0) with rfl | h | h
  · have e : ofL (numL 0) = ⟨#[48]⟩ := by unfold numL; rw [if_neg (by decide), show (0 : Int).natAbs = 0 from rfl, dec_zero]; rfl
    rw [e]
    go_enter Tryd.func20, Tryd.ntmps20
    go_wp2
    go_ret
    exact ⟨rfl, Below.refl _ _⟩
  · obtain ⟨A, rfl⟩ : ∃ A : Nat, n = (A : Int) := ⟨n.toNat, by omega⟩
    have e : numL (A : Int) = dec A := by unfold numL; rw [if_neg (by omega)]; congr 1
    rw [e]
    exact specNumText_pos A w (by omega) (by omega)
  · obtain ⟨A, rfl⟩ : ∃ A : Nat, n = (-(A : Int)) := ⟨(-n).toNat, by omega⟩
    have e : numL (-(A : Int)) = 45 :: dec A := by unfold numL; rw [if_pos (by omega)]; congr 2; omega
    rw [e]
    exact specNumText_neg A w (by omega) (by omega)
end Go.Proofs.YtpolpihgclemnaaDoor
