/-
  Texts of this claim in one file, in build order: NumText, LaidWorld, PowTab, DecOf, Atoi, DecWhole, DecWholeI, Cur, Draws. Each says ahead what it proves and under which conditions.
-/
import Derived.Test.YtjjpdoabagnmoaaGreatDoorQ03
import Derived.Test.YtjjpdoabagnmoaaGreatDoorQ04
import Derived.Lib.ItoaNum
import Derived.Test.YtjjpdoabagnmoaaGreatDoorRows
import Derived.Test.YtjjpdoabagnmoaaGreatDoorShelf
import Derived.Lib.LaidIn
import Derived.Lib.LaidU8T
import Derived.Deep.DeepHandedRow
import Derived.ProofKit
import Derived.Lib.LaidTab
import Derived.Lib.SmallJoins
import Derived.Lib.QuietBelow
import Derived.Test.YtjjpdoabagnmoaaGreatDoorQ08
import Derived.Lib.AtoiAllCases
import Derived.Test.YtjjpdoabagnmoaaGreatDoorQ07
import Derived.Test.YtjjpdoabagnmoaaGreatDoorQ01
import Derived.WalkKit
import Derived.WalkLawsBesides
import Derived.WalkSpells
import Derived.BigQuiet
import Derived.Deep.Light
import Derived.Deep.QuietTactic
import Derived.WalkSmall
import Derived.Deep.DeepMust
/-
  The contracts of NumText: the numeral of every int. Condition: an int.
-/
namespace Go.Proofs.YtjjpdoabagnmoaaGreatDoor
open Go.RowKit
set_option linter.unusedVariables false
set_option linter.unusedSimpArgs false

theorem num_len {v k : Nat} (h1 : 10 ^ k ≤ v) (h2 : v < 10 ^ (k + 1)) : (dec v).length = k + 1 := by
  have a := dec_len_le (k + 1) v (by omega) h2
  have b : v < 10 ^ (dec v).length := by
    have := val_lt (dec v) (dec_all v)
    rwa [val_dec] at this
  have c : ¬ (dec v).length ≤ k := fun hc => by
    have := Nat.pow_le_pow_right (n := 10) (by omega) hc
    omega
  omega
theorem num_val {d : Nat} (h : d < 10) : ((UInt8.ofNat (48 + d)).toNat : Int) = 48 + (d : Int) := by rw [ofNat_dig h]; omega
theorem num_ret {s t : ByteArray} (h : s = t) : Ending.returned (.string s) = .returned (.string t) := by rw [h]
theorem decDigits_dec : ∀ n : Nat, Lib.decDigits n = dec n := by
  intro n
  induction n using Nat.strongRecOn with
  | ind n ih =>
    by_cases h : n < 10
    · rw [dec_small h, Lib.decDigits, dif_pos h]
    · rw [dec_big h, Lib.decDigits, dif_neg h, ih (n / 10) (by omega)]
/-- the numeral of an int -/
def numL (n : Int) : List UInt8 := if n < 0 then 45 :: dec n.natAbs else dec n.natAbs
theorem itoa_numL (n : Int) : Lib.itoa n = numL n := by
  unfold Lib.itoa numL
  by_cases h : n < 0
  · rw [if_pos h, if_pos h, decDigits_dec]
  · rw [if_neg h, if_neg h, decDigits_dec]; congr 1; omega
theorem digs_dec {A k : Nat} (h1 : A < 10 ^ k) (h2 : k = 0 ∨ 10 ^ (k - 1) ≤ A) (h0 : A ≠ 0) : digs A k = dec A := by
  have hk : k ≠ 0 := by intro e; rw [e] at h1; omega
  obtain ⟨j, rfl⟩ : ∃ j, k = j + 1 := ⟨k - 1, by omega⟩
  have h3 : 10 ^ j ≤ A := by
    rcases h2 with h | h
    · omega
    · exact h
  refine val_inj _ _ (digs_all _ _) (dec_all A) (by rw [digs_length, num_len h3 h1]) ?_
  rw [val_digs _ _ h1, val_dec]
theorem tmod_neg (M : Nat) : Int.tmod (-(M : Int)) 10 = -((M % 10 : Nat) : Int) := by
  rw [Int.neg_tmod, Int.tmod_eq_emod_of_nonneg (by omega)]; omega
theorem tdiv_neg (M : Nat) : Int.tdiv (-(M : Int)) 10 = -((M / 10 : Nat) : Int) := by
  rw [Int.neg_tdiv, Int.tdiv_eq_ediv_of_nonneg (by omega)]; omega
theorem tmod_pos (M : Nat) : Int.tmod (M : Int) 10 = ((M % 10 : Nat) : Int) := by
  rw [Int.tmod_eq_emod_of_nonneg (by omega)]; omega
theorem tdiv_pos (M : Nat) : Int.tdiv (M : Int) 10 = ((M / 10 : Nat) : Int) := by
  rw [Int.tdiv_eq_ediv_of_nonneg (by omega)]; omega
theorem div_pow_succ (A k : Nat) : A / 10 ^ k / 10 = A / 10 ^ (k + 1) := by rw [Nat.div_div_eq_div_mul, ← Nat.pow_succ]
theorem dgt_divp (A k : Nat) : A / 10 ^ k % 10 = dgt A k := rfl
theorem div_pos_pow {A k : Nat} (h : A / 10 ^ k ≠ 0) : 10 ^ k ≤ A := by
  rcases Nat.lt_or_ge A (10 ^ k) with h1 | h1
  · exact absurd (Nat.div_eq_of_lt h1) h
  · exact h1
theorem div_zero_pow {A k : Nat} (h : A / 10 ^ k = 0) : A < 10 ^ k := by
  rcases Nat.div_eq_zero_iff.1 h with h1 | h1
  · have : 0 < 10 ^ k := Nat.pow_pos (by omega)
    omega
  · exact h1

set_option maxRecDepth 10000 in
set_option maxHeartbeats 2000000 in
theorem specNumText_pos (A : Nat) (w : World) (h0 : A ≠ 0) (h1 : A ≤ 9223372036854775807) :
    Calls Tryz.prog 39 #[.int .i64 ((A : Nat) : Int)] w fun e w' => e = .returned (.string (ofL (dec A))) ∧ Below w.heap.size w w' := by
  obtain ⟨i0, hi, hz0, hz1, hz2⟩ := info_parts infoByte
  have hnz : ((((A : Nat) : Int) : Int) == 0) = false := beq_eq_false_iff_ne.2 (by omega)
  have hnn : ¬ ((A : Nat) : Int) < 0 := by omega
  go_enter Tryz.func39, Tryz.ntmps39
  go_wp2
  go_loopw [3, 4] (fun v m wr => ∃ (k g cap : Nat), k ≤ 100 ∧ (k = 0 ∨ 10 ^ (k - 1) ≤ A) ∧ m = .int .i64 ((A / 10 ^ k : Nat) : Int) ∧ v = .slice (some ⟨g, 0, none⟩) k cap ∧ wr.ownsRow w.heap.size 5 1 (.slice (some ⟨g, 0, none⟩) k cap) k ((digs A k).map byteV) ∧ Below w.heap.size w wr) (fun _ m _ => (intOf m).natAbs)
  case atStart =>
    exact ⟨0, w.heap.size, 0, Nat.zero_le _, .inl rfl, by rw [Nat.pow_zero, Nat.div_one], rfl, ownsRow_empty _ _ _ (Nat.le_refl _), (Below.refl _ _).alloc (Nat.le_refl _) _⟩
  case round =>
    obtain ⟨k, g, cap, hk, hkA, rfl, rfl, hown, hb⟩ := hrel
    have HOW := Lib.hid hown
    have HBW := Lib.hid hb
    have HKA := Lib.hid hkA
    have hlow := hb.size
    have hds := div_pow_succ A k
    have hdg := dgt_divp A k
    have hML : A / 10 ^ k ≤ 9223372036854775807 := Nat.le_trans (Nat.div_le_self _ _) h1
    have HPP := Lib.hid (div_pos_pow (A := A) (k := k))
    have HZP := Lib.hid (div_zero_pow (A := A) (k := k))
    clear hown hb hkA
    obtain ⟨M, hM⟩ : ∃ M, A / 10 ^ k = M := ⟨_, rfl⟩
    rw [hM] at hds hdg hML HPP HZP ⊢
    have HDS := Lib.hid hds
    have HDG := Lib.hid hdg
    clear hds hdg hM
    by_cases hM0 : M = 0
    · have hlt := HZP.out hM0
      have HDD := Lib.hid (digs_dec hlt HKA.out h0)
      have hconv := textOfOwned HOW.out
      subst hM0
      clear hlt
      go_wp2
      go_ret
      refine ⟨num_ret ?_, HBW.out⟩
      rw [HDD.out]
    · have hk2 : k ≤ 18 := by
        have h3 := HPP.out hM0
        rcases Nat.lt_or_ge 18 k with h | h
        · have := Nat.pow_le_pow_right (n := 10) (by decide) (show 19 ≤ k by omega)
          omega
        · exact h
      have hdl := dgt_lt A k
      have hmz : ((((M : Nat) : Int) : Int) == 0) = false := beq_eq_false_iff_ne.2 (by omega)
      have hrem : Int.tmod (((M : Nat) : Int)) 10 = ((M % 10 : Nat) : Int) := tmod_pos M
      have hquo : Int.tdiv (((M : Nat) : Int)) 10 = ((M / 10 : Nat) : Int) := tdiv_pos M
      go_wp2_with (at_builtin; refine wpList_append_own _ rfl _ _ 28 rfl w.heap.size 5 i0 (.int .u8 0) 1 1 Tryz.underlying28 hi hz0 hz1 hz2 rfl (by decide) _ _ _ rfl (ownsRow_one wr w.heap.size 5 _ hlow) ⟨g, 0, none⟩ k cap ((digs A k).map byteV) rfl (by simp [digs_length]) (ownsRow_news (HOW.out.alloc _)) byteV_one (by unfold maxLen; omega) (by omega) (by simp; omega) ?_; intro v2 w2 hown2 hgr2 hnil2)
      obtain ⟨g2, cap2, rfl, hg2, hg2'⟩ := ownsRow_some hown2 (by omega)
      have hbz : Below w.heap.size w w2 := Below.grown (HBW.out.alloc hlow _) hgr2 (by simp; omega) (ownBlock_lo (ownsRow_one wr w.heap.size 5 (.bool true) hlow))
      have hdsx := HDS.out
      have hdgx := HDG.out
      refine ⟨⟨k + 1, g2, cap2, by omega, .inr (by rw [Nat.add_sub_cancel]; exact HPP.out hM0), by congr 1; omega, by rw [Nat.add_comm 1 k], ?_, hbz⟩, by simp [intOf]; omega⟩
      rw [digs_cons, List.map_cons]
      rw [Nat.add_comm 1 k] at hown2
      have hx5 : byteV (UInt8.ofNat (48 + dgt A k)) = .int .u8 (48 + (M : Int) % 10) := by
        unfold byteV; rw [num_val hdl]; congr 1; omega
      rw [hx5]
      exact hown2

set_option maxRecDepth 10000 in
set_option maxHeartbeats 2000000 in
theorem specNumText_neg (A : Nat) (w : World) (h0 : A ≠ 0) (h1 : A ≤ 9223372036854775808) :
    Calls Tryz.prog 39 #[.int .i64 (-((A : Nat) : Int))] w fun e w' => e = .returned (.string (ofL (45 :: dec A))) ∧ Below w.heap.size w w' := by
  obtain ⟨i0, hi, hz0, hz1, hz2⟩ := info_parts infoByte
  have hnz : (((-((A : Nat) : Int)) : Int) == 0) = false := beq_eq_false_iff_ne.2 (by omega)
  have hnn : (-((A : Nat) : Int)) < 0 := by omega
  go_enter Tryz.func39, Tryz.ntmps39
  go_wp2
  go_loopw [3, 4] (fun v m wr => ∃ (k g cap : Nat), k ≤ 100 ∧ (k = 0 ∨ 10 ^ (k - 1) ≤ A) ∧ m = .int .i64 (-((A / 10 ^ k : Nat) : Int)) ∧ v = .slice (some ⟨g, 0, none⟩) k cap ∧ wr.ownsRow w.heap.size 5 1 (.slice (some ⟨g, 0, none⟩) k cap) k ((digs A k).map byteV) ∧ Below w.heap.size w wr) (fun _ m _ => (intOf m).natAbs)
  case atStart =>
    exact ⟨0, w.heap.size, 0, Nat.zero_le _, .inl rfl, by rw [Nat.pow_zero, Nat.div_one], rfl, ownsRow_empty _ _ _ (Nat.le_refl _), (Below.refl _ _).alloc (Nat.le_refl _) _⟩
  case round =>
    obtain ⟨k, g, cap, hk, hkA, rfl, rfl, hown, hb⟩ := hrel
    have HOW := Lib.hid hown
    have HBW := Lib.hid hb
    have HKA := Lib.hid hkA
    have hlow := hb.size
    have hds := div_pow_succ A k
    have hdg := dgt_divp A k
    have hML : A / 10 ^ k ≤ 9223372036854775808 := Nat.le_trans (Nat.div_le_self _ _) h1
    have HPP := Lib.hid (div_pos_pow (A := A) (k := k))
    have HZP := Lib.hid (div_zero_pow (A := A) (k := k))
    clear hown hb hkA
    obtain ⟨M, hM⟩ : ∃ M, A / 10 ^ k = M := ⟨_, rfl⟩
    rw [hM] at hds hdg hML HPP HZP ⊢
    have HDS := Lib.hid hds
    have HDG := Lib.hid hdg
    clear hds hdg hM
    by_cases hM0 : M = 0
    · have hlt := HZP.out hM0
      have HDD := Lib.hid (digs_dec hlt HKA.out h0)
      have hconv := textOfOwned HOW.out
      subst hM0
      clear hlt
      have hk3 : k ≤ 100 := hk
      go_wp2_with (at_builtin; refine wpList_append_own _ rfl _ _ 28 rfl w.heap.size 5 i0 (.int .u8 0) 1 1 Tryz.underlying28 hi hz0 hz1 hz2 rfl (by decide) _ _ _ rfl (ownsRow_one wr w.heap.size 5 _ hlow) ⟨g, 0, none⟩ k cap ((digs A k).map byteV) rfl (by simp [digs_length]) (ownsRow_news (HOW.out.alloc _)) byteV_one (by unfold maxLen; omega) (by omega) (by simp; omega) ?_; intro v2 w2 hown2 hgr2 hnil2)
      obtain ⟨g2, cap2, rfl, hg2, hg2'⟩ := ownsRow_some hown2 (by omega)
      have hbz : Below w.heap.size w w2 := Below.grown (HBW.out.alloc hlow _) hgr2 (by simp; omega) (ownBlock_lo (ownsRow_one wr w.heap.size 5 (.bool true) hlow))
      have hconv2 := textOfOwned (l := 45 :: digs A k) (by rw [List.map_cons]; exact hown2)
      rw [hconv2]
      go_wp2
      go_ret
      refine ⟨num_ret ?_, hbz⟩
      rw [HDD.out]
    · have hk2 : k ≤ 18 := by
        have h3 := HPP.out hM0
        rcases Nat.lt_or_ge 18 k with h | h
        · have := Nat.pow_le_pow_right (n := 10) (by decide) (show 19 ≤ k by omega)
          omega
        · exact h
      have hdl := dgt_lt A k
      have hmz : (((-((M : Nat) : Int)) : Int) == 0) = false := beq_eq_false_iff_ne.2 (by omega)
      have hrem : Int.tmod ((-((M : Nat) : Int))) 10 = (-((M % 10 : Nat) : Int)) := tmod_neg M
      have hquo : Int.tdiv ((-((M : Nat) : Int))) 10 = (-((M / 10 : Nat) : Int)) := tdiv_neg M
      by_cases hd0 : M % 10 = 0
      · have hdi : ((M % 10 : Nat) : Int) = 0 := by omega
        go_wp2_with (at_builtin; refine wpList_append_own _ rfl _ _ 28 rfl w.heap.size 5 i0 (.int .u8 0) 1 1 Tryz.underlying28 hi hz0 hz1 hz2 rfl (by decide) _ _ _ rfl (ownsRow_one wr w.heap.size 5 _ hlow) ⟨g, 0, none⟩ k cap ((digs A k).map byteV) rfl (by simp [digs_length]) (ownsRow_news (HOW.out.alloc _)) byteV_one (by unfold maxLen; omega) (by omega) (by simp; omega) ?_; intro v2 w2 hown2 hgr2 hnil2)
        obtain ⟨g2, cap2, rfl, hg2, hg2'⟩ := ownsRow_some hown2 (by omega)
        have hbz : Below w.heap.size w w2 := Below.grown (HBW.out.alloc hlow _) hgr2 (by simp; omega) (ownBlock_lo (ownsRow_one wr w.heap.size 5 (.bool true) hlow))
        have hdsx := HDS.out
        have hdgx := HDG.out
        refine ⟨⟨k + 1, g2, cap2, by omega, .inr (by rw [Nat.add_sub_cancel]; exact HPP.out hM0), by congr 1; omega, by rw [Nat.add_comm 1 k], ?_, hbz⟩, by simp [intOf]; omega⟩
        rw [digs_cons, List.map_cons]
        rw [Nat.add_comm 1 k] at hown2
        have hx5 : byteV (UInt8.ofNat (48 + dgt A k)) = .int .u8 (48) := by
          unfold byteV; rw [num_val hdl]; congr 1; omega
        rw [hx5]
        exact hown2
      · have hdi : 0 < ((M % 10 : Nat) : Int) := by omega
        go_wp2_with (at_builtin; refine wpList_append_own _ rfl _ _ 28 rfl w.heap.size 5 i0 (.int .u8 0) 1 1 Tryz.underlying28 hi hz0 hz1 hz2 rfl (by decide) _ _ _ rfl (ownsRow_one wr w.heap.size 5 _ hlow) ⟨g, 0, none⟩ k cap ((digs A k).map byteV) rfl (by simp [digs_length]) (ownsRow_news (HOW.out.alloc _)) byteV_one (by unfold maxLen; omega) (by omega) (by simp; omega) ?_; intro v2 w2 hown2 hgr2 hnil2)
        obtain ⟨g2, cap2, rfl, hg2, hg2'⟩ := ownsRow_some hown2 (by omega)
        have hbz : Below w.heap.size w w2 := Below.grown (HBW.out.alloc hlow _) hgr2 (by simp; omega) (ownBlock_lo (ownsRow_one wr w.heap.size 5 (.bool true) hlow))
        have hdsx := HDS.out
        have hdgx := HDG.out
        refine ⟨⟨k + 1, g2, cap2, by omega, .inr (by rw [Nat.add_sub_cancel]; exact HPP.out hM0), by congr 1; omega, by rw [Nat.add_comm 1 k], ?_, hbz⟩, by simp [intOf]; omega⟩
        rw [digs_cons, List.map_cons]
        rw [Nat.add_comm 1 k] at hown2
        have hx5 : byteV (UInt8.ofNat (48 + dgt A k)) = .int .u8 (48 + ((M % 10 : Nat) : Int)) := by
          unfold byteV; rw [num_val hdl]; congr 1; omega
        rw [hx5]
        exact hown2

theorem specNumText_any (n : Int) (w : World) (h0 : -9223372036854775808 ≤ n) (h1 : n ≤ 9223372036854775807) :
    Calls Tryz.prog 39 #[.int .i64 n] w fun e w' => e = .returned (.string (ofL (numL n))) ∧ Below w.heap.size w w' := by
  rcases (by omega : n = 0 ∨ 0 < n ∨ n < 0) with rfl | h | h
  · have e : ofL (numL 0) = ⟨#[48]⟩ := by unfold numL; rw [if_neg (by decide), show (0 : Int).natAbs = 0 from rfl, dec_zero]; rfl
    rw [e]
    go_enter Tryz.func39, Tryz.ntmps39
    go_wp2
    go_ret
    exact ⟨rfl, Below.refl _ _⟩
  · obtain ⟨A, rfl⟩ : ∃ A : Nat, n = (A : Int) := ⟨n.toNat, by omega⟩
    have e : numL (A : Int) = dec A := by unfold numL; rw [if_neg (by omega)]; congr 1
    rw [e]
    exact specNumText_pos A w (by omega) (by omega)
  · obtain ⟨A, rfl⟩ : ∃ A : Nat, n = (-(A : Int)) := ⟨(-n).toNat, by omega⟩
    have e : numL (-(A : Int)) = 45 :: dec A := by unfold numL; rw [if_pos (by omega)]; congr 2; omega
    rw [e]
    exact specNumText_neg A w (by omega) (by omega)
end Go.Proofs.YtjjpdoabagnmoaaGreatDoor
/-
  A world for the witness: the settled one, the two tables of unicode utf8 holding what their initialisers lay; what a row's list gives the walks. No condition.
-/
namespace Go.Proofs.YtjjpdoabagnmoaaGreatDoor
open Go.RowKit Go.Lib Go.Shelf

/-- a table's cells, as a row lists them -/
def litsOf : DataW Unit → Array Value
  | .agg l => (l.map fun x => match x with | .lit (.int k z) => Value.int k z | _ => Value.bool false).toArray
  | _ => #[]

noncomputable def laidWorld (os : Os) : World :=
  let w0 := World.holding Tryz.prog os ⟨#[], #[], []⟩
  let put (h : Array Obj) (g : Nat) (cs : Array Value) : Array Obj := h.modify g fun
    | .cells _ t frozen => .cells cs t frozen
    | o => o
  let h1 := put w0.heap 3 (Lib.firstTab.map fun z => Value.int .u8 z).toArray
  let h2 := put h1 4 ((List.range 16).flatMap fun i => [Value.int .u8 (Lib.accLo i), Value.int .u8 (Lib.accHi i)]).toArray
  let h2 := put h2 6 (litsOf Rows.laid_math_bits_deBruijn32tab)
  let h2 := put h2 7 (litsOf Rows.laid_math_bits_deBruijn64tab)
  let h2 := put h2 5 (litsOf Rows.laid_internal_strconv_uint64pow10)
  let h2 := put (h2.push (.cells #[.string (⟨#[118, 97, 108, 117, 101, 32, 111, 117, 116, 32, 111, 102, 32, 114, 97, 110, 103, 101]⟩ : ByteArray)] 140)) 2 #[.iface 138 (.pointer (some ⟨h2.size, 0, none⟩))]
  let h2 := put (h2.push (.cells #[.string (⟨#[105, 110, 118, 97, 108, 105, 100, 32, 115, 121, 110, 116, 97, 120]⟩ : ByteArray)] 140)) 1 #[.iface 138 (.pointer (some ⟨h2.size, 0, none⟩))]
  { w0 with heap := h2 }

theorem same_accept : (Rows.laid_unicode_utf8_acceptRanges : DataW Unit) = Lib.acceptData := by kernel_rfl
theorem same_first : Rows.laid_unicode_utf8_first = Lib.firstData := by kernel_rfl
end Go.Proofs.YtjjpdoabagnmoaaGreatDoor
/-
  The table of strconv's Itoa, and Itoa's contract by the numeral. Conditions: an int; the table stands in memory.
-/
namespace Go.Proofs.YtjjpdoabagnmoaaGreatDoor
open Go.RowKit Go.Lib
set_option linter.unusedVariables false
set_option linter.unusedSimpArgs false

/-- the table of the powers of ten stands in memory -/
def PowTab (w : World) : Prop := Lib.TabIs Tryz.prog w "internal/strconv.uint64pow10" .u64 Lib.pow10Tab
theorem PowTab.below {w w' : World} (h : PowTab w) (hb : Below w.heap.size w w') : PowTab w' := Go.Joins.tab_stays (g := 5) (by kernel_rfl) h hb (Nat.le_refl _)
theorem below_of_grow (w : World) (k : Nat) (os : Array Obj) : Below w.heap.size w (Sort.grow (w.drewN k) os) :=
  ⟨rfl, rfl, rfl, by simp [Sort.grow, World.drewN], fun j hj => by simp [Sort.grow, World.drewN, Array.getElem?_append, hj]⟩
theorem itoa_any (n : Int) (w : World) (h0 : -9223372036854775808 ≤ n) (h1 : n ≤ 9223372036854775807) (hT : PowTab w) :
    Calls Tryz.prog 46 #[.int .i64 n] w fun e w' => e = .returned (.string (ofL (numL n))) ∧ Below w.heap.size w w' := by
  refine (Tryz.strconv_Itoa n h0 h1 w hT).mono ?_
  rintro e w' ⟨rfl, k, os, rfl⟩
  rw [itoa_numL]
  exact ⟨rfl, below_of_grow w k os⟩
theorem pow_tab : (Rows.laid_internal_strconv_uint64pow10 : DataW Unit) = Lib.tabData .u64 Lib.pow10Tab := by kernel_rfl
theorem laid_tail {x : String × DataW Unit} {r : List (String × DataW Unit)} {W : World} (h : laidMet Tryz.prog (x :: r) W) : laidMet Tryz.prog r W := by
  obtain ⟨m, d⟩ := x
  obtain ⟨ps, hv, hn, hm⟩ := h
  obtain ⟨g, t, cs, fuel, p, q, h1, h2, h3, h4, hq, rfl⟩ := hv
  exact ⟨q, hq, (List.nodup_append.1 hn).2.1, fun b off hb => hm b off (List.mem_append_right _ hb)⟩
theorem pow_of {a b : String × DataW Unit} {rest : List (String × DataW Unit)} {W : World} (hL : laidMet Tryz.prog (a :: b :: ("internal/strconv.uint64pow10", Rows.laid_internal_strconv_uint64pow10) :: rest) W) : PowTab W := by
  have h := laid_tail (laid_tail hL)
  rw [pow_tab] at h
  exact Lib.tabIs_of_head (g := 5) (t := 134) (e := 110) (n := 20) (by kernel_rfl) (by kernel_rfl) (by kernel_rfl) (by kernel_rfl) (by kernel_rfl) (by kernel_rfl) h
theorem numL_neg (A : Nat) (h : A ≠ 0) : numL (-(A : Int)) = 45 :: dec A := by unfold numL; rw [if_pos (by omega)]; congr 2; omega
theorem numL_pos (A : Nat) : numL (A : Int) = dec A := by unfold numL; rw [if_neg (by omega)]; congr 1
theorem trim_numL (n : Int) : Lib.trimPrefix (numL n) [45] = dec n.natAbs := by
  unfold Lib.trimPrefix numL
  by_cases h : n < 0
  · rw [if_pos h]
    rw [if_pos (by simp [Lib.hasPrefix])]
    rfl
  · rw [if_neg h]
    have hd := dec_all n.natAbs
    have : Lib.hasPrefix (dec n.natAbs) [45] = false := by
      cases e : dec n.natAbs with
      | nil => rfl
      | cons c r =>
        rw [e, List.all_cons, Bool.and_eq_true] at hd
        have h1 := isDig_le hd.1
        have hc : c ≠ 45 := fun h => by rw [h] at h1; exact absurd h1.1 (by decide)
        show ((45 : UInt8) == c && List.isPrefixOf [] r) = false
        rw [beq_eq_false_iff_ne.2 (Ne.symm hc)]; rfl
    rw [this]; rfl
theorem trimMinus_any (n : Int) (w : World) :
    Calls Tryz.prog 45 #[.string (ofL (numL n)), .string ⟨#[45]⟩] w fun e w' => e = .returned (.string (ofL (dec n.natAbs))) ∧ w' = w := by
  refine (Tryz.strings_TrimPrefix (ofL (numL n)) ⟨#[45]⟩ w).mono ?_
  rintro e w' ⟨rfl, rfl⟩
  refine ⟨?_, rfl⟩
  have : Lib.trimPrefix (ofL (numL n)).data.toList (⟨#[45]⟩ : ByteArray).data.toList = dec n.natAbs := trim_numL n
  rw [this]; rfl
end Go.Proofs.YtjjpdoabagnmoaaGreatDoor
/-
  The contracts of both sides' DecOf. Conditions: an int; for the program's the table of strconv stands in memory.
-/

namespace Go.Proofs.YtjjpdoabagnmoaaGreatDoor
open Go.RowKit
set_option linter.unusedVariables false
set_option linter.unusedSimpArgs false

set_option maxRecDepth 10000 in
theorem specDecOf_any (x : Int) (w : World) (h0 : -9223372036854775808 ≤ x) (h1 : x ≤ 9223372036854775807) (n' : Bool) (u : ByteArray) (y' c : Int) (hV : formV (decide (x < 0)) x.natAbs 0 = .tuple #[.agg #[.bool n', .string u, .int .i64 y'], .int .i64 c]) :
    Calls Tryz.prog 67 #[.int .i64 x] w fun e w' => e = .returned (.agg #[.bool n', .string u, .int .i64 y']) ∧ Below w.heap.size w w' := by
  obtain ⟨A, hA⟩ : ∃ A : Nat, x.natAbs = A := ⟨_, rfl⟩
  rw [hA] at hV
  have hAl : A ≤ 9223372036854775808 := by omega
  have hl := dec_len A
  have hl2 : (dec A).length ≤ 20 := dec_len_le 20 A (by decide) (by omega)
  obtain ⟨p, hp⟩ : ∃ p, ofL (numL x) = p := ⟨_, rfl⟩
  by_cases hx : x < 0
  · have hdx : decide (x < 0) = true := decide_eq_true hx
    rw [hdx] at hV
    have hNT := Lib.hid (fun w => specNumText_any x w h0 h1)
    rw [hp] at hNT
    have hpb : bs p = 45 :: dec A := by
      have e : numL x = 45 :: dec A := by unfold numL; rw [if_pos hx, hA]
      rw [← hp, bs_ofL, e]
    have hps : p.size = (dec A).length + 1 := by rw [← bs_length, hpb]; rfl
    have hsub : p.extract 1 p.size = ofL (dec A) := bs_inj (by rw [bs_ext, hpb, bs_ofL]; rfl)
    have hp1 : (1 : Int) ≤ (p.size : Int) := by omega
    have hp2 : 1 ≤ p.size := by omega
    have hN := Lib.hid (fun w => by
      have := form_dec true A 0 w (by omega) (by omega) (by omega)
      rw [hV, ← hsub] at this
      exact this : ∀ w : World, Calls Tryz.prog 59 #[.bool true, .string (p.extract 1 p.size), .int .i64 0, .bool false] w fun e w' => e = .returned (.tuple #[.agg #[.bool n', .string u, .int .i64 y'], .int .i64 c]) ∧ Below w.heap.size w w')
    clear hp hsub hV hl hl2 hAl hA hpb hps
    go_enter Tryz.func67, Tryz.ntmps67
    go_wp2_with fail
    refine (hNT.out _).mono ?_
    rintro e w1 ⟨rfl, hb1⟩
    obtain ⟨w0, hw0, hz0, hb0, hc0, hf0⟩ := one_laid w false ⟨#[]⟩ 0
    rw [hw0] at hb1
    obtain ⟨hz1, hc1, hf1⟩ := one_kept hb1 hz0 hc0 hf0
    have hv1 := hb0.trans (hb1.mono hb0.size)
    clear hw0 hz0 hb0 hc0 hf0 hb1
    go_wp2_with fail
    refine (hN.out _).mono ?_
    rintro e w2 ⟨rfl, hb2⟩
    obtain ⟨hz2, hc2, hf2⟩ := one_kept hb2 hz1 hc1 hf1
    have hv2 := hv1.trans (hb2.mono hv1.size)
    clear hz1 hc1 hf1 hv1 hb2
    have hne : ¬ (w.heap.size = w2.heap.size) := Nat.ne_of_lt hz2
    have hne' : ¬ (w2.heap.size = w.heap.size) := Nat.ne_of_gt hz2
    go_wp2
    refine bodyPost_ret (v := .agg #[.bool n', .string u, .int .i64 y']) (by simp [results, Tryz.results67, go_sem, *]) rfl ⟨rfl, ?_⟩
    exact (set_three hv2 (Nat.le_refl w.heap.size) _ _ _).alloc (set_three hv2 (Nat.le_refl w.heap.size) _ _ _).size _
  · have hdx : decide (x < 0) = false := decide_eq_false hx
    rw [hdx] at hV
    have hNT := Lib.hid (fun w => specNumText_any x w h0 h1)
    rw [hp] at hNT
    have hsub : p = ofL (dec A) := by
      have e : numL x = dec A := by unfold numL; rw [if_neg hx, hA]
      rw [← hp, e]
    have hN := Lib.hid (fun w => by
      have := form_dec false A 0 w (by omega) (by omega) (by omega)
      rw [hV, ← hsub] at this
      exact this : ∀ w : World, Calls Tryz.prog 59 #[.bool false, .string (p), .int .i64 0, .bool false] w fun e w' => e = .returned (.tuple #[.agg #[.bool n', .string u, .int .i64 y'], .int .i64 c]) ∧ Below w.heap.size w w')
    clear hp hsub hV hl hl2 hAl hA
    go_enter Tryz.func67, Tryz.ntmps67
    go_wp2_with fail
    refine (hNT.out _).mono ?_
    rintro e w1 ⟨rfl, hb1⟩
    obtain ⟨w0, hw0, hz0, hb0, hc0, hf0⟩ := one_laid w false ⟨#[]⟩ 0
    rw [hw0] at hb1
    obtain ⟨hz1, hc1, hf1⟩ := one_kept hb1 hz0 hc0 hf0
    have hv1 := hb0.trans (hb1.mono hb0.size)
    clear hw0 hz0 hb0 hc0 hf0 hb1
    go_wp2_with fail
    refine (hN.out _).mono ?_
    rintro e w2 ⟨rfl, hb2⟩
    obtain ⟨hz2, hc2, hf2⟩ := one_kept hb2 hz1 hc1 hf1
    have hv2 := hv1.trans (hb2.mono hv1.size)
    clear hz1 hc1 hf1 hv1 hb2
    have hne : ¬ (w.heap.size = w2.heap.size) := Nat.ne_of_lt hz2
    have hne' : ¬ (w2.heap.size = w.heap.size) := Nat.ne_of_gt hz2
    go_wp2
    refine bodyPost_ret (v := .agg #[.bool n', .string u, .int .i64 y']) (by simp [results, Tryz.results67, go_sem, *]) rfl ⟨rfl, ?_⟩
    exact (set_three hv2 (Nat.le_refl w.heap.size) _ _ _).alloc (set_three hv2 (Nat.le_refl w.heap.size) _ _ _).size _

set_option maxRecDepth 10000 in
theorem implDecOf_any (x : Int) (w : World) (h0 : -9223372036854775808 ≤ x) (h1 : x ≤ 9223372036854775807) (hT : PowTab w) (n' : Bool) (u : ByteArray) (y' c : Int) (hV : formV (decide (x < 0)) x.natAbs 0 = .tuple #[.agg #[.bool n', .string u, .int .i64 y'], .int .i64 c]) :
    Calls Tryz.prog 21 #[.int .i64 x] w fun e w' => e = .returned (.agg #[.bool n', .string u, .int .i64 y']) ∧ Below w.heap.size w w' := by
  obtain ⟨A, hA⟩ : ∃ A : Nat, x.natAbs = A := ⟨_, rfl⟩
  rw [hA] at hV
  have hAl : A ≤ 9223372036854775808 := by omega
  have hl := dec_len A
  have hl2 : (dec A).length ≤ 20 := dec_len_le 20 A (by decide) (by omega)
  obtain ⟨p, hp⟩ : ∃ p, ofL (numL x) = p := ⟨_, rfl⟩
  by_cases hx : x < 0
  · have hdx : decide (x < 0) = true := decide_eq_true hx
    rw [hdx] at hV
    have hNT := Lib.hid (fun w hT => itoa_any x w h0 h1 hT)
    have hTM := Lib.hid (fun w => trimMinus_any x w)
    rw [hp, hA] at hTM
    rw [hp] at hNT
    have hN := Lib.hid (fun w => by
      have := normal_dec true A 0 w (by omega) (by omega) (by omega)
      rw [hV] at this
      exact this : ∀ w : World, Calls Tryz.prog 47 #[.bool true, .string (ofL (dec A)), .int .i64 0] w fun e w' => e = .returned (.tuple #[.agg #[.bool n', .string u, .int .i64 y'], .int .i64 c]) ∧ Below w.heap.size w w')
    clear hp hV hl hl2 hAl hA
    go_enter Tryz.func21, Tryz.ntmps21
    go_wp2_with fail
    refine (hNT.out _ ?_).mono ?_
    · exact hT.below ((Below.refl _ w).alloc (Nat.le_refl _) _)
    rintro e w1 ⟨rfl, hb1⟩
    obtain ⟨w0, hw0, hz0, hb0, hc0, hf0⟩ := one_laid w false ⟨#[]⟩ 0
    rw [hw0] at hb1
    obtain ⟨hz1, hc1, hf1⟩ := one_kept hb1 hz0 hc0 hf0
    have hv1 := hb0.trans (hb1.mono hb0.size)
    clear hw0 hz0 hb0 hc0 hf0 hb1
    go_wp2_with fail
    refine (hTM.out _).mono ?_
    rintro e w9 ⟨rfl, hw9⟩
    obtain rfl : w1 = w9 := hw9.symm
    clear hw9
    go_wp2_with fail
    refine (hN.out _).mono ?_
    rintro e w2 ⟨rfl, hb2⟩
    obtain ⟨hz2, hc2, hf2⟩ := one_kept hb2 hz1 hc1 hf1
    have hv2 := hv1.trans (hb2.mono hv1.size)
    clear hz1 hc1 hf1 hv1 hb2
    have hne : ¬ (w.heap.size = w2.heap.size) := Nat.ne_of_lt hz2
    have hne' : ¬ (w2.heap.size = w.heap.size) := Nat.ne_of_gt hz2
    go_wp2
    refine bodyPost_ret (v := .agg #[.bool n', .string u, .int .i64 y']) (by simp [results, Tryz.results21, go_sem, *]) rfl ⟨rfl, ?_⟩
    exact (set_three hv2 (Nat.le_refl w.heap.size) _ _ _).alloc (set_three hv2 (Nat.le_refl w.heap.size) _ _ _).size _
  · have hdx : decide (x < 0) = false := decide_eq_false hx
    rw [hdx] at hV
    have hNT := Lib.hid (fun w hT => itoa_any x w h0 h1 hT)
    have hTM := Lib.hid (fun w => trimMinus_any x w)
    rw [hp, hA] at hTM
    rw [hp] at hNT
    have hN := Lib.hid (fun w => by
      have := normal_dec false A 0 w (by omega) (by omega) (by omega)
      rw [hV] at this
      exact this : ∀ w : World, Calls Tryz.prog 47 #[.bool false, .string (ofL (dec A)), .int .i64 0] w fun e w' => e = .returned (.tuple #[.agg #[.bool n', .string u, .int .i64 y'], .int .i64 c]) ∧ Below w.heap.size w w')
    clear hp hV hl hl2 hAl hA
    go_enter Tryz.func21, Tryz.ntmps21
    go_wp2_with fail
    refine (hNT.out _ ?_).mono ?_
    · exact hT.below ((Below.refl _ w).alloc (Nat.le_refl _) _)
    rintro e w1 ⟨rfl, hb1⟩
    obtain ⟨w0, hw0, hz0, hb0, hc0, hf0⟩ := one_laid w false ⟨#[]⟩ 0
    rw [hw0] at hb1
    obtain ⟨hz1, hc1, hf1⟩ := one_kept hb1 hz0 hc0 hf0
    have hv1 := hb0.trans (hb1.mono hb0.size)
    clear hw0 hz0 hb0 hc0 hf0 hb1
    go_wp2_with fail
    refine (hTM.out _).mono ?_
    rintro e w9 ⟨rfl, hw9⟩
    obtain rfl : w1 = w9 := hw9.symm
    clear hw9
    go_wp2_with fail
    refine (hN.out _).mono ?_
    rintro e w2 ⟨rfl, hb2⟩
    obtain ⟨hz2, hc2, hf2⟩ := one_kept hb2 hz1 hc1 hf1
    have hv2 := hv1.trans (hb2.mono hv1.size)
    clear hz1 hc1 hf1 hv1 hb2
    have hne : ¬ (w.heap.size = w2.heap.size) := Nat.ne_of_lt hz2
    have hne' : ¬ (w2.heap.size = w.heap.size) := Nat.ne_of_gt hz2
    go_wp2
    refine bodyPost_ret (v := .agg #[.bool n', .string u, .int .i64 y']) (by simp [results, Tryz.results21, go_sem, *]) rfl ⟨rfl, ?_⟩
    exact (set_three hv2 (Nat.le_refl w.heap.size) _ _ _).alloc (set_three hv2 (Nat.le_refl w.heap.size) _ _ _).size _
end Go.Proofs.YtjjpdoabagnmoaaGreatDoor
/-
  What strconv.Atoi reads out of a natural's digits. Condition: the natural is no more than ten to the eighteen.
-/
namespace Go.Proofs.YtjjpdoabagnmoaaGreatDoor
open Go.RowKit
set_option linter.unusedVariables false
set_option linter.unusedSimpArgs false

theorem parse_val : ∀ (l : List UInt8) (acc : Nat), l.all isDig = true → acc * 10 ^ l.length + val l ≤ 1000000000000000000 → Lib.parseUint10 acc l = .ok (acc * 10 ^ l.length + val l)
  | [], acc, _, _ => by simp [Lib.parseUint10, val_nil]
  | c :: r, acc, ha, h => by
    rw [List.all_cons, Bool.and_eq_true] at ha
    have hc := isDig_le ha.1
    have hp : 0 < 10 ^ r.length := Nat.pow_pos (by decide)
    have e : acc * 10 ^ (c :: r).length + val (c :: r) = (acc * 10 + (c.toNat - 48)) * 10 ^ r.length + val r := by
      rw [val_cons, List.length_cons, Nat.pow_succ, Nat.add_mul, Nat.mul_assoc acc 10, Nat.mul_comm 10 (10 ^ r.length)]; omega
    rw [e] at h ⊢
    have h2 : acc * 10 + (c.toNat - 48) ≤ (acc * 10 + (c.toNat - 48)) * 10 ^ r.length := Nat.le_mul_of_pos_right _ hp
    unfold Lib.parseUint10
    rw [if_pos hc, if_neg (by omega), if_neg (by omega)]
    exact parse_val r _ ha.2 h
theorem atoi_dec (V : Nat) (h : V ≤ 1000000000000000000) : Lib.atoiAll (dec V) = .ok (V : Int) := by
  have hd := dec_all V
  have hv := val_dec V
  cases e : dec V with
  | nil => exact absurd e (dec_ne V)
  | cons c r =>
    rw [e] at hd hv
    have hp := parse_val (c :: r) 0 hd (by rw [hv]; omega)
    rw [hv, Nat.zero_mul, Nat.zero_add] at hp
    have hc := isDig_le (by rw [List.all_cons, Bool.and_eq_true] at hd; exact hd.1)
    rw [Lib.atoiAll_plain c r (by omega) (by omega)]
    unfold Lib.parseMag
    rw [if_neg (by simp), hp]
    unfold Lib.signless
    simp only
    rw [if_neg (by omega)]

theorem atoi_any (V : Nat) (w : World) (h : V ≤ 1000000000000000000) :
    Calls Tryz.prog 52 #[.string (ofL (dec V))] w fun e w' => e = .returned (.tuple #[.int .i64 (V : Int), .nilIface]) ∧ Below w.heap.size w w' := by
  have hl := dec_len_le 19 V (by decide) (by omega)
  have hs := size_ofL (dec V)
  refine (Tryz.strconv_Atoi_ok (ofL (dec V)) (by omega) (V : Int) (atoi_dec V h) w).mono ?_
  rintro e w' ⟨rfl, rfl | ⟨t, rfl⟩⟩
  · exact ⟨rfl, Below.refl _ _⟩
  · exact ⟨rfl, Go.Joins.below_bytesWorld _ _ _ _ (Nat.le_refl _)⟩
end Go.Proofs.YtjjpdoabagnmoaaGreatDoor
/-
  The contracts of both sides' DecWhole. Conditions: a number within the bounds of a walk.
-/
namespace Go.Proofs.YtjjpdoabagnmoaaGreatDoor
open Go.RowKit
set_option linter.unusedVariables false
set_option linter.unusedSimpArgs false

/-- the int that a number is, and whether it is one -/
def wholeI (n : Bool) (V : Nat) : Int := if n then -(V : Int) else V
def isWhole (n : Bool) (s : ByteArray) (x : Int) : Prop := decOk n (bs s) x = true ∧ 0 ≤ x ∧ val (bs s) * 10 ^ x.toNat ≤ 1000000000000000000
theorem lit18 : (⟨#[49, 48, 48, 48, 48, 48, 48, 48, 48, 48, 48, 48, 48, 48, 48, 48, 48, 48, 48]⟩ : ByteArray) = ofL (dec 1000000000000000000) := by
  have e : dec 1000000000000000000 = [49] ++ zs 18 := by
    have := dec_tens (v := 1) (by decide) 18
    rw [show (1 : Nat) * 10 ^ 18 = 1000000000000000000 from by decide, dec_small (n := 1) (by decide)] at this
    exact this
  rw [e]; rfl
/-- a number's digits give its size -/
theorem whole_size {n : Bool} {s : ByteArray} {x : Int} (h : decOk n (bs s) x = true) (h0 : 0 < s.size) (k : Nat) : 10 ^ (s.size - 1 + k) ≤ val (bs s) * 10 ^ k ∧ val (bs s) * 10 ^ k < 10 ^ (s.size + k) := by
  obtain ⟨c, hv, -, -⟩ := form_same h (ne_nil h0)
  have h1 := val_lt (bs s) c.dig
  have h2 := dec_len_ge (val (bs s)) hv
  rw [canon_dec c, bs_length] at h2
  rw [bs_length] at h1
  have hp : 0 < 10 ^ k := Nat.pow_pos (by decide)
  rw [Nat.pow_add, Nat.pow_add]
  exact ⟨Nat.mul_le_mul_right _ h2, Nat.mul_lt_mul_of_pos_right h1 hp⟩
end Go.Proofs.YtjjpdoabagnmoaaGreatDoor
/-
  The contract of the program's DecWhole. Conditions: a number within the bounds of a walk.
-/
namespace Go.Proofs.YtjjpdoabagnmoaaGreatDoor
open Go.RowKit
set_option linter.unusedVariables false
set_option linter.unusedSimpArgs false

theorem implDecWhole_no (n : Bool) (s : ByteArray) (x : Int) (w : World) (hs : s.size ≤ maxLen) (hx : (Lit.int .i64 x).wf = true) (h : decOk n (bs s) x = false ∨ x < 0 ∨ 18 < x) :
    Calls Tryz.prog 24 #[.agg #[.bool n, .string s, .int .i64 x]] w fun e w' => e = .returned (.tuple #[.int .i64 0, .bool false]) ∧ Below w.heap.size w w' := by
  cases hk : decOk n (bs s) x
  · go_enter Tryz.func24, Tryz.ntmps24
    go_wp2_with (go_at_call 41; refine (isDec_any _ _ _ _ hs hx).mono ?_; rintro e w1 ⟨rfl, hb1⟩; obtain ⟨hb1c, hb1f⟩ := bcell hb1; have hb1q := hb1.size; (try simp at hb1q); have hb1q0 : w.heap.size < w1.heap.size := (by omega))
    refine bodyPost_ret (v := .tuple #[.int .i64 0, .bool false]) (by simp [results, Tryz.results24, go_sem, *]) rfl ⟨rfl, ?_⟩
    go_light
    (repeat (first | exact Below.refl _ _ | assumption | refine Below.drew ?_ | refine Go.below_drewN ?_ _ | (refine Below.alloc ?_ (by first | exact Nat.le_refl _ | (simp; done) | (simp; omega) | (simp at *; omega)) _) | (refine Below.setCell ?_ (by first | exact Nat.le_refl _ | (simp; done) | (simp; omega)) _) | (refine Below.trans ?_ (Below.mono (by assumption) (by first | exact Nat.le_refl _ | (simp; done) | (simp; omega) | (simp at *; omega))))))
  · rw [hk] at h
    rcases (by simpa using h : x < 0 ∨ 18 < x) with h | h
    · go_enter Tryz.func24, Tryz.ntmps24
      go_wp2_with (go_at_call 41; refine (isDec_any _ _ _ _ hs hx).mono ?_; rintro e w1 ⟨rfl, hb1⟩; obtain ⟨hb1c, hb1f⟩ := bcell hb1; have hb1q := hb1.size; (try simp at hb1q); have hb1q0 : w.heap.size < w1.heap.size := (by omega))
      refine bodyPost_ret (v := .tuple #[.int .i64 0, .bool false]) (by simp [results, Tryz.results24, go_sem, *]) rfl ⟨rfl, ?_⟩
      go_light
      (repeat (first | exact Below.refl _ _ | assumption | refine Below.drew ?_ | refine Go.below_drewN ?_ _ | (refine Below.alloc ?_ (by first | exact Nat.le_refl _ | (simp; done) | (simp; omega) | (simp at *; omega)) _) | (refine Below.setCell ?_ (by first | exact Nat.le_refl _ | (simp; done) | (simp; omega)) _) | (refine Below.trans ?_ (Below.mono (by assumption) (by first | exact Nat.le_refl _ | (simp; done) | (simp; omega) | (simp at *; omega))))))
    · go_enter Tryz.func24, Tryz.ntmps24
      go_wp2_with (go_at_call 41; refine (isDec_any _ _ _ _ hs hx).mono ?_; rintro e w1 ⟨rfl, hb1⟩; obtain ⟨hb1c, hb1f⟩ := bcell hb1; have hb1q := hb1.size; (try simp at hb1q); have hb1q0 : w.heap.size < w1.heap.size := (by omega))
      refine bodyPost_ret (v := .tuple #[.int .i64 0, .bool false]) (by simp [results, Tryz.results24, go_sem, *]) rfl ⟨rfl, ?_⟩
      go_light
      (repeat (first | exact Below.refl _ _ | assumption | refine Below.drew ?_ | refine Go.below_drewN ?_ _ | (refine Below.alloc ?_ (by first | exact Nat.le_refl _ | (simp; done) | (simp; omega) | (simp at *; omega)) _) | (refine Below.setCell ?_ (by first | exact Nat.le_refl _ | (simp; done) | (simp; omega)) _) | (refine Below.trans ?_ (Below.mono (by assumption) (by first | exact Nat.le_refl _ | (simp; done) | (simp; omega) | (simp at *; omega))))))

theorem implDecWhole_zero (n : Bool) (s : ByteArray) (x : Int) (w : World) (hs : s.size ≤ maxLen) (hx : (Lit.int .i64 x).wf = true) (hk : decOk n (bs s) x = true) (hx0 : 0 ≤ x) (hx1 : x ≤ 18) (h0 : s.size = 0) :
    Calls Tryz.prog 24 #[.agg #[.bool n, .string s, .int .i64 x]] w fun e w' => e = .returned (.tuple #[.int .i64 0, .bool true]) ∧ Below w.heap.size w w' := by
  have hemp := isEmpty_yes h0
  clear h0
  go_enter Tryz.func24, Tryz.ntmps24
  go_wp2_with (go_at_call 41; refine (isDec_any _ _ _ _ hs hx).mono ?_; rintro e w1 ⟨rfl, hb1⟩; obtain ⟨hb1c, hb1f⟩ := bcell hb1; have hb1q := hb1.size; (try simp at hb1q); have hb1q0 : w.heap.size < w1.heap.size := (by omega))
  refine bodyPost_ret (v := .tuple #[.int .i64 0, .bool true]) (by simp [results, Tryz.results24, go_sem, *]) rfl ⟨rfl, ?_⟩
  go_light
  (repeat (first | exact Below.refl _ _ | assumption | refine Below.drew ?_ | refine Go.below_drewN ?_ _ | (refine Below.alloc ?_ (by first | exact Nat.le_refl _ | (simp; done) | (simp; omega) | (simp at *; omega)) _) | (refine Below.setCell ?_ (by first | exact Nat.le_refl _ | (simp; done) | (simp; omega)) _) | (refine Below.trans ?_ (Below.mono (by assumption) (by first | exact Nat.le_refl _ | (simp; done) | (simp; omega) | (simp at *; omega))))))

set_option maxRecDepth 10000 in
set_option maxHeartbeats 1000000 in
theorem implDecWhole_some (n : Bool) (s : ByteArray) (k : Nat) (w : World) (hs : s.size ≤ maxLen) (hx : (Lit.int .i64 (k : Int)).wf = true) (hk : decOk n (bs s) (k : Int) = true) (hk1 : k ≤ 18) (h0 : 0 < s.size) (V : Nat) (hV : val (bs s) * 10 ^ k = V) :
    Calls Tryz.prog 24 #[.agg #[.bool n, .string s, .int .i64 (k : Int)]] w fun e w' => e = .returned (if V ≤ 1000000000000000000 then .tuple #[.int .i64 (wholeI n V), .bool true] else .tuple #[.int .i64 0, .bool false]) ∧ Below w.heap.size w w' := by
  have hemp := isEmpty_no h0
  have hcan := (form_same hk (ne_nil h0)).1
  have hSz := whole_size hk h0 k
  obtain ⟨a1, -⟩ := dec_facts hk
  have hVl : (dec V).length ≤ 40 := dec_len_le 40 V (by decide) (by rw [← hV]; exact Nat.lt_of_lt_of_le hSz.2 (Nat.pow_le_pow_right (by decide) (by omega)))
  have hsz := size_ofL (dec V)
  have hS := Lib.hid (fun w => by
    have := natShift_any s k w hcan (by omega) (by omega)
    rw [hV] at this
    exact this : ∀ w : World, Calls Tryz.prog 50 #[.string s, .int .i64 (k : Int)] w fun e w' => e = .returned (.string (ofL (dec V))) ∧ Below w.heap.size w w')
  obtain ⟨L, hL⟩ : ∃ L : ByteArray, (⟨#[49, 48, 48, 48, 48, 48, 48, 48, 48, 48, 48, 48, 48, 48, 48, 48, 48, 48, 48]⟩ : ByteArray) = L := ⟨_, rfl⟩
  have hLb : bs L = dec 1000000000000000000 := by rw [← hL, lit18, bs_ofL]
  have hC := Lib.hid (fun w => by
    have hl : (dec 1000000000000000000).length ≤ 40 := dec_len_le 40 _ (by decide) (by decide)
    have := natCmp_any (ofL (dec V)) L w (by rw [bs_ofL]; exact dec_canon V) (by rw [hLb]; exact dec_canon _) (by omega) (by rw [← bs_length, hLb]; omega)
    rw [bs_ofL, hLb, val_dec, val_dec, ← hL] at this
    exact this : ∀ w : World, Calls Tryz.prog 51 #[.string (ofL (dec V)), .string ⟨#[49, 48, 48, 48, 48, 48, 48, 48, 48, 48, 48, 48, 48, 48, 48, 48, 48, 48, 48]⟩] w fun e w' => e = .returned (.int .i64 (cmpN V 1000000000000000000)) ∧ Below w.heap.size w w')
  clear hcan hSz hL hLb
  by_cases hle : V ≤ 1000000000000000000
  · obtain ⟨q, hq⟩ : ∃ q, cmpN V 1000000000000000000 = q := ⟨_, rfl⟩
    have hq0 : q ≤ 0 := by rcases cmpN_cases V 1000000000000000000 with ⟨_, e⟩ | ⟨_, e⟩ | ⟨_, e⟩ <;> omega
    rw [hq] at hC
    have hT := Lib.hid (fun w => atoi_any V w hle)
    rw [if_pos hle]
    clear hq
    cases n
    · have e : wholeI false V = (V : Int) := rfl
      rw [e]
      go_enter Tryz.func24, Tryz.ntmps24
      go_wp2_with (first | (go_at_call 41; refine (isDec_any _ _ _ _ hs hx).mono ?_; rintro e w1 ⟨rfl, hb1⟩; obtain ⟨hb1c, hb1f⟩ := bcell hb1; have hb1q := hb1.size; (try simp at hb1q); have hb1q0 : w.heap.size < w1.heap.size := (by omega)) | (go_at_call 50; refine (hS.out _).mono ?_; rintro e w2 ⟨rfl, hb2⟩; obtain ⟨hb2c, hb2f⟩ := bcell hb2; have hb2q := hb2.size; (try simp at hb2q); have hb2q0 : w.heap.size < w2.heap.size := (by omega)) | (go_at_call 51; refine (hC.out _).mono ?_; rintro e w3 ⟨rfl, hb3⟩; obtain ⟨hb3c, hb3f⟩ := bcell hb3; have hb3q := hb3.size; (try simp at hb3q); have hb3q0 : w.heap.size < w3.heap.size := (by omega)) | (go_at_call 52; refine (hT.out _).mono ?_; rintro e w4 ⟨rfl, hb4⟩; obtain ⟨hb4c, hb4f⟩ := bcell hb4; have hb4q := hb4.size; (try simp at hb4q); have hb4q0 : w.heap.size < w4.heap.size := (by omega)))
      refine bodyPost_ret (v := .tuple #[.int .i64 (V : Int), .bool true]) (by simp [results, Tryz.results24, go_sem, *]) rfl ⟨rfl, ?_⟩
      go_light
      (repeat (first | exact Below.refl _ _ | assumption | refine Below.drew ?_ | refine Go.below_drewN ?_ _ | (refine Below.alloc ?_ (by first | exact Nat.le_refl _ | (simp; done) | (simp; omega) | (simp at *; omega)) _) | (refine Below.setCell ?_ (by first | exact Nat.le_refl _ | (simp; done) | (simp; omega)) _) | (refine Below.trans ?_ (Below.mono (by assumption) (by first | exact Nat.le_refl _ | (simp; done) | (simp; omega) | (simp at *; omega))))))
    · have e : wholeI true V = -(V : Int) := rfl
      rw [e]
      go_enter Tryz.func24, Tryz.ntmps24
      go_wp2_with (first | (go_at_call 41; refine (isDec_any _ _ _ _ hs hx).mono ?_; rintro e w1 ⟨rfl, hb1⟩; obtain ⟨hb1c, hb1f⟩ := bcell hb1; have hb1q := hb1.size; (try simp at hb1q); have hb1q0 : w.heap.size < w1.heap.size := (by omega)) | (go_at_call 50; refine (hS.out _).mono ?_; rintro e w2 ⟨rfl, hb2⟩; obtain ⟨hb2c, hb2f⟩ := bcell hb2; have hb2q := hb2.size; (try simp at hb2q); have hb2q0 : w.heap.size < w2.heap.size := (by omega)) | (go_at_call 51; refine (hC.out _).mono ?_; rintro e w3 ⟨rfl, hb3⟩; obtain ⟨hb3c, hb3f⟩ := bcell hb3; have hb3q := hb3.size; (try simp at hb3q); have hb3q0 : w.heap.size < w3.heap.size := (by omega)) | (go_at_call 52; refine (hT.out _).mono ?_; rintro e w4 ⟨rfl, hb4⟩; obtain ⟨hb4c, hb4f⟩ := bcell hb4; have hb4q := hb4.size; (try simp at hb4q); have hb4q0 : w.heap.size < w4.heap.size := (by omega)))
      refine bodyPost_ret (v := .tuple #[.int .i64 (-(V : Int)), .bool true]) (by simp [results, Tryz.results24, go_sem, *]) rfl ⟨rfl, ?_⟩
      go_light
      (repeat (first | exact Below.refl _ _ | assumption | refine Below.drew ?_ | refine Go.below_drewN ?_ _ | (refine Below.alloc ?_ (by first | exact Nat.le_refl _ | (simp; done) | (simp; omega) | (simp at *; omega)) _) | (refine Below.setCell ?_ (by first | exact Nat.le_refl _ | (simp; done) | (simp; omega)) _) | (refine Below.trans ?_ (Below.mono (by assumption) (by first | exact Nat.le_refl _ | (simp; done) | (simp; omega) | (simp at *; omega))))))
  · obtain ⟨q, hq⟩ : ∃ q, cmpN V 1000000000000000000 = q := ⟨_, rfl⟩
    have hq0 : 0 < q := by rcases cmpN_cases V 1000000000000000000 with ⟨_, e⟩ | ⟨_, e⟩ | ⟨_, e⟩ <;> omega
    rw [hq] at hC
    rw [if_neg hle]
    clear hq
    go_enter Tryz.func24, Tryz.ntmps24
    go_wp2_with (first | (go_at_call 41; refine (isDec_any _ _ _ _ hs hx).mono ?_; rintro e w1 ⟨rfl, hb1⟩; obtain ⟨hb1c, hb1f⟩ := bcell hb1; have hb1q := hb1.size; (try simp at hb1q); have hb1q0 : w.heap.size < w1.heap.size := (by omega)) | (go_at_call 50; refine (hS.out _).mono ?_; rintro e w2 ⟨rfl, hb2⟩; obtain ⟨hb2c, hb2f⟩ := bcell hb2; have hb2q := hb2.size; (try simp at hb2q); have hb2q0 : w.heap.size < w2.heap.size := (by omega)) | (go_at_call 51; refine (hC.out _).mono ?_; rintro e w3 ⟨rfl, hb3⟩; obtain ⟨hb3c, hb3f⟩ := bcell hb3; have hb3q := hb3.size; (try simp at hb3q); have hb3q0 : w.heap.size < w3.heap.size := (by omega)))
    refine bodyPost_ret (v := .tuple #[.int .i64 0, .bool false]) (by simp [results, Tryz.results24, go_sem, *]) rfl ⟨rfl, ?_⟩
    go_light
    (repeat (first | exact Below.refl _ _ | assumption | refine Below.drew ?_ | refine Go.below_drewN ?_ _ | (refine Below.alloc ?_ (by first | exact Nat.le_refl _ | (simp; done) | (simp; omega) | (simp at *; omega)) _) | (refine Below.setCell ?_ (by first | exact Nat.le_refl _ | (simp; done) | (simp; omega)) _) | (refine Below.trans ?_ (Below.mono (by assumption) (by first | exact Nat.le_refl _ | (simp; done) | (simp; omega) | (simp at *; omega))))))
end Go.Proofs.YtjjpdoabagnmoaaGreatDoor
/-
  The contracts of the cursor that the draws read their code by: what it hands out lies in range; nothing but its own block is written. Conditions: the cursor stands at a block of its own, the code below it.
-/
namespace Go.Proofs.YtjjpdoabagnmoaaGreatDoor
open Go.RowKit
set_option linter.unusedVariables false
set_option linter.unusedSimpArgs false

/-- nothing but block p may have turned -/
structure Only (p : Nat) (w w' : World) : Prop where
  os : w'.os = w.os
  tape : w'.tape = w.tape
  output : w'.output = w.output
  size : w'.heap.size = w.heap.size
  block : ∀ k, k ≠ p → w'.heap[k]? = w.heap[k]?
theorem Only.refl (p : Nat) (w : World) : Only p w w := ⟨rfl, rfl, rfl, rfl, fun _ _ => rfl⟩
theorem Only.trans {p : Nat} {a b c : World} (h : Only p a b) (k : Only p b c) : Only p a c :=
  ⟨k.os.trans h.os, k.tape.trans h.tape, k.output.trans h.output, k.size.trans h.size, fun i hi => (k.block i hi).trans (h.block i hi)⟩
theorem Only.below {p B : Nat} {w w' : World} (h : Only p w w') (hB : B ≤ p) : Below B w w' :=
  ⟨h.os, h.tape, h.output, Nat.le_of_eq h.size.symm, fun k hk => h.block k (by omega)⟩
theorem Only.drewN {p : Nat} {w w' : World} (h : Only p w w') (n : Nat) : Only p w (w'.drewN n) := ⟨h.os, h.tape, h.output, h.size, h.block⟩
theorem Only.setCell {p : Nat} {w w' : World} (h : Only p w w') (o : Nat) (v : Value) : Only p w (w'.setCell ⟨p, o, none⟩ v) := by
  refine ⟨h.os, h.tape, h.output, by simpa [World.setCell] using h.size, fun k hk => ?_⟩
  rw [← h.block k hk]
  simp [World.setCell, Array.getElem?_modify]
  intro e; exact absurd e.symm hk
theorem Only.cell {p : Nat} {w w' : World} (h : Only p w w') {b o : Nat} (hb : b ≠ p) : w'.cell? ⟨b, o, none⟩ = w.cell? ⟨b, o, none⟩ := by
  unfold World.cell?; rw [h.block b hb]
theorem Only.frozen {p : Nat} {w w' : World} (h : Only p w w') {b o : Nat} (hb : b ≠ p) : w'.frozen? ⟨b, o, none⟩ = w.frozen? ⟨b, o, none⟩ := by
  unfold World.frozen?; rw [h.block b hb]

/-- a cursor at block p over a row of len bytes -/
structure Cur (w : World) (p : Nat) (a : Option Addr) (len cap at' seed : Nat) : Prop where
  c0 : w.cell? ⟨p, 0, none⟩ = some (.slice a len cap)
  c1 : w.cell? ⟨p, 1, none⟩ = some (.int .i64 (at' : Int))
  c2 : w.cell? ⟨p, 2, none⟩ = some (.int .i64 (seed : Int))
  f1 : w.frozen? ⟨p, 1, none⟩ = false
  f2 : w.frozen? ⟨p, 2, none⟩ = false
  row : len = 0 ∨ ∃ b off, a = some ⟨b, off, none⟩ ∧ b < p ∧ ∀ i, i < len → ∃ c : Nat, c < 256 ∧ w.cell? ⟨b, off + i, none⟩ = some (.int .u8 (c : Int))
  seed_lt : seed < 70000
  len_le : len ≤ 1099511627776

theorem Cur.drewN {w : World} {p : Nat} {a : Option Addr} {len cap at' seed : Nat} (h : Cur w p a len cap at' seed) (n : Nat) : Cur (w.drewN n) p a len cap at' seed :=
  ⟨h.c0, h.c1, h.c2, h.f1, h.f2, h.row, h.seed_lt, h.len_le⟩
theorem Cur.move {w : World} {p : Nat} {a : Option Addr} {len cap at' seed : Nat} (h : Cur w p a len cap at' seed) (x : Nat) : Cur (w.setCell ⟨p, 1, none⟩ (.int .i64 (x : Int))) p a len cap x seed := by
  refine ⟨?_, ?_, ?_, ?_, ?_, ?_, h.seed_lt, h.len_le⟩
  · rw [World.cell?_setCell_other _ _ _ _ (by rintro ⟨⟩)]; exact h.c0
  · exact World.cell?_setCell_same' _ _ _ (by rw [h.c1]; rfl)
  · rw [World.cell?_setCell_other _ _ _ _ (by rintro ⟨⟩)]; exact h.c2
  · rw [World.frozen?_setCell]; exact h.f1
  · rw [World.frozen?_setCell]; exact h.f2
  · rcases h.row with h0 | ⟨b, off, r1, r2, r3⟩
    · exact .inl h0
    · refine .inr ⟨b, off, r1, r2, fun i hi => ?_⟩
      obtain ⟨c, hc, e⟩ := r3 i hi
      exact ⟨c, hc, by rw [World.cell?_setCell_other _ _ _ _ (by intro e; have e' := congrArg Addr.block e; simp at e'; omega)]; exact e⟩
theorem Cur.sow {w : World} {p : Nat} {a : Option Addr} {len cap at' seed : Nat} (h : Cur w p a len cap at' seed) (x : Nat) (hx : x < 70000) : Cur (w.setCell ⟨p, 2, none⟩ (.int .i64 (x : Int))) p a len cap at' x := by
  refine ⟨?_, ?_, ?_, ?_, ?_, ?_, hx, h.len_le⟩
  · rw [World.cell?_setCell_other _ _ _ _ (by rintro ⟨⟩)]; exact h.c0
  · rw [World.cell?_setCell_other _ _ _ _ (by rintro ⟨⟩)]; exact h.c1
  · exact World.cell?_setCell_same' _ _ _ (by rw [h.c2]; rfl)
  · rw [World.frozen?_setCell]; exact h.f1
  · rw [World.frozen?_setCell]; exact h.f2
  · rcases h.row with h0 | ⟨b, off, r1, r2, r3⟩
    · exact .inl h0
    · refine .inr ⟨b, off, r1, r2, fun i hi => ?_⟩
      obtain ⟨c, hc, e⟩ := r3 i hi
      exact ⟨c, hc, by rw [World.cell?_setCell_other _ _ _ _ (by intro e; have e' := congrArg Addr.block e; simp at e'; omega)]; exact e⟩
/-- a call that leaves all that stood below leaves the cursor -/
theorem Cur.below {w w' : World} {p B : Nat} {a : Option Addr} {len cap at' seed : Nat} (h : Cur w p a len cap at' seed) (hb : Below B w w') (hp : p < B) : Cur w' p a len cap at' seed := by
  refine ⟨?_, ?_, ?_, ?_, ?_, ?_, h.seed_lt, h.len_le⟩
  · rw [hb.cell (p := ⟨p, 0, none⟩) hp]; exact h.c0
  · rw [hb.cell (p := ⟨p, 1, none⟩) hp]; exact h.c1
  · rw [hb.cell (p := ⟨p, 2, none⟩) hp]; exact h.c2
  · rw [hb.frozen (p := ⟨p, 1, none⟩) hp]; exact h.f1
  · rw [hb.frozen (p := ⟨p, 2, none⟩) hp]; exact h.f2
  · rcases h.row with h0 | ⟨b, off, r1, r2, r3⟩
    · exact .inl h0
    · refine .inr ⟨b, off, r1, r2, fun i hi => ?_⟩
      obtain ⟨c, hc, e⟩ := r3 i hi
      exact ⟨c, hc, by rw [hb.cell (p := ⟨b, off + i, none⟩) (Nat.lt_trans r2 hp)]; exact e⟩

theorem wrap_seventh (s : Nat) (h : s ≤ 70000) : ∃ q : Nat, q ≤ 70000 ∧ IntKind.i64.wrap ((s : Int) / 7) = (q : Int) :=
  ⟨s / 7, by omega, by rw [IntWalk.i64_in _ (by omega)]; omega⟩
theorem wrap_sum (s c : Nat) (h : s ≤ 70000) (hc : c < 256) : ∃ q : Nat, q ≤ 80000 ∧ IntKind.i64.wrap ((s : Int) + (c : Int)) = (q : Int) :=
  ⟨s + c, by omega, by rw [IntWalk.i64_in _ (by omega)]; omega⟩
/-- what a pick leaves -/
def Picked (p : Nat) (a : Option Addr) (len cap at' n : Nat) (w : World) (e : Ending) (w' : World) : Prop :=
  ∃ x at2 seed2 : Nat, e = .returned (.int .i64 (x : Int)) ∧ (x = 0 ∨ x < n) ∧ at2 ≤ at' + 1 ∧ Cur w' p a len cap at2 seed2 ∧ Only p w w'

theorem pick_any (p len cap at' seed n : Nat) (a : Option Addr) (w : World) (h : Cur w p a len cap at' seed) (hat : at' ≤ 1000000000000) (hn : n ≤ 1000000000000) :
    Calls Tryz.prog 66 #[.pointer (some ⟨p, 0, none⟩), .int .i64 (n : Int)] w (Picked p a len cap at' n w) := by
  have c0 := h.c0
  have c1 := h.c1
  have c2 := h.c2
  have f1 := h.f1
  have f2 := h.f2
  have hlen := h.len_le
  have hsd := h.seed_lt
  have HC := Lib.hid h
  by_cases hn2 : n < 2
  · clear h
    go_enter Tryz.func66, Tryz.ntmps66
    go_wp2
    go_ret
    exact ⟨0, at', seed, rfl, .inl rfl, by omega, HC.out, Only.refl _ _⟩
  · by_cases hlt : at' < len
    · have hrow := h.row
      obtain ⟨b, off, ha, hb, hr⟩ : ∃ b off, a = some ⟨b, off, none⟩ ∧ b < p ∧ ∀ i, i < len → ∃ c : Nat, c < 256 ∧ w.cell? ⟨b, off + i, none⟩ = some (.int .u8 (c : Int)) := by
        rcases hrow with h0 | h1
        · omega
        · exact h1
      obtain ⟨c, hc, hcell⟩ := hr at' hlt
      subst ha
      have hlt' : (at' : Int) < (len : Int) := by omega
      have hcw : wrap64 (c : Int) = (c : Int) := IntWalk.wrap64_in _ (by omega)
      clear hr hrow h
      go_enter Tryz.func66, Tryz.ntmps66
      go_wp2_with fail
      go_quiet (fail)
      go_wp2_with fail
      go_quiet (fail)
      go_wp2
      go_ret
      exact ⟨c % n, at' + 1, seed, rfl, .inr (Nat.mod_lt _ (by omega)), Nat.le_refl _, (HC.out.drewN _).move (at' + 1), ((Only.refl p w).drewN _).setCell _ _⟩
    · have hge : decide ((at' : Int) < (len : Int)) = false := decide_eq_false (by omega)
      obtain ⟨sd, hsd1⟩ : ∃ sd, (seed * 1103 + 12345) % 65521 = sd := ⟨_, rfl⟩
      have hsv : ((seed : Int) * 1103 + 12345) % 65521 = (sd : Int) := by omega
      have hsd2 : sd < 65521 := by omega
      clear hsd1 h
      by_cases h0 : len = 0
      · have hz : decide ((0 : Int) < (len : Int)) = false := decide_eq_false (by omega)
        go_enter Tryz.func66, Tryz.ntmps66
        go_wp2_with fail
        go_quiet (fail)
        go_wp2
        go_ret
        exact ⟨0, at' + 1, sd, rfl, .inl rfl, Nat.le_refl _, ((HC.out.drewN _).sow sd (by omega)).move (at' + 1), (((Only.refl p w).drewN _).setCell _ _).setCell _ _⟩
      · obtain ⟨b, off, ha, hb, hr⟩ : ∃ b off, a = some ⟨b, off, none⟩ ∧ b < p ∧ ∀ i, i < len → ∃ c : Nat, c < 256 ∧ w.cell? ⟨b, off + i, none⟩ = some (.int .u8 (c : Int)) := by
          rcases HC.out.row with h0' | h1
          · omega
          · exact h1
        subst ha
        obtain ⟨i, hi⟩ : ∃ i, at' % len = i := ⟨_, rfl⟩
        have hilt : i < len := by rw [← hi]; exact Nat.mod_lt _ (by omega)
        have hai : (at' : Int) % (len : Int) = (i : Int) := by rw [← hi]; exact (Int.natCast_emod at' len).symm
        have hat' : (at' : Int).tmod (len : Int) = (i : Int) := by rw [Int.tmod_eq_emod_of_nonneg (by omega)]; exact hai
        obtain ⟨c, hc, hcell⟩ := hr i hilt
        have HCE := Lib.hid hcell
        obtain ⟨s7, hs7, hw1⟩ := wrap_seventh sd (by omega)
        obtain ⟨x7, hx8, hw2⟩ := wrap_sum s7 c (by omega) hc
        have hz : (0 : Int) < (len : Int) := by omega
        have hi1 : (i : Int) < (len : Int) := by omega
        clear hr hi hcell
        go_enter Tryz.func66, Tryz.ntmps66
        go_wp2_with fail
        go_quiet (fail)
        go_wp2_with fail
        have HC2 := Lib.hid ((HC.out.drewN nq).sow sd (by omega))
        have HO2 := Lib.hid (((Only.refl p w).drewN nq).setCell 2 (.int .i64 (sd : Int)))
        clear c0 c1 c2 f1 f2
        generalize (w.drewN nq).setCell ⟨p, 2, none⟩ (.int .i64 (sd : Int)) = w1 at HC2 HO2 ⊢
        have c0 := HC2.out.c0
        have c1 := HC2.out.c1
        have c2 := HC2.out.c2
        have f1 := HC2.out.f1
        have f2 := HC2.out.f2
        have hcell2 : w1.cell? ⟨b, off + i, none⟩ = some (.int .u8 (c : Int)) := by rw [HO2.out.cell (by omega)]; exact HCE.out
        go_quiet (fail)
        go_wp2
        go_ret
        exact ⟨x7 % n, at' + 1, sd, rfl, .inr (Nat.mod_lt _ (by omega)), Nat.le_refl _, (HC2.out.drewN _).move (at' + 1), (HO2.out.drewN _).setCell _ _⟩
end Go.Proofs.YtjjpdoabagnmoaaGreatDoor
/-
  The contracts of what the draws draw: a size, a number, a natural: each returns something in range and leaves what lies below the cursor. Conditions: the cursor stands at a block of its own, the code below it.
-/
namespace Go.Proofs.YtjjpdoabagnmoaaGreatDoor
open Go.RowKit
set_option linter.unusedVariables false
set_option linter.unusedSimpArgs false

theorem size_any (p len cap at' seed n : Nat) (a : Option Addr) (w : World) (h : Cur w p a len cap at' seed) (hat : at' ≤ 100000000000) (hn : n ≤ 100000) :
    Calls Tryz.prog 65 #[.pointer (some ⟨p, 0, none⟩), .int .i64 (n : Int)] w fun e w' => ∃ x at2 seed2 : Nat, e = .returned (.int .i64 (x : Int)) ∧ x ≤ n ∧ at2 ≤ at' + 1 ∧ Cur w' p a len cap at2 seed2 ∧ Only p w w' := by
  have c0 := h.c0
  have hlen := h.len_le
  have HC := Lib.hid h
  clear h
  by_cases hk : n < 1 + len / 10
  · have hk' : (n : Int) < 1 + (len : Int) / 10 := by omega
    go_enter Tryz.func65, Tryz.ntmps65
    go_wp2_with fail
    refine (pick_any p len cap at' seed (n + 1) a _ HC.out (by omega) (by omega)).mono ?_
    rintro e w1 ⟨x, at2, seed2, rfl, hx, hat2, hc2, ho2⟩
    have H := Lib.hid (And.intro hc2 ho2)
    clear hc2 ho2
    go_wp2
    go_ret
    exact ⟨x, at2, seed2, rfl, by omega, hat2, H.out.1, H.out.2⟩
  · have hk' : ¬ ((n : Int) < 1 + (len : Int) / 10) := by omega
    obtain ⟨q, hq⟩ : ∃ q, 1 + len / 10 = q := ⟨_, rfl⟩
    have hq' : 1 + (len : Int) / 10 = (q : Int) := by omega
    have hqn : q ≤ n := by omega
    have hk2 : decide ((n : Int) < (q : Int)) = false := decide_eq_false (by omega)
    clear hk hk' hq
    go_enter Tryz.func65, Tryz.ntmps65
    go_wp2_with fail
    refine (pick_any p len cap at' seed (q + 1) a _ HC.out (by omega) (by omega)).mono ?_
    rintro e w1 ⟨x, at2, seed2, rfl, hx, hat2, hc2, ho2⟩
    have H := Lib.hid (And.intro hc2 ho2)
    clear hc2 ho2
    go_wp2
    go_ret
    exact ⟨x, at2, seed2, rfl, by omega, hat2, H.out.1, H.out.2⟩

theorem wf_u8 {x : Int} (h : (Lit.int .u8 x).wf = true) : 0 ≤ x ∧ x ≤ 255 := by
  simpa [Lit.wf, IntKind.min, IntKind.max, IntKind.signed, IntKind.bits] using h
/-- the cursor that a code is opened by -/
theorem open_any (a : Option Addr) (len cap : Nat) (z : List Int) (w : World) (hr : IsRow .u8 w a len cap z) (hlen : len ≤ 1048576) :
    Calls Tryz.prog 35 #[.slice a len cap] w fun e w' => ∃ p seed, e = .returned (.pointer (some ⟨p, 0, none⟩)) ∧ w.heap.size ≤ p ∧ p < w'.heap.size ∧ Cur w' p a len cap 0 seed ∧ Below w.heap.size w w' := by
  obtain ⟨hrow, hl, hm, hz⟩ := isRow_row hr
  have HR := Lib.hid (And.intro hrow (And.intro hl hz))
  clear hrow hl hz hr hm
  go_enter Tryz.func35, Tryz.ntmps35
  go_wp2
  go_ret
  refine ⟨w.heap.size, 17 + len % 1000, rfl, Nat.le_refl _, by simp, ⟨by simp, by simp, by simp, by simp, by simp, ?_, by omega, by omega⟩, (Below.refl _ _).alloc (Nat.le_refl _) _⟩
  obtain ⟨hrow, hl, hz⟩ := HR.out
  rcases hrow with h0 | ⟨b, off, ha, hb, hc⟩
  · left; rw [h0] at hl; simpa using hl.symm
  · right
    refine ⟨b, off, ha, hb, fun i hi => ?_⟩
    have e := hc i (by omega)
    have hm : (z.take len).getD i 0 ∈ z.take len := by
      rw [List.getD_eq_getElem?_getD, List.getElem?_eq_getElem (by omega)]
      exact List.getElem_mem _
    obtain ⟨w1, w2⟩ := wf_u8 (hz _ hm)
    refine ⟨((z.take len).getD i 0).toNat, by omega, ?_⟩
    rw [Below.cell ((Below.refl w.heap.size w).alloc (Nat.le_refl _) _) (p := ⟨b, off + i, none⟩) hb, e]
    congr 2
    omega

theorem new_cell (w : World) (cs : Array Value) (e : TypeId) (j : Nat) : (w.alloc (.cells cs e)).cell? ⟨w.heap.size, j, none⟩ = cs[j]? := by simp

end Go.Proofs.YtjjpdoabagnmoaaGreatDoor
