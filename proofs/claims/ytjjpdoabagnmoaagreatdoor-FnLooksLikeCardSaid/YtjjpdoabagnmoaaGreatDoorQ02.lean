/-
  Texts of this claim in one file, in build order: Fill, NumText, LaidWorld, PowTab, NatOk, DecOk, DecLaw, DecNeg, Form. Each says ahead what it proves and under which conditions.
-/
import Derived.Test.YtjjpdoabagnmoaaGreatDoorQ01
import Derived.WalkKit
import Derived.WalkLawsBesides
import Derived.WalkSpells
import Derived.BigQuiet
import Derived.Deep.Light
import Derived.Deep.QuietTactic
import Derived.Deep.DeepMust
import Derived.WalkSmall
import Derived.ProofKit
import Derived.Lib.ItoaNum
import Derived.Test.YtjjpdoabagnmoaaGreatDoorRows
import Derived.Test.YtjjpdoabagnmoaaGreatDoorShelf
import Derived.Lib.LaidIn
import Derived.Lib.LaidU8T
import Derived.Deep.DeepHandedRow
import Derived.Lib.LaidTab
import Derived.Lib.SmallJoins
import Derived.Lib.QuietBelow
/-
  Slices of bytes that a call makes and fills, and their text. Condition: no longer than 2 to the 40.
-/
namespace Go.Proofs.YtjjpdoabagnmoaaGreatDoor
open Go.RowKit
set_option linter.unusedVariables false
set_option linter.unusedSimpArgs false

theorem infoByte : (Tryz.prog.info? 5).map (fun i => (i.zero, i.size, i.bytes)) = some (some (.int .u8 0), 1, 1) := by kernel_rfl

theorem makeBytes (n : Nat) (hn : n ≤ 1099511627776) (u : World) : (Instr.makeSlice 28 (.int .i64 (n : Int)) (.int .i64 (n : Int))).run Tryz.prog u =
      .ok (.slice (some ⟨u.heap.size, 0, none⟩) n n) (u.alloc (.cells (madeCells #[.int .u8 0] n) 5)) := by
  obtain ⟨i0, hi, hz0, hz1, hz2⟩ := info_parts infoByte
  have h := run_make (P := Tryz.prog) u 28 5 i0 (.int .u8 0) Tryz.underlying28 hi hz0 .i64 .i64 (n : Int) (n : Int) (by omega) (Int.le_refl _) (by rw [hz2]; omega) (by omega)
  simpa [hz1, Value.cells] using h
theorem madeBytes_get (z : Value) (n j : Nat) (hj : j < n) : (madeCells #[z] n)[j]? = some z := by
  have e : j % 1 = 0 := Nat.mod_one j
  simp [madeCells, hj, e]
theorem fillBytes (w : World) (n : Nat) : Fill w (w.alloc (.cells (madeCells #[.int .u8 0] n) 5)) w.heap.size n (fun _ => .int .u8 0) := by
  have hF := Fill.made w w (Below.refl _ _) (madeCells #[.int .u8 0] n) 5 (fun _ => .int .u8 0) (fun j hj => madeBytes_get _ _ _ (by simpa [size_madeCells] using hj))
  rw [size_madeCells] at hF
  exact hF
/-- the text of a row of bytes -/
theorem textOfRow (w : World) (g cap n : Nat) (l : List UInt8) (hn : l.length = n) (hc : ∀ j (hj : j < l.length), w.cell? ⟨g, j, none⟩ = some (.int .u8 (l[j].toNat : Int))) :
    (convert 28 9 (.slice (some ⟨g, 0, none⟩) n cap)).run Tryz.prog w = .ok (.string (ofL l)) w := by
  subst hn
  refine run_convert_bytes_back w 28 9 5 ⟨g, 0, none⟩ cap l Tryz.underlying28 Tryz.underlying5 Tryz.underlying9 (fun j hj => ?_)
  rw [← hc j hj]
  congr 1
  unfold Addr.add
  split <;> simp_all
/-- a row that holds a number's places -/
theorem textOfDigs {w wr : World} {g n cap v : Nat} (h : Fill w wr g n (fun j => .int .u8 (48 + (dgt v (n - 1 - j) : Nat)))) :
    (convert 28 9 (.slice (some ⟨g, 0, none⟩) n cap)).run Tryz.prog wr = .ok (.string (ofL (digs v n))) wr := by
  refine textOfRow wr g cap n (digs v n) (digs_length n v) (fun j hj => ?_)
  rw [digs_length] at hj
  rw [h.cell j hj, digs_get n v j hj, ofNat_dig (dgt_lt _ _)]
  rfl

/-- a byte as a cell -/
def byteV (c : UInt8) : Value := .int .u8 (c.toNat : Int)
theorem textOfOwned {w : World} {b : Nat} {g cap n : Nat} {l : List UInt8} (h : w.ownsRow b 5 1 (.slice (some ⟨g, 0, none⟩) n cap) n (l.map byteV)) :
    (convert 28 9 (.slice (some ⟨g, 0, none⟩) n cap)).run Tryz.prog w = .ok (.string (ofL l)) w := by
  have hl : l.length = n := by simpa using h.1
  refine textOfRow w g cap n l hl (fun j hj => ?_)
  rw [h.cellAt j (by omega), List.getElem?_map, List.getElem?_eq_getElem hj]
  rfl
/-- an owned row of at least one element has an address -/
theorem ownsRow_some {w : World} {b : Nat} {e : TypeId} {v : Value} {n : Nat} {xs : List Value} (h : w.ownsRow b e 1 v n xs) (hn : 0 < n) : ∃ g cap, v = .slice (some ⟨g, 0, none⟩) n cap ∧ b ≤ g ∧ g < w.heap.size := by
  rcases h.2 with ⟨_, h0⟩ | ⟨g, cap, cur, hv, hg, hh, _⟩
  · omega
  · exact ⟨g, cap, hv, hg, (Array.getElem?_eq_some_iff.1 hh).1⟩
theorem ownsRow_one (w : World) (b : Nat) (e : TypeId) (x : Value) (hb : b ≤ w.heap.size) : (w.alloc (.cells #[x] e)).ownsRow b e 1 (.slice (some ⟨w.heap.size, 0, none⟩) 1 1) 1 [x] :=
  ⟨rfl, .inr ⟨w.heap.size, 1, #[x], rfl, hb, (MapKept.heap_alloc w _).1, Nat.le_refl _, by unfold maxLen; omega, rfl, rfl⟩⟩
/-- the cells of an owned row, where a law asks for them -/
theorem ownsRow_news {w : World} {b : Nat} {e : TypeId} {g cap n : Nat} {xs : List Value} (h : w.ownsRow b e 1 (.slice (some ⟨g, 0, none⟩) n cap) n xs) : ∀ j u, xs[j]? = some u → w.cell? ((⟨g, 0, none⟩ : Addr).add j) = some u := by
  intro j u hj
  have hjl : j < xs.length := (List.getElem?_eq_some_iff.1 hj).1
  have := h.cellAt j (by have := h.1; omega)
  rw [hj] at this
  rw [← this]
  congr 1
  unfold Addr.add
  split <;> simp_all
theorem byteV_one {l : List UInt8} : ∀ u ∈ l.map byteV, u.oneCell' = true := by
  intro u hu
  obtain ⟨c, _, rfl⟩ := List.mem_map.1 hu
  rfl
end Go.Proofs.YtjjpdoabagnmoaaGreatDoor
/-
  The contracts of NumText: the numeral of every int. Condition: an int.
-/
namespace Go.Proofs.YtjjpdoabagnmoaaGreatDoor
open Go.RowKit
set_option linter.unusedVariables false
set_option linter.unusedSimpArgs false

theorem num_len {v k : Nat} (h1 : 10 ^ k ≤ v) (h2 : v < 10 ^ (k + 1)) : (dec v).length = k + 1 := by
  have a := dec_len_le (k + 1) v (by omega) h2
  have b : v < 10 ^ (dec v).length := by
    have := val_lt (dec v) (dec_all v)
    rwa [val_dec] at this
  have c : ¬ (dec v).length ≤ k := fun hc => by
    have := Nat.pow_le_pow_right (n := 10) (by omega) hc
    omega
  omega
theorem num_val {d : Nat} (h : d < 10) : ((UInt8.ofNat (48 + d)).toNat : Int) = 48 + (d : Int) := by rw [ofNat_dig h]; omega
theorem num_ret {s t : ByteArray} (h : s = t) : Ending.returned (.string s) = .returned (.string t) := by rw [h]
theorem decDigits_dec : ∀ n : Nat, Lib.decDigits n = dec n := by
  intro n
  induction n using Nat.strongRecOn with
  | ind n ih =>
    by_cases h : n < 10
    · rw [dec_small h, Lib.decDigits, dif_pos h]
    · rw [dec_big h, Lib.decDigits, dif_neg h, ih (n / 10) (by omega)]
/-- the numeral of an int -/
def numL (n : Int) : List UInt8 := if n < 0 then 45 :: dec n.natAbs else dec n.natAbs
theorem itoa_numL (n : Int) : Lib.itoa n = numL n := by
  unfold Lib.itoa numL
  by_cases h : n < 0
  · rw [if_pos h, if_pos h, decDigits_dec]
  · rw [if_neg h, if_neg h, decDigits_dec]; congr 1; omega
theorem digs_dec {A k : Nat} (h1 : A < 10 ^ k) (h2 : k = 0 ∨ 10 ^ (k - 1) ≤ A) (h0 : A ≠ 0) : digs A k = dec A := by
  have hk : k ≠ 0 := by intro e; rw [e] at h1; omega
  obtain ⟨j, rfl⟩ : ∃ j, k = j + 1 := ⟨k - 1, by omega⟩
  have h3 : 10 ^ j ≤ A := by
    rcases h2 with h | h
    · omega
    · exact h
  refine val_inj _ _ (digs_all _ _) (dec_all A) (by rw [digs_length, num_len h3 h1]) ?_
  rw [val_digs _ _ h1, val_dec]
theorem tmod_neg (M : Nat) : Int.tmod (-(M : Int)) 10 = -((M % 10 : Nat) : Int) := by
  rw [Int.neg_tmod, Int.tmod_eq_emod_of_nonneg (by omega)]; omega
theorem tdiv_neg (M : Nat) : Int.tdiv (-(M : Int)) 10 = -((M / 10 : Nat) : Int) := by
  rw [Int.neg_tdiv, Int.tdiv_eq_ediv_of_nonneg (by omega)]; omega
theorem tmod_pos (M : Nat) : Int.tmod (M : Int) 10 = ((M % 10 : Nat) : Int) := by
  rw [Int.tmod_eq_emod_of_nonneg (by omega)]; omega
theorem tdiv_pos (M : Nat) : Int.tdiv (M : Int) 10 = ((M / 10 : Nat) : Int) := by
  rw [Int.tdiv_eq_ediv_of_nonneg (by omega)]; omega
theorem div_pow_succ (A k : Nat) : A / 10 ^ k / 10 = A / 10 ^ (k + 1) := by rw [Nat.div_div_eq_div_mul, ← Nat.pow_succ]
theorem dgt_divp (A k : Nat) : A / 10 ^ k % 10 = dgt A k := rfl
theorem div_pos_pow {A k : Nat} (h : A / 10 ^ k ≠ 0) : 10 ^ k ≤ A := by
  rcases Nat.lt_or_ge A (10 ^ k) with h1 | h1
  · exact absurd (Nat.div_eq_of_lt h1) h
  · exact h1
theorem div_zero_pow {A k : Nat} (h : A / 10 ^ k = 0) : A < 10 ^ k := by
  rcases Nat.div_eq_zero_iff.1 h with h1 | h1
  · have : 0 < 10 ^ k := Nat.pow_pos (by omega)
    omega
  · exact h1

set_option maxRecDepth 10000 in
set_option maxHeartbeats 2000000 in
theorem specNumText_pos (A : Nat) (w : World) (h0 : A ≠ 0) (h1 : A ≤ 9223372036854775807) :
    Calls Tryz.prog 39 #[.int .i64 ((A : Nat) : Int)] w fun e w' => e = .returned (.string (ofL (dec A))) ∧ Below w.heap.size w w' := by
  obtain ⟨i0, hi, hz0, hz1, hz2⟩ := info_parts infoByte
  have hnz : ((((A : Nat) : Int) : Int) == 0) = false := beq_eq_false_iff_ne.2 (by omega)
  have hnn : ¬ ((A : Nat) : Int) < 0 := by omega
  go_enter Tryz.func39, Tryz.ntmps39
  go_wp2
  go_loopw [3, 4] (fun v m wr => ∃ (k g cap : Nat), k ≤ 100 ∧ (k = 0 ∨ 10 ^ (k - 1) ≤ A) ∧ m = .int .i64 ((A / 10 ^ k : Nat) : Int) ∧ v = .slice (some ⟨g, 0, none⟩) k cap ∧ wr.ownsRow w.heap.size 5 1 (.slice (some ⟨g, 0, none⟩) k cap) k ((digs A k).map byteV) ∧ Below w.heap.size w wr) (fun _ m _ => (intOf m).natAbs)
  case atStart =>
    exact ⟨0, w.heap.size, 0, Nat.zero_le _, .inl rfl, by rw [Nat.pow_zero, Nat.div_one], rfl, ownsRow_empty _ _ _ (Nat.le_refl _), (Below.refl _ _).alloc (Nat.le_refl _) _⟩
  case round =>
    obtain ⟨k, g, cap, hk, hkA, rfl, rfl, hown, hb⟩ := hrel
    have HOW := Lib.hid hown
    have HBW := Lib.hid hb
    have HKA := Lib.hid hkA
    have hlow := hb.size
    have hds := div_pow_succ A k
    have hdg := dgt_divp A k
    have hML : A / 10 ^ k ≤ 9223372036854775807 := Nat.le_trans (Nat.div_le_self _ _) h1
    have HPP := Lib.hid (div_pos_pow (A := A) (k := k))
    have HZP := Lib.hid (div_zero_pow (A := A) (k := k))
    clear hown hb hkA
    obtain ⟨M, hM⟩ : ∃ M, A / 10 ^ k = M := ⟨_, rfl⟩
    rw [hM] at hds hdg hML HPP HZP ⊢
    have HDS := Lib.hid hds
    have HDG := Lib.hid hdg
    clear hds hdg hM
    by_cases hM0 : M = 0
    · have hlt := HZP.out hM0
      have HDD := Lib.hid (digs_dec hlt HKA.out h0)
      have hconv := textOfOwned HOW.out
      subst hM0
      clear hlt
      go_wp2
      go_ret
      refine ⟨num_ret ?_, HBW.out⟩
      rw [HDD.out]
    · have hk2 : k ≤ 18 := by
        have h3 := HPP.out hM0
        rcases Nat.lt_or_ge 18 k with h | h
        · have := Nat.pow_le_pow_right (n := 10) (by decide) (show 19 ≤ k by omega)
          omega
        · exact h
      have hdl := dgt_lt A k
      have hmz : ((((M : Nat) : Int) : Int) == 0) = false := beq_eq_false_iff_ne.2 (by omega)
      have hrem : Int.tmod (((M : Nat) : Int)) 10 = ((M % 10 : Nat) : Int) := tmod_pos M
      have hquo : Int.tdiv (((M : Nat) : Int)) 10 = ((M / 10 : Nat) : Int) := tdiv_pos M
      go_wp2_with (at_builtin; refine wpList_append_own _ rfl _ _ 28 rfl w.heap.size 5 i0 (.int .u8 0) 1 1 Tryz.underlying28 hi hz0 hz1 hz2 rfl (by decide) _ _ _ rfl (ownsRow_one wr w.heap.size 5 _ hlow) ⟨g, 0, none⟩ k cap ((digs A k).map byteV) rfl (by simp [digs_length]) (ownsRow_news (HOW.out.alloc _)) byteV_one (by unfold maxLen; omega) (by omega) (by simp; omega) ?_; intro v2 w2 hown2 hgr2 hnil2)
      obtain ⟨g2, cap2, rfl, hg2, hg2'⟩ := ownsRow_some hown2 (by omega)
      have hbz : Below w.heap.size w w2 := Below.grown (HBW.out.alloc hlow _) hgr2 (by simp; omega) (ownBlock_lo (ownsRow_one wr w.heap.size 5 (.bool true) hlow))
      have hdsx := HDS.out
      have hdgx := HDG.out
      refine ⟨⟨k + 1, g2, cap2, by omega, .inr (by rw [Nat.add_sub_cancel]; exact HPP.out hM0), by congr 1; omega, by rw [Nat.add_comm 1 k], ?_, hbz⟩, by simp [intOf]; omega⟩
      rw [digs_cons, List.map_cons]
      rw [Nat.add_comm 1 k] at hown2
      have hx5 : byteV (UInt8.ofNat (48 + dgt A k)) = .int .u8 (48 + (M : Int) % 10) := by
        unfold byteV; rw [num_val hdl]; congr 1; omega
      rw [hx5]
      exact hown2

set_option maxRecDepth 10000 in
set_option maxHeartbeats 2000000 in
theorem specNumText_neg (A : Nat) (w : World) (h0 : A ≠ 0) (h1 : A ≤ 9223372036854775808) :
    Calls Tryz.prog 39 #[.int .i64 (-((A : Nat) : Int))] w fun e w' => e = .returned (.string (ofL (45 :: dec A))) ∧ Below w.heap.size w w' := by
  obtain ⟨i0, hi, hz0, hz1, hz2⟩ := info_parts infoByte
  have hnz : (((-((A : Nat) : Int)) : Int) == 0) = false := beq_eq_false_iff_ne.2 (by omega)
  have hnn : (-((A : Nat) : Int)) < 0 := by omega
  go_enter Tryz.func39, Tryz.ntmps39
  go_wp2
  go_loopw [3, 4] (fun v m wr => ∃ (k g cap : Nat), k ≤ 100 ∧ (k = 0 ∨ 10 ^ (k - 1) ≤ A) ∧ m = .int .i64 (-((A / 10 ^ k : Nat) : Int)) ∧ v = .slice (some ⟨g, 0, none⟩) k cap ∧ wr.ownsRow w.heap.size 5 1 (.slice (some ⟨g, 0, none⟩) k cap) k ((digs A k).map byteV) ∧ Below w.heap.size w wr) (fun _ m _ => (intOf m).natAbs)
  case atStart =>
    exact ⟨0, w.heap.size, 0, Nat.zero_le _, .inl rfl, by rw [Nat.pow_zero, Nat.div_one], rfl, ownsRow_empty _ _ _ (Nat.le_refl _), (Below.refl _ _).alloc (Nat.le_refl _) _⟩
  case round =>
    obtain ⟨k, g, cap, hk, hkA, rfl, rfl, hown, hb⟩ := hrel
    have HOW := Lib.hid hown
    have HBW := Lib.hid hb
    have HKA := Lib.hid hkA
    have hlow := hb.size
    have hds := div_pow_succ A k
    have hdg := dgt_divp A k
    have hML : A / 10 ^ k ≤ 9223372036854775808 := Nat.le_trans (Nat.div_le_self _ _) h1
    have HPP := Lib.hid (div_pos_pow (A := A) (k := k))
    have HZP := Lib.hid (div_zero_pow (A := A) (k := k))
    clear hown hb hkA
    obtain ⟨M, hM⟩ : ∃ M, A / 10 ^ k = M := ⟨_, rfl⟩
    rw [hM] at hds hdg hML HPP HZP ⊢
    have HDS := Lib.hid hds
    have HDG := Lib.hid hdg
    clear hds hdg hM
    by_cases hM0 : M = 0
    · have hlt := HZP.out hM0
      have HDD := Lib.hid (digs_dec hlt HKA.out h0)
      have hconv := textOfOwned HOW.out
      subst hM0
      clear hlt
      have hk3 : k ≤ 100 := hk
      go_wp2_with (at_builtin; refine wpList_append_own _ rfl _ _ 28 rfl w.heap.size 5 i0 (.int .u8 0) 1 1 Tryz.underlying28 hi hz0 hz1 hz2 rfl (by decide) _ _ _ rfl (ownsRow_one wr w.heap.size 5 _ hlow) ⟨g, 0, none⟩ k cap ((digs A k).map byteV) rfl (by simp [digs_length]) (ownsRow_news (HOW.out.alloc _)) byteV_one (by unfold maxLen; omega) (by omega) (by simp; omega) ?_; intro v2 w2 hown2 hgr2 hnil2)
      obtain ⟨g2, cap2, rfl, hg2, hg2'⟩ := ownsRow_some hown2 (by omega)
      have hbz : Below w.heap.size w w2 := Below.grown (HBW.out.alloc hlow _) hgr2 (by simp; omega) (ownBlock_lo (ownsRow_one wr w.heap.size 5 (.bool true) hlow))
      have hconv2 := textOfOwned (l := 45 :: digs A k) (by rw [List.map_cons]; exact hown2)
      rw [hconv2]
      go_wp2
      go_ret
      refine ⟨num_ret ?_, hbz⟩
      rw [HDD.out]
    · have hk2 : k ≤ 18 := by
        have h3 := HPP.out hM0
        rcases Nat.lt_or_ge 18 k with h | h
        · have := Nat.pow_le_pow_right (n := 10) (by decide) (show 19 ≤ k by omega)
          omega
        · exact h
      have hdl := dgt_lt A k
      have hmz : (((-((M : Nat) : Int)) : Int) == 0) = false := beq_eq_false_iff_ne.2 (by omega)
      have hrem : Int.tmod ((-((M : Nat) : Int))) 10 = (-((M % 10 : Nat) : Int)) := tmod_neg M
      have hquo : Int.tdiv ((-((M : Nat) : Int))) 10 = (-((M / 10 : Nat) : Int)) := tdiv_neg M
      by_cases hd0 : M % 10 = 0
      · have hdi : ((M % 10 : Nat) : Int) = 0 := by omega
        go_wp2_with (at_builtin; refine wpList_append_own _ rfl _ _ 28 rfl w.heap.size 5 i0 (.int .u8 0) 1 1 Tryz.underlying28 hi hz0 hz1 hz2 rfl (by decide) _ _ _ rfl (ownsRow_one wr w.heap.size 5 _ hlow) ⟨g, 0, none⟩ k cap ((digs A k).map byteV) rfl (by simp [digs_length]) (ownsRow_news (HOW.out.alloc _)) byteV_one (by unfold maxLen; omega) (by omega) (by simp; omega) ?_; intro v2 w2 hown2 hgr2 hnil2)
        obtain ⟨g2, cap2, rfl, hg2, hg2'⟩ := ownsRow_some hown2 (by omega)
        have hbz : Below w.heap.size w w2 := Below.grown (HBW.out.alloc hlow _) hgr2 (by simp; omega) (ownBlock_lo (ownsRow_one wr w.heap.size 5 (.bool true) hlow))
        have hdsx := HDS.out
        have hdgx := HDG.out
        refine ⟨⟨k + 1, g2, cap2, by omega, .inr (by rw [Nat.add_sub_cancel]; exact HPP.out hM0), by congr 1; omega, by rw [Nat.add_comm 1 k], ?_, hbz⟩, by simp [intOf]; omega⟩
        rw [digs_cons, List.map_cons]
        rw [Nat.add_comm 1 k] at hown2
        have hx5 : byteV (UInt8.ofNat (48 + dgt A k)) = .int .u8 (48) := by
          unfold byteV; rw [num_val hdl]; congr 1; omega
        rw [hx5]
        exact hown2
      · have hdi : 0 < ((M % 10 : Nat) : Int) := by omega
        go_wp2_with (at_builtin; refine wpList_append_own _ rfl _ _ 28 rfl w.heap.size 5 i0 (.int .u8 0) 1 1 Tryz.underlying28 hi hz0 hz1 hz2 rfl (by decide) _ _ _ rfl (ownsRow_one wr w.heap.size 5 _ hlow) ⟨g, 0, none⟩ k cap ((digs A k).map byteV) rfl (by simp [digs_length]) (ownsRow_news (HOW.out.alloc _)) byteV_one (by unfold maxLen; omega) (by omega) (by simp; omega) ?_; intro v2 w2 hown2 hgr2 hnil2)
        obtain ⟨g2, cap2, rfl, hg2, hg2'⟩ := ownsRow_some hown2 (by omega)
        have hbz : Below w.heap.size w w2 := Below.grown (HBW.out.alloc hlow _) hgr2 (by simp; omega) (ownBlock_lo (ownsRow_one wr w.heap.size 5 (.bool true) hlow))
        have hdsx := HDS.out
        have hdgx := HDG.out
        refine ⟨⟨k + 1, g2, cap2, by omega, .inr (by rw [Nat.add_sub_cancel]; exact HPP.out hM0), by congr 1; omega, by rw [Nat.add_comm 1 k], ?_, hbz⟩, by simp [intOf]; omega⟩
        rw [digs_cons, List.map_cons]
        rw [Nat.add_comm 1 k] at hown2
        have hx5 : byteV (UInt8.ofNat (48 + dgt A k)) = .int .u8 (48 + ((M % 10 : Nat) : Int)) := by
          unfold byteV; rw [num_val hdl]; congr 1; omega
        rw [hx5]
        exact hown2

theorem specNumText_any (n : Int) (w : World) (h0 : -9223372036854775808 ≤ n) (h1 : n ≤ 9223372036854775807) :
    Calls Tryz.prog 39 #[.int .i64 n] w fun e w' => e = .returned (.string (ofL (numL n))) ∧ Below w.heap.size w w' := by
  rcases (by omega : n = 0 ∨ 0 < n ∨ n < 0) with rfl | h | h
  · have e : ofL (numL 0) = ⟨#[48]⟩ := by unfold numL; rw [if_neg (by decide), show (0 : Int).natAbs = 0 from rfl, dec_zero]; rfl
    rw [e]
    go_enter Tryz.func39, Tryz.ntmps39
    go_wp2
    go_ret
    exact ⟨rfl, Below.refl _ _⟩
  · obtain ⟨A, rfl⟩ : ∃ A : Nat, n = (A : Int) := ⟨n.toNat, by omega⟩
    have e : numL (A : Int) = dec A := by unfold numL; rw [if_neg (by omega)]; congr 1
    rw [e]
    exact specNumText_pos A w (by omega) (by omega)
  · obtain ⟨A, rfl⟩ : ∃ A : Nat, n = (-(A : Int)) := ⟨(-n).toNat, by omega⟩
    have e : numL (-(A : Int)) = 45 :: dec A := by unfold numL; rw [if_pos (by omega)]; congr 2; omega
    rw [e]
    exact specNumText_neg A w (by omega) (by omega)
end Go.Proofs.YtjjpdoabagnmoaaGreatDoor
/-
  A world for the witness: the settled one, the two tables of unicode utf8 holding what their initialisers lay; what a row's list gives the walks. No condition.
-/
namespace Go.Proofs.YtjjpdoabagnmoaaGreatDoor
open Go.RowKit Go.Lib Go.Shelf

/-- a table's cells, as a row lists them -/
def litsOf : DataW Unit → Array Value
  | .agg l => (l.map fun x => match x with | .lit (.int k z) => Value.int k z | _ => Value.bool false).toArray
  | _ => #[]

noncomputable def laidWorld (os : Os) : World :=
  let w0 := World.holding Tryz.prog os ⟨#[], #[], []⟩
  let put (h : Array Obj) (g : Nat) (cs : Array Value) : Array Obj := h.modify g fun
    | .cells _ t frozen => .cells cs t frozen
    | o => o
  let h1 := put w0.heap 3 (Lib.firstTab.map fun z => Value.int .u8 z).toArray
  let h2 := put h1 4 ((List.range 16).flatMap fun i => [Value.int .u8 (Lib.accLo i), Value.int .u8 (Lib.accHi i)]).toArray
  let h2 := put h2 6 (litsOf Rows.laid_math_bits_deBruijn32tab)
  let h2 := put h2 7 (litsOf Rows.laid_math_bits_deBruijn64tab)
  let h2 := put h2 5 (litsOf Rows.laid_internal_strconv_uint64pow10)
  let h2 := put (h2.push (.cells #[.string (⟨#[118, 97, 108, 117, 101, 32, 111, 117, 116, 32, 111, 102, 32, 114, 97, 110, 103, 101]⟩ : ByteArray)] 140)) 2 #[.iface 138 (.pointer (some ⟨h2.size, 0, none⟩))]
  let h2 := put (h2.push (.cells #[.string (⟨#[105, 110, 118, 97, 108, 105, 100, 32, 115, 121, 110, 116, 97, 120]⟩ : ByteArray)] 140)) 1 #[.iface 138 (.pointer (some ⟨h2.size, 0, none⟩))]
  { w0 with heap := h2 }

theorem same_accept : (Rows.laid_unicode_utf8_acceptRanges : DataW Unit) = Lib.acceptData := by kernel_rfl
theorem same_first : Rows.laid_unicode_utf8_first = Lib.firstData := by kernel_rfl
end Go.Proofs.YtjjpdoabagnmoaaGreatDoor
/-
  The table of strconv's Itoa, and Itoa's contract by the numeral. Conditions: an int; the table stands in memory.
-/
namespace Go.Proofs.YtjjpdoabagnmoaaGreatDoor
open Go.RowKit Go.Lib
set_option linter.unusedVariables false
set_option linter.unusedSimpArgs false

/-- the table of the powers of ten stands in memory -/
def PowTab (w : World) : Prop := Lib.TabIs Tryz.prog w "internal/strconv.uint64pow10" .u64 Lib.pow10Tab
theorem PowTab.below {w w' : World} (h : PowTab w) (hb : Below w.heap.size w w') : PowTab w' := Go.Joins.tab_stays (g := 5) (by kernel_rfl) h hb (Nat.le_refl _)
theorem below_of_grow (w : World) (k : Nat) (os : Array Obj) : Below w.heap.size w (Sort.grow (w.drewN k) os) :=
  ⟨rfl, rfl, rfl, by simp [Sort.grow, World.drewN], fun j hj => by simp [Sort.grow, World.drewN, Array.getElem?_append, hj]⟩
theorem itoa_any (n : Int) (w : World) (h0 : -9223372036854775808 ≤ n) (h1 : n ≤ 9223372036854775807) (hT : PowTab w) :
    Calls Tryz.prog 46 #[.int .i64 n] w fun e w' => e = .returned (.string (ofL (numL n))) ∧ Below w.heap.size w w' := by
  refine (Tryz.strconv_Itoa n h0 h1 w hT).mono ?_
  rintro e w' ⟨rfl, k, os, rfl⟩
  rw [itoa_numL]
  exact ⟨rfl, below_of_grow w k os⟩
theorem pow_tab : (Rows.laid_internal_strconv_uint64pow10 : DataW Unit) = Lib.tabData .u64 Lib.pow10Tab := by kernel_rfl
theorem laid_tail {x : String × DataW Unit} {r : List (String × DataW Unit)} {W : World} (h : laidMet Tryz.prog (x :: r) W) : laidMet Tryz.prog r W := by
  obtain ⟨m, d⟩ := x
  obtain ⟨ps, hv, hn, hm⟩ := h
  obtain ⟨g, t, cs, fuel, p, q, h1, h2, h3, h4, hq, rfl⟩ := hv
  exact ⟨q, hq, (List.nodup_append.1 hn).2.1, fun b off hb => hm b off (List.mem_append_right _ hb)⟩
theorem pow_of {a b : String × DataW Unit} {rest : List (String × DataW Unit)} {W : World} (hL : laidMet Tryz.prog (a :: b :: ("internal/strconv.uint64pow10", Rows.laid_internal_strconv_uint64pow10) :: rest) W) : PowTab W := by
  have h := laid_tail (laid_tail hL)
  rw [pow_tab] at h
  exact Lib.tabIs_of_head (g := 5) (t := 134) (e := 110) (n := 20) (by kernel_rfl) (by kernel_rfl) (by kernel_rfl) (by kernel_rfl) (by kernel_rfl) (by kernel_rfl) h
theorem numL_neg (A : Nat) (h : A ≠ 0) : numL (-(A : Int)) = 45 :: dec A := by unfold numL; rw [if_pos (by omega)]; congr 2; omega
theorem numL_pos (A : Nat) : numL (A : Int) = dec A := by unfold numL; rw [if_neg (by omega)]; congr 1
theorem trim_numL (n : Int) : Lib.trimPrefix (numL n) [45] = dec n.natAbs := by
  unfold Lib.trimPrefix numL
  by_cases h : n < 0
  · rw [if_pos h]
    rw [if_pos (by simp [Lib.hasPrefix])]
    rfl
  · rw [if_neg h]
    have hd := dec_all n.natAbs
    have : Lib.hasPrefix (dec n.natAbs) [45] = false := by
      cases e : dec n.natAbs with
      | nil => rfl
      | cons c r =>
        rw [e, List.all_cons, Bool.and_eq_true] at hd
        have h1 := isDig_le hd.1
        have hc : c ≠ 45 := fun h => by rw [h] at h1; exact absurd h1.1 (by decide)
        show ((45 : UInt8) == c && List.isPrefixOf [] r) = false
        rw [beq_eq_false_iff_ne.2 (Ne.symm hc)]; rfl
    rw [this]; rfl
theorem trimMinus_any (n : Int) (w : World) :
    Calls Tryz.prog 45 #[.string (ofL (numL n)), .string ⟨#[45]⟩] w fun e w' => e = .returned (.string (ofL (dec n.natAbs))) ∧ w' = w := by
  refine (Tryz.strings_TrimPrefix (ofL (numL n)) ⟨#[45]⟩ w).mono ?_
  rintro e w' ⟨rfl, rfl⟩
  refine ⟨?_, rfl⟩
  have : Lib.trimPrefix (ofL (numL n)).data.toList (⟨#[45]⟩ : ByteArray).data.toList = dec n.natAbs := trim_numL n
  rw [this]; rfl
end Go.Proofs.YtjjpdoabagnmoaaGreatDoor
/-
  The contracts of NatOk, the reference's and the program's: each answers natOk. No condition.
-/
namespace Go.Proofs.YtjjpdoabagnmoaaGreatDoor
open Go.RowKit
set_option linter.unusedVariables false
set_option linter.unusedSimpArgs false

theorem isNat_any (s : ByteArray) (w : World) (hs : s.size ≤ maxLen) :
    Calls Tryz.prog 70 #[.string s] w fun e w' => e = .returned (.bool (natOk (bs s))) ∧ w = w' := by
  unfold maxLen at hs
  go_enter Tryz.func70, Tryz.ntmps70
  go_wp2
  go_loop [6] (fun i => ∃ k : Nat, k ≤ s.size ∧ i = .int .i64 k ∧ ((bs s).take k).all isDig = true) (fun i => s.size - (intOf i).toNat)
  case atStart => exact ⟨0, Nat.zero_le _, rfl, rfl⟩
  case round =>
    obtain ⟨k, hk, rfl, hall⟩ := hrel
    have HA := Lib.hid hall
    clear hall
    by_cases hlt : k < s.size
    · go_wp2
      all_goals first
        | (go_round
           case rel =>
             refine ⟨k + 1, by omega, by go_num, ?_⟩
             rw [take_snoc s k hlt, List.all_append, HA.out]
             simp [isDig]; omega
           case measure => simp [intOf]; omega)
        | (go_ret
           refine ⟨ret_bool ?_, rfl⟩
           symm
           unfold natOk
           rw [all_no (bs_mem s k hlt) (isDig_no (by omega))]; rfl)
    · obtain rfl : k = s.size := by omega
      go_wp2
      all_goals go_ret
      all_goals refine ⟨ret_bool ?_, rfl⟩
      all_goals have ha := HA.out
      all_goals rw [take_all] at ha
      all_goals first
        | (rw [natOk_big (by rw [bs_length]; omega)]; done)
        | (rw [natOk_empty (by rw [bs_length]; omega)]; done)
        | (obtain ⟨l, hl⟩ := bs_cons s (by omega)
           have hn : (bs s).length ≤ 600 := by rw [bs_length]; omega
           rw [hl] at ha hn
           first
             | (rw [hl, natOk_nz ha hn (by assumption)]; done)
             | (rw [Lib.toList_data, show s.data.toList = bs s from rfl, hl, natOk_z ha hn (by assumption)]; done))

theorem specNatOk_no (s : ByteArray) (w : World) (hs : s.size ≤ maxLen) (h : s.size < 1 ∨ 600 < s.size ∨ (1 < s.size ∧ (bs s).head? = some 48)) :
    Calls Tryz.prog 37 #[.string s] w fun e w' => e = .returned (.bool false) ∧ w = w' := by
  unfold maxLen at hs
  have H := Lib.hid h
  have h1 : s.size < 1 ∨ 600 < s.size ∨ (1 ≤ s.size ∧ s.size ≤ 600) := by omega
  clear h
  rcases h1 with h | h | ⟨h, h'⟩
  · go_enter Tryz.func37, Tryz.ntmps37
    go_wp2
    go_ret
    exact ⟨rfl, rfl⟩
  · go_enter Tryz.func37, Tryz.ntmps37
    go_wp2
    go_ret
    exact ⟨rfl, rfl⟩
  · obtain ⟨h1, h0⟩ : 1 < s.size ∧ ((s[0].toNat : Int) == 48) = true := by
      have e := H.out
      rcases e with e | e | ⟨e, e'⟩
      · omega
      · omega
      · refine ⟨e, ?_⟩
        obtain ⟨l, hl⟩ := bs_cons s (by omega)
        rw [hl] at e'
        simp at e'
        rw [e']; rfl
    clear H
    go_enter Tryz.func37, Tryz.ntmps37
    go_wp2
    go_ret
    exact ⟨rfl, rfl⟩

theorem specNatOk_any (s : ByteArray) (w : World) (hs : s.size ≤ maxLen) :
    Calls Tryz.prog 37 #[.string s] w fun e w' => e = .returned (.bool (natOk (bs s))) ∧ w = w' := by
  by_cases hno : s.size < 1 ∨ 600 < s.size ∨ (1 < s.size ∧ (bs s).head? = some 48)
  · refine (specNatOk_no s w hs hno).mono ?_
    rintro e w' ⟨rfl, rfl⟩
    refine ⟨ret_bool ?_, rfl⟩
    symm
    rcases hno with h | h | ⟨h, h'⟩
    · exact natOk_empty (by rw [bs_length]; omega)
    · exact natOk_big (by rw [bs_length]; omega)
    · unfold natOk
      rw [h', bs_length, decide_eq_false (p := s.size = 1) (by omega)]; simp
  · have h1 : 1 ≤ s.size := by omega
    have h2 : s.size ≤ 600 := by omega
    have hyes : (bs s).all isDig = true → natOk (bs s) = true := by
      intro ha
      unfold natOk
      rw [ha, bs_length, decide_eq_true h1, decide_eq_true h2]
      by_cases e : s.size = 1
      · simp [e]
      · have : ¬ (bs s).head? = some 48 := fun e' => hno (.inr (.inr ⟨by omega, e'⟩))
        simp [this]
    have hz : s.size ≤ 1 ∨ (1 < s.size ∧ ((s[0].toNat : Int) == 48) = false) := by
      by_cases e : s.size ≤ 1
      · exact .inl e
      · refine .inr ⟨by omega, ?_⟩
        obtain ⟨l, hl⟩ := bs_cons s (by omega)
        rw [hl] at hno
        have : ¬ s[0] = 48 := fun e' => hno (.inr (.inr ⟨by omega, by simp [e']⟩))
        rw [beq_eq_false_iff_ne]
        intro e'
        exact this (UInt8.toNat_inj.1 (by have e : (48 : UInt8).toNat = 48 := rfl; omega))
    have HY := Lib.hid hyes
    clear hyes hno
    unfold maxLen at hs
    rcases hz with h | ⟨h, h0⟩
    all_goals
      go_enter Tryz.func37, Tryz.ntmps37
      go_wp2
      go_loop [3] (fun i => ∃ k : Nat, k ≤ s.size ∧ i = .int .i64 k ∧ ((bs s).take k).all isDig = true) (fun i => s.size - (intOf i).toNat)
      case atStart => exact ⟨0, Nat.zero_le _, rfl, rfl⟩
      case round =>
        obtain ⟨k, hk, rfl, hall⟩ := hrel
        have HA := Lib.hid hall
        clear hall
        by_cases hlt : k < s.size
        · have hw : wrap64 (s[k].toNat : Int) = (s[k].toNat : Int) := wrap64_u8 _
          rcases (by omega : (48 ≤ (s[k].toNat : Int) ∧ (s[k].toNat : Int) ≤ 57) ∨ (s[k].toNat : Int) < 48 ∨ 57 < (s[k].toNat : Int)) with ⟨hd, hd'⟩ | hd | hd
          · go_wp2
            go_round
            case rel =>
              refine ⟨k + 1, by omega, by go_num, ?_⟩
              rw [take_snoc s k hlt, List.all_append, HA.out]
              simp [isDig]; omega
            case measure => simp [intOf]; omega
          · go_wp2
            go_ret
            refine ⟨ret_bool ?_, rfl⟩
            symm
            unfold natOk
            rw [all_no (bs_mem s k hlt) (isDig_no (by omega))]; rfl
          · have hd2 : decide ((s[k].toNat : Int) ≤ 57) = false := decide_eq_false (by omega)
            go_wp2
            go_ret
            refine ⟨ret_bool ?_, rfl⟩
            symm
            unfold natOk
            rw [all_no (bs_mem s k hlt) (isDig_no (by omega))]; rfl
        · obtain rfl : k = s.size := by omega
          go_wp2
          go_ret
          refine ⟨ret_bool ?_, rfl⟩
          have ha := HA.out
          rw [take_all] at ha
          exact (HY.out ha).symm


end Go.Proofs.YtjjpdoabagnmoaaGreatDoor
/-
  The contracts of DecOk, the reference's and the program's: each answers decOk. No condition.
-/
namespace Go.Proofs.YtjjpdoabagnmoaaGreatDoor
open Go.RowKit
set_option linter.unusedVariables false
set_option linter.unusedSimpArgs false

/-- a number in form -/
def decOk (n : Bool) (l : List UInt8) (x : Int) : Bool :=
  if l = [] then !n && decide (x = 0)
  else decide (l.length ≤ 20) && natOk l && (l.head? != some 48) && (l.getLast? != some 48) && decide (-99 - (l.length : Int) + 1 ≤ x) && decide (x ≤ 99 - (l.length : Int) + 1)

theorem decOk_nil (n : Bool) (x : Int) : decOk n [] x = (!n && decide (x = 0)) := by simp [decOk]
theorem decOk_long {n : Bool} {s : ByteArray} {x : Int} (h : 20 < s.size) : decOk n (bs s) x = false := by
  unfold decOk; rw [if_neg (ne_nil (by omega)), bs_length, decide_eq_false (p := s.size ≤ 20) (by omega)]; simp
theorem decOk_head {n : Bool} {s : ByteArray} {x : Int} (h0 : 0 < s.size) (h : (s[0].toNat : Int) = 48) : decOk n (bs s) x = false := by
  unfold decOk; rw [if_neg (ne_nil h0), bs_head s h0, u8_48 h]; simp
theorem decOk_last {n : Bool} {s : ByteArray} {x : Int} (h0 : 0 < s.size) (h : ((s[s.size - 1]'(by omega)).toNat : Int) = 48) : decOk n (bs s) x = false := by
  unfold decOk; rw [if_neg (ne_nil h0), bs_last s h0, u8_48 h]; simp
theorem decOk_nat {n : Bool} {s : ByteArray} {x : Int} (h0 : 0 < s.size) (h : natOk (bs s) = false) : decOk n (bs s) x = false := by
  unfold decOk; rw [if_neg (ne_nil h0), h]; simp
theorem decOk_lo {n : Bool} {s : ByteArray} {x : Int} (h0 : 0 < s.size) (h : ¬ (-99 - (s.size : Int) + 1 ≤ x)) : decOk n (bs s) x = false := by
  unfold decOk; rw [if_neg (ne_nil h0), bs_length, decide_eq_false (p := -99 - (s.size : Int) + 1 ≤ x) h]; simp
theorem decOk_fin {n : Bool} {s : ByteArray} {x : Int} (h0 : 0 < s.size) (h1 : s.size ≤ 20) (h2 : ¬ (s[0].toNat : Int) = 48) (h3 : ¬ ((s[s.size - 1]'(by omega)).toNat : Int) = 48)
    (h4 : natOk (bs s) = true) (h5 : -99 - (s.size : Int) + 1 ≤ x) : decOk n (bs s) x = decide (x ≤ 99 - (s.size : Int) + 1) := by
  have e2 := u8_n48 h2
  have e3 := u8_n48 h3
  unfold decOk; rw [if_neg (ne_nil h0), bs_length, bs_head s h0, bs_last s h0, h4, decide_eq_true h1, decide_eq_true h5]; simp [e2, e3]

theorem wf_i64 {x : Int} (h : (Lit.int .i64 x).wf = true) : -9223372036854775808 ≤ x ∧ x ≤ 9223372036854775807 := by
  simpa [Lit.wf, IntKind.min, IntKind.max, IntKind.signed, IntKind.bits] using h

theorem specDecOk_any (n : Bool) (s : ByteArray) (x : Int) (w : World) (hs : s.size ≤ maxLen) (hx : (Lit.int .i64 x).wf = true) :
    Calls Tryz.prog 15 #[.agg #[.bool n, .string s, .int .i64 x]] w fun e w' => e = .returned (.bool (decOk n (bs s) x)) ∧ Below w.heap.size w w' := by
  have hs' := hs
  unfold maxLen at hs'
  by_cases h0 : 0 < s.size
  · cases hn : natOk (bs s)
    all_goals
      have hemp := isEmpty_no h0
      go_enter Tryz.func15, Tryz.ntmps15
      go_wp2_with (go_at_call 37; refine (specNatOk_any _ _ hs).mono ?_; rintro e w' ⟨rfl, rfl⟩)
    all_goals go_ret
    all_goals refine ⟨ret_bool ?_, (Below.refl _ _).alloc (Nat.le_refl _) _⟩
    all_goals symm
    all_goals go_light
    all_goals first
      | exact decOk_long (by omega)
      | exact decOk_head h0 (by assumption)
      | exact decOk_last h0 (by assumption)
      | exact decOk_nat h0 hn
      | exact decOk_lo h0 (by omega)
      | (rw [decOk_fin h0 (by omega) (by assumption) (by assumption) hn (by omega)]; done)
      | (exfalso; rename_i hh; simp only [beq_iff_eq] at hh; omega)
  · have hz : s.size = 0 := by omega
    have hemp := isEmpty_yes hz
    go_enter Tryz.func15, Tryz.ntmps15
    go_wp2
    all_goals go_ret
    all_goals refine ⟨ret_bool ?_, (Below.refl _ _).alloc (Nat.le_refl _) _⟩
    all_goals rw [bs_empty hz, decOk_nil]
    all_goals go_light
    all_goals (first | (simp [*]; done) | (simp [*]; rfl))

theorem isDec_any (n : Bool) (s : ByteArray) (x : Int) (w : World) (hs : s.size ≤ maxLen) (hx : (Lit.int .i64 x).wf = true) :
    Calls Tryz.prog 41 #[.agg #[.bool n, .string s, .int .i64 x]] w fun e w' => e = .returned (.bool (decOk n (bs s) x)) ∧ Below w.heap.size w w' := by
  have hs' := hs
  unfold maxLen at hs'
  by_cases h0 : 0 < s.size
  · cases hn : natOk (bs s)
    all_goals
      have hemp := isEmpty_no h0
      go_enter Tryz.func41, Tryz.ntmps41
      go_wp2_with (first | (go_at_call 70; refine (isNat_any _ _ hs).mono ?_; rintro e w' ⟨rfl, rfl⟩) | go_in)
    all_goals go_ret
    all_goals refine ⟨ret_bool ?_, (Below.refl _ _).alloc (Nat.le_refl _) _⟩
    all_goals symm
    all_goals go_light
    all_goals first
      | exact decOk_long (by omega)
      | exact decOk_head h0 (by assumption)
      | exact decOk_last h0 (by assumption)
      | exact decOk_nat h0 hn
      | exact decOk_lo h0 (by omega)
      | (rw [decOk_fin h0 (by omega) (by assumption) (by assumption) hn (by omega)]; done)
      | (rw [decOk_fin h0 (by omega) (by assumption) (by assumption) hn (by omega)]; simp [*]; done)
  · have hz : s.size = 0 := by omega
    have hemp := isEmpty_yes hz
    go_enter Tryz.func41, Tryz.ntmps41
    go_wp2
    all_goals go_ret
    all_goals refine ⟨ret_bool ?_, (Below.refl _ _).alloc (Nat.le_refl _) _⟩
    all_goals rw [bs_empty hz, decOk_nil]
    all_goals go_light
    all_goals (first | (simp [*]; done) | (simp [*]; rfl))

theorem implDecOk_any (n : Bool) (s : ByteArray) (x : Int) (w : World) (hs : s.size ≤ maxLen) (hx : (Lit.int .i64 x).wf = true) :
    Calls Tryz.prog 19 #[.agg #[.bool n, .string s, .int .i64 x]] w fun e w' => e = .returned (.bool (decOk n (bs s) x)) ∧ Below w.heap.size w w' := by
  go_enter Tryz.func19, Tryz.ntmps19
  go_wp2_with (go_at_call 41; refine (isDec_any _ _ _ _ hs hx).mono ?_; rintro e w' ⟨rfl, hb⟩)
  go_ret
  exact ⟨rfl, ((Below.refl _ _).alloc (Nat.le_refl _) _).trans (hb.mono (by simp))⟩
end Go.Proofs.YtjjpdoabagnmoaaGreatDoor
/-
  The contracts of the laws' own helpers on numbers (toDec, szDec, eqDec). No condition.
-/
namespace Go.Proofs.YtjjpdoabagnmoaaGreatDoor
open Go.RowKit
set_option linter.unusedVariables false
set_option linter.unusedSimpArgs false


/-- two numbers are the same -/
def decSame (n : Bool) (l : List UInt8) (x : Int) (n' : Bool) (l' : List UInt8) (x' : Int) : Bool := (n == n') && (l == l') && decide (x = x')

theorem eqDec_same (n : Bool) (s : ByteArray) (x : Int) (w : World) :
    Calls Tryz.prog 10 #[.agg #[.bool n, .string s, .int .i64 x], .agg #[.bool n, .string s, .int .i64 x]] w fun e w' => e = .returned (.bool true) ∧ Below w.heap.size w w' := by
  have h1 : (n != n) = false := by simp
  have h2 : (s.toList != s.toList) = false := by simp
  have h3 : (x != x) = false := by simp
  go_enter Tryz.func10, Tryz.ntmps10
  go_wp2
  go_ret
  go_light
  refine ⟨rfl, ?_⟩
  (repeat (first | exact Below.refl _ _ | assumption | refine Below.drew ?_ | refine Go.below_drewN ?_ _ | (refine Below.alloc ?_ (by first | exact Nat.le_refl _ | (simp; done) | (simp; omega) | (simp at *; omega)) _) | (refine Below.setCell ?_ (by first | exact Nat.le_refl _ | (simp; done) | (simp; omega)) _) | (refine Below.trans ?_ (Below.mono (by assumption) (by first | exact Nat.le_refl _ | (simp; done) | (simp; omega) | (simp at *; omega))))))
end Go.Proofs.YtjjpdoabagnmoaaGreatDoor
/-
  The contracts of DecNeg, the reference's and the program's. No condition.
-/
namespace Go.Proofs.YtjjpdoabagnmoaaGreatDoor
open Go.RowKit
set_option linter.unusedVariables false
set_option linter.unusedSimpArgs false

theorem empty_of {s : ByteArray} (h : s.size = 0) : s = ⟨#[]⟩ := by
  cases s with
  | mk d =>
    have : d.size = 0 := h
    simp at this
    rw [this]

theorem decOk_zero {n : Bool} {s : ByteArray} {x : Int} (h : decOk n (bs s) x = true) (h0 : s.size = 0) : n = false ∧ s = ⟨#[]⟩ ∧ x = 0 := by
  rw [bs_empty h0, decOk_nil] at h
  simp at h
  exact ⟨h.1, empty_of h0, h.2⟩



end Go.Proofs.YtjjpdoabagnmoaaGreatDoor
/-
  A natural times a power of ten, put into form: what both sides' numbers mean. No program. No condition.
-/
namespace Go.Proofs.YtjjpdoabagnmoaaGreatDoor
open Go.RowKit
set_option linter.unusedVariables false
set_option linter.unusedSimpArgs false

/-- digits with no noughts behind -/
def stripZ (l : List UInt8) : List UInt8 := (l.reverse.dropWhile (· == 48)).reverse
theorem strip_snoc (l : List UInt8) : stripZ (l ++ [48]) = stripZ l := by
  unfold stripZ
  rw [List.reverse_append]
  rfl
theorem strip_stop (l : List UInt8) (h : l.getLast? ≠ some 48) : stripZ l = l := by
  unfold stripZ
  cases e : l.reverse with
  | nil => rw [List.reverse_eq_nil_iff.1 e]; rfl
  | cons c r =>
    have hc : ¬ c = 48 := by
      intro hc
      have : l = r.reverse ++ [c] := (List.reverse_reverse l).symm.trans (by rw [e, List.reverse_cons])
      rw [this, hc] at h
      simp at h
    rw [List.dropWhile_cons_of_neg (by simpa using hc), ← e, List.reverse_reverse]
theorem strip_app (t : List UInt8) (h : t.getLast? ≠ some 48) : ∀ k, stripZ (t ++ zs k) = t
  | 0 => by rw [show zs 0 = [] from rfl, List.append_nil]; exact strip_stop t h
  | k + 1 => by rw [zs_succ, ← List.append_assoc, strip_snoc]; exact strip_app t h k
theorem strip_split : ∀ l : List UInt8, ∃ k, l = stripZ l ++ zs k ∧ (stripZ l).getLast? ≠ some 48 := by
  refine rev_ind ⟨0, rfl, by simp [stripZ]⟩ fun l c ih => ?_
  by_cases h : c = 48
  · obtain ⟨k, h1, h2⟩ := ih
    rw [h, strip_snoc]
    refine ⟨k + 1, ?_, h2⟩
    rw [zs_succ, ← List.append_assoc, ← h1]
  · have hs : stripZ (l ++ [c]) = l ++ [c] := strip_stop _ (by simpa using h)
    rw [hs]
    exact ⟨0, by rw [show zs 0 = [] from rfl, List.append_nil], by simpa using h⟩
theorem strip_zs (l : List UInt8) : ∀ k, stripZ (l ++ zs k) = stripZ l
  | 0 => by rw [show zs 0 = [] from rfl, List.append_nil]
  | k + 1 => by rw [zs_succ, ← List.append_assoc, strip_snoc]; exact strip_zs l k
theorem strip_len (l : List UInt8) : (stripZ l).length ≤ l.length := by
  obtain ⟨k, h, -⟩ := strip_split l
  have := congrArg List.length h
  rw [List.length_append] at this
  omega

/-- the digits that are left -/
def fM (v : Nat) : Nat := (dec v).length - 20
def fR (v : Nat) : Nat := roundV v (fM v)
def fT (v : Nat) : List UInt8 := stripZ (dec (fR v))
/-- how many noughts are cut off behind -/
def fK (v : Nat) : Nat := (dec (fR v)).length - (fT v).length
def fE (v : Nat) (x : Int) : Int := x + (fM v : Int) + (fK v : Int)
def fH (v : Nat) (x : Int) : Int := fE v x + ((fT v).length : Int) - 1
def numV (n : Bool) (l : List UInt8) (x : Int) (c : Int) : Value := .tuple #[.agg #[.bool n, .string (ofL l), .int .i64 x], .int .i64 c]
/-- v times ten to the x, in form, and the code -/
def formV (n : Bool) (v : Nat) (x : Int) : Value :=
  if v = 0 then numV false [] 0 0 else if 99 < fH v x then numV false [] 0 1 else if fH v x < -99 then numV false [] 0 0 else numV n (fT v) (fE v x) 0

theorem fT_split (v : Nat) : dec (fR v) = fT v ++ zs (fK v) ∧ (fT v).getLast? ≠ some 48 := by
  obtain ⟨k, h1, h2⟩ := strip_split (dec (fR v))
  have : fK v = k := by
    have := congrArg List.length h1
    rw [List.length_append, zs_len] at this
    unfold fK fT; omega
  rw [this]
  exact ⟨h1, h2⟩
theorem fT_of {v k : Nat} {t : List UInt8} (h : dec (fR v) = t ++ zs k) (h2 : t.getLast? ≠ some 48) : fT v = t ∧ fK v = k := by
  have e : fT v = t := by unfold fT; rw [h, strip_app t h2]
  refine ⟨e, ?_⟩
  unfold fK
  rw [e, h, List.length_append, zs_len]; omega
theorem fT_len (v : Nat) : (fT v).length + fK v = (dec (fR v)).length := by
  have := congrArg List.length (fT_split v).1
  rw [List.length_append, zs_len] at this
  omega
theorem fM_small {v : Nat} (h : (dec v).length ≤ 20) : fM v = 0 ∧ fR v = v := by
  have : fM v = 0 := by unfold fM; omega
  refine ⟨this, ?_⟩
  unfold fR
  rw [this, roundV_zero]
theorem dec_lt (v : Nat) : v < 10 ^ (dec v).length := by
  have := val_lt (dec v) (dec_all v)
  rwa [val_dec] at this
theorem roundV_le (v n : Nat) : roundV v n ≤ v / 10 ^ n + 1 := by
  unfold roundV; split <;> omega
theorem roundV_ge (v n : Nat) : v / 10 ^ n ≤ roundV v n := by
  unfold roundV; split <;> omega
theorem fR_le (v : Nat) : fR v ≤ 10 ^ 20 := by
  by_cases h : (dec v).length ≤ 20
  · rw [(fM_small h).2]
    exact Nat.le_of_lt (Nat.lt_of_lt_of_le (dec_lt v) (Nat.pow_le_pow_right (by omega) h))
  · have h1 := roundV_le v (fM v)
    have h2 : v / 10 ^ fM v < 10 ^ 20 := by
      rw [Nat.div_lt_iff_lt_mul (Nat.pow_pos (by omega)), ← Nat.pow_add]
      have e : 20 + fM v = (dec v).length := by unfold fM; omega
      rw [e]; exact dec_lt v
    unfold fR; omega
theorem fR_pos {v : Nat} (h : v ≠ 0) : 0 < fR v := by
  by_cases h1 : (dec v).length ≤ 20
  · rw [(fM_small h1).2]; omega
  · have h2 := roundV_ge v (fM v)
    have h3 : 0 < v / 10 ^ fM v := by
      rw [Nat.div_pos_iff]
      refine ⟨Nat.pow_pos (by omega), ?_⟩
      have h4 := dec_len_ge v h
      refine Nat.le_trans (Nat.pow_le_pow_right (by omega) ?_) h4
      unfold fM; omega
    unfold fR; omega
theorem dec_low {v : Nat} (h : v ≠ 0) : (dec v).head? ≠ some 48 := dec_head v h
theorem dec_len_eq {v k : Nat} (h1 : 10 ^ k ≤ v) (h2 : v < 10 ^ (k + 1)) : (dec v).length = k + 1 := by
  have a := dec_len_le (k + 1) v (by omega) h2
  have hv : v ≠ 0 := by have : 0 < 10 ^ k := Nat.pow_pos (by omega); omega
  have b := dec_lt v
  have c : ¬ (dec v).length ≤ k := fun hc => by
    have := Nat.pow_le_pow_right (n := 10) (by omega) hc
    omega
  omega
theorem dec_ten {v : Nat} (h : v ≠ 0) : dec (10 * v) = dec v ++ [48] := by
  rw [dec_big (by omega), Nat.mul_div_cancel_left v (by omega), Nat.mul_mod_right]
  rfl
theorem dec_tens {v : Nat} (h : v ≠ 0) (n : Nat) : dec (v * 10 ^ n) = dec v ++ zs n := by
  have := dec_shift (dec_canon v) (by rw [val_dec]; omega) n
  rw [val_dec] at this
  exact this.symm
theorem roundV_ten (v n : Nat) : roundV (10 * v) (n + 1) = roundV v n := by
  have hp : 0 < 10 ^ n := Nat.pow_pos (by omega)
  have h1 : 10 * v / 10 ^ (n + 1) = v / 10 ^ n := by rw [Nat.pow_succ, Nat.mul_comm (10 ^ n) 10, Nat.mul_div_mul_left _ _ (by omega)]
  have h2 : 10 * v % 10 ^ (n + 1) = 10 * (v % 10 ^ n) := by rw [Nat.pow_succ, Nat.mul_comm (10 ^ n) 10, Nat.mul_mod_mul_left]
  unfold roundV
  rw [h1, h2, Nat.pow_succ]
  have e : (10 ^ n * 10 < 2 * (10 * (v % 10 ^ n)) ∨ (2 * (10 * (v % 10 ^ n)) = 10 ^ n * 10 ∧ v / 10 ^ n % 2 = 1)) ↔ (10 ^ n < 2 * (v % 10 ^ n) ∨ (2 * (v % 10 ^ n) = 10 ^ n ∧ v / 10 ^ n % 2 = 1)) := by
    constructor
    · rintro (h | ⟨h, h'⟩)
      · exact .inl (by omega)
      · exact .inr ⟨by omega, h'⟩
    · rintro (h | ⟨h, h'⟩)
      · exact .inl (by omega)
      · exact .inr ⟨by omega, h'⟩
  by_cases h : 10 ^ n < 2 * (v % 10 ^ n) ∨ (2 * (v % 10 ^ n) = 10 ^ n ∧ v / 10 ^ n % 2 = 1)
  · rw [if_pos h, if_pos (e.2 h)]
  · rw [if_neg h, if_neg (fun x => h (e.1 x))]
/-- ten times as much by a tenth of the power is the same -/
theorem form_ten (v : Nat) (x : Int) (h : v ≠ 0) : fT (10 * v) = fT v ∧ fE (10 * v) (x - 1) = fE v x := by
  have hl : (dec (10 * v)).length = (dec v).length + 1 := by rw [dec_ten h, List.length_append]; rfl
  by_cases h1 : (dec v).length ≤ 19
  · obtain ⟨a, b⟩ := fM_small (v := v) (by omega)
    obtain ⟨c, d⟩ := fM_small (v := 10 * v) (by omega)
    obtain ⟨s1, s2⟩ := fT_split v
    have hd : dec (fR (10 * v)) = fT v ++ zs (fK v + 1) := by rw [d, dec_ten h, ← b, s1, b, zs_succ, List.append_assoc]
    obtain ⟨e1, e2⟩ := fT_of hd s2
    refine ⟨e1, ?_⟩
    unfold fE
    rw [e2, a, c]; omega
  · have hm : fM (10 * v) = fM v + 1 := by unfold fM; omega
    have hr : fR (10 * v) = fR v := by unfold fR; rw [hm, roundV_ten]
    have ht : fT (10 * v) = fT v := by unfold fT; rw [hr]
    refine ⟨ht, ?_⟩
    unfold fE fK
    rw [hm, hr, ht]; omega
theorem formV_ten (n : Bool) (v : Nat) (x : Int) : formV n (10 * v) (x - 1) = formV n v x := by
  by_cases h : v = 0
  · rw [h]; rfl
  · obtain ⟨h1, h2⟩ := form_ten v x h
    have h3 : fH (10 * v) (x - 1) = fH v x := by unfold fH; rw [h1, h2]
    unfold formV
    rw [if_neg h, if_neg (by omega), h1, h2, h3]
theorem formV_tens (n : Bool) (v : Nat) (x : Int) : ∀ k : Nat, formV n (v * 10 ^ k) (x - k) = formV n v x
  | 0 => by rw [Nat.pow_zero, Nat.mul_one]; simp
  | k + 1 => by
    have e : v * 10 ^ (k + 1) = 10 * (v * 10 ^ k) := by rw [Nat.pow_succ, ← Nat.mul_assoc, Nat.mul_comm]
    rw [e, show x - ((k + 1 : Nat) : Int) = x - k - 1 by omega, formV_ten, formV_tens n v x k]

/-- what is in form stays -/
theorem form_same {n : Bool} {l : List UInt8} {x : Int} (h : decOk n l x = true) (h0 : l ≠ []) : Canon l ∧ val l ≠ 0 ∧ l.length ≤ 20 ∧ formV n (val l) x = numV n l x 0 := by
  unfold decOk at h
  rw [if_neg h0] at h
  simp only [Bool.and_eq_true, decide_eq_true_eq, bne_iff_ne] at h
  obtain ⟨⟨⟨⟨⟨h1, h2⟩, h3⟩, h4⟩, h5⟩, h6⟩ := h
  obtain ⟨c, -⟩ := natOk_canon h2
  have hv : val l ≠ 0 := by
    cases l with
    | nil => exact absurd rfl h0
    | cons a r =>
      have ha : isDig a = true := by have := c.dig; rw [List.all_cons, Bool.and_eq_true] at this; exact this.1
      have := val_pos (l := r) ha (by simpa using h3)
      omega
  refine ⟨c, hv, h1, ?_⟩
  have hd := canon_dec c
  obtain ⟨m1, m2⟩ := fM_small (v := val l) (by rw [hd]; exact h1)
  obtain ⟨t1, t2⟩ := fT_of (v := val l) (k := 0) (t := l) (by rw [m2, hd, show zs 0 = [] from rfl, List.append_nil]) h4
  have hE : fE (val l) x = x := by unfold fE; rw [m1, t2]; omega
  have hl : 0 < l.length := List.length_pos_iff.2 h0
  have hH : fH (val l) x = x + l.length - 1 := by unfold fH; rw [hE, t1]
  unfold formV
  rw [if_neg hv, hH, if_neg (by omega), if_neg (by omega), t1, hE]
/-- what comes out is in form -/
theorem fT_len_le (v : Nat) : (fT v).length ≤ 20 := by
  have h := fR_le v
  by_cases h2 : fR v = 10 ^ 20
  · have e : dec (fR v) = [49] ++ zs 20 := by
      rw [h2, show (10 : Nat) ^ 20 = 1 * 10 ^ 20 by omega, dec_tens (by omega), dec_small (by omega)]; rfl
    rw [(fT_of e (by decide)).1]; decide
  · have h3 := dec_len_le 20 (fR v) (by omega) (by omega)
    have := strip_len (dec (fR v))
    unfold fT; omega
theorem fT_ne {v : Nat} (h : v ≠ 0) : fT v ≠ [] := fun e => by
  have h1 := (fT_split v).1
  rw [e, List.nil_append] at h1
  have h2 := fR_pos h
  have h3 := dec_head (fR v) (by omega)
  rw [h1] at h3
  have h4 := dec_len (fR v)
  rw [h1, zs_len] at h4
  obtain ⟨k, hk⟩ : ∃ k, fK v = k + 1 := ⟨fK v - 1, by omega⟩
  rw [hk] at h3
  exact h3 rfl
theorem fT_head {v : Nat} (h : v ≠ 0) : (fT v).head? ≠ some 48 := by
  have h1 := (fT_split v).1
  have h3 := dec_head (fR v) (by have := fR_pos h; omega)
  rw [h1, head_app _ _ (fT_ne h)] at h3
  exact h3
theorem fT_all (v : Nat) : (fT v).all isDig = true := by
  have h1 := (fT_split v).1
  have h2 := dec_all (fR v)
  rw [h1, List.all_append, Bool.and_eq_true] at h2
  exact h2.1
theorem fT_nat {v : Nat} (h : v ≠ 0) : natOk (fT v) = true := by
  have hl := fT_len_le v
  refine canon_natOk ?_ (by omega)
  have ha := fT_all v
  have hh := fT_head h
  have hn := fT_ne h
  have : dec (val (fT v)) = fT v := by
    cases e : fT v with
    | nil => exact absurd e hn
    | cons c r =>
      rw [e] at ha hh
      rw [List.all_cons, Bool.and_eq_true] at ha
      exact dec_val_head c ha.1 (by simpa using hh) r ha.2
  rw [← this]
  exact dec_canon _
theorem formV_ok (n : Bool) (v : Nat) (x : Int) : ∃ (n' : Bool) (l : List UInt8) (y : Int) (c : Int), formV n v x = numV n' l y c ∧ decOk n' l y = true ∧ l.length ≤ 20 ∧ (c = 0 ∨ c = 1) := by
  unfold formV
  by_cases h : v = 0
  · exact ⟨false, [], 0, 0, by rw [if_pos h], by decide, by decide, .inl rfl⟩
  · rw [if_neg h]
    by_cases h1 : 99 < fH v x
    · exact ⟨false, [], 0, 1, by rw [if_pos h1], by decide, by decide, .inr rfl⟩
    · rw [if_neg h1]
      by_cases h2 : fH v x < -99
      · exact ⟨false, [], 0, 0, by rw [if_pos h2], by decide, by decide, .inl rfl⟩
      · rw [if_neg h2]
        have hl := fT_len_le v
        refine ⟨n, fT v, fE v x, 0, rfl, ?_, hl, .inl rfl⟩
        unfold fH at h1 h2
        unfold decOk
        rw [if_neg (fT_ne h)]
        simp only [Bool.and_eq_true, decide_eq_true_eq, bne_iff_ne]
        exact ⟨⟨⟨⟨⟨hl, fT_nat h⟩, fT_head h⟩, (fT_split v).2⟩, by omega⟩, by omega⟩
/-- a rest that is not nothing is only a rest -/
theorem roundV_sticky (q r j : Nat) (hr : 0 < r) (hr2 : r < 10000) (hj : 1 ≤ j) : roundV (10000 * q + r) (4 + j) = roundV (10000 * q + 1) (4 + j) := by
  obtain ⟨i, rfl⟩ : ∃ i, j = i + 1 := ⟨j - 1, by omega⟩
  have hp : 0 < 10 ^ i := Nat.pow_pos (by omega)
  have e : (10 : Nat) ^ (4 + (i + 1)) = 10000 * (10 ^ i * 10) := by rw [Nat.pow_add, Nat.pow_succ]; omega
  have hd : ∀ s, 0 < s → s < 10000 → (10000 * q + s) / 10 ^ (4 + (i + 1)) = q / (10 ^ i * 10) := fun s h1 h2 => by
    rw [e, ← Nat.div_div_eq_div_mul, Nat.mul_add_div (by omega), Nat.div_eq_of_lt h2, Nat.add_zero]
  have hm : ∀ s, 0 < s → s < 10000 → (10000 * q + s) % 10 ^ (4 + (i + 1)) = 10000 * (q % (10 ^ i * 10)) + s := fun s h1 h2 => by
    have a := Nat.div_add_mod (10000 * q + s) (10 ^ (4 + (i + 1)))
    have b := Nat.div_add_mod q (10 ^ i * 10)
    rw [hd s h1 h2] at a
    rw [e] at a ⊢
    have f : 10000 * (10 ^ i * 10) * (q / (10 ^ i * 10)) = 10000 * (10 ^ i * 10 * (q / (10 ^ i * 10))) := Nat.mul_assoc _ _ _
    rw [f] at a
    omega
  unfold roundV
  rw [hd r hr hr2, hd 1 (by omega) (by omega), hm r hr hr2, hm 1 (by omega) (by omega), e]
  generalize q % (10 ^ i * 10) = Q
  generalize q / (10 ^ i * 10) = D
  generalize 10 ^ i = P at *
  by_cases h : 5 * P ≤ Q
  · rw [if_pos (.inl (by omega)), if_pos (.inl (by omega))]
  · rw [if_neg (by omega), if_neg (by omega)]
theorem formV_sticky (n : Bool) (q r : Nat) (x : Int) (hr : 0 < r) (hr2 : r < 10000) (hq : 10 ^ 21 ≤ q) : formV n (10000 * q + r) x = formV n (10000 * q + 1) x := by
  have hl : ∀ s, 0 < s → s < 10000 → (dec (10000 * q + s)).length = (dec q).length + 4 := fun s h1 h2 => by
    have h0 : q ≠ 0 := by omega
    have a := dec_len_ge q h0
    have b := dec_lt q
    have c := dec_len q
    obtain ⟨k, hk⟩ : ∃ k, (dec q).length = k + 1 := ⟨(dec q).length - 1, by omega⟩
    rw [hk] at a b ⊢
    rw [show k + 1 - 1 = k by omega] at a
    have e1 : (10 : Nat) ^ (k + 4) = 10000 * 10 ^ k := by rw [Nat.pow_add]; omega
    have e2 : (10 : Nat) ^ (k + 4 + 1) = 10000 * 10 ^ (k + 1) := by rw [show k + 4 + 1 = k + 1 + 4 by omega, Nat.pow_add]; omega
    rw [show k + 1 + 4 = k + 4 + 1 by omega]
    exact dec_len_eq (by rw [e1]; omega) (by rw [e2]; omega)
  have h22 : 22 ≤ (dec q).length := by
    have b := dec_lt q
    rcases Nat.lt_or_ge (dec q).length 22 with h | h
    · have := Nat.pow_le_pow_right (n := 10) (by omega) (show (dec q).length ≤ 21 by omega)
      omega
    · exact h
  have hm : ∀ s, 0 < s → s < 10000 → fM (10000 * q + s) = 4 + ((dec q).length - 20) := fun s h1 h2 => by
    unfold fM; rw [hl s h1 h2]; omega
  have hR : fR (10000 * q + r) = fR (10000 * q + 1) := by
    unfold fR
    rw [hm r hr hr2, hm 1 (by omega) (by omega)]
    exact roundV_sticky q r _ hr hr2 (by omega)
  have hT : fT (10000 * q + r) = fT (10000 * q + 1) := by unfold fT; rw [hR]
  have hE : fE (10000 * q + r) x = fE (10000 * q + 1) x := by
    unfold fE fK
    rw [hm r hr hr2, hm 1 (by omega) (by omega), hR, hT]
  have hH : fH (10000 * q + r) x = fH (10000 * q + 1) x := by unfold fH; rw [hT, hE]
  unfold formV
  rw [if_neg (show ¬ 10000 * q + r = 0 by omega), if_neg (show ¬ 10000 * q + 1 = 0 by omega), hH, hT, hE]
end Go.Proofs.YtjjpdoabagnmoaaGreatDoor
