/-
  The contracts of the laws' helpers markIntS and heldIntS on a row of integers that a call owns. Condition: bounds.
-/
import Derived.Test.YtbdamjhgggnihaaDoorIntsLaw
import Derived.Test.YtbdamjhgggnihaaDoorOwns
import Derived.Test.YtbdamjhgggnihaaDoorFill
import Derived.Laws.OwnMore
namespace Go.Proofs.YtbdamjhgggnihaaDoor
open Go.RowKit
set_option linter.unusedVariables false
set_option linter.unusedSimpArgs false

/-- n cells that count from k on -/
def markL (n : Nat) (k : Nat) : List Value := (List.range n).map (fun i => .int .i64 (((k + i : Nat)) : Int))
theorem markL_length (n k : Nat) : (markL n k).length = n := by simp [markL]
theorem markL_get {n k i : Nat} (h : i < n) : (markL n k)[i]? = some (.int .i64 ((k + i : Nat) : Int)) := by simp [markL, h]

set_option maxHeartbeats 1000000 in
theorem markIntS_any (B : Nat) (a : Option Addr) (cap n k : Nat) (xs : List Value) (w : World) (h : w.ownsRow B 3 1 (.slice a n cap) n xs) (hB : B ≤ w.heap.size) (hn : n ≤ 1099511627776) (hk : k ≤ 1099511627776) :
    Calls Tryd.prog 15 #[.slice a n cap, .int .i64 (k : Int)] w fun e w' => e = .returned (.int .i64 ((k + n : Nat) : Int)) ∧ w'.ownsRow B 3 1 (.slice a n cap) n (markL n k) ∧ Below B w w' := by
  have HO := Lib.hid h
  clear h
  go_enter Tryd.func15, Tryd.ntmps15
  go_wp2
  go_loopw [1, 5] (fun kk i wr => ∃ (j : Nat) (ys : List Value), j ≤ n ∧ kk = .int .i64 ((k + j : Nat) : Int) ∧ i = .int .i64 (j : Int) ∧ wr.ownsRow B 3 1 (.slice a n cap) n ys ∧ Below B w wr ∧ ys.take j = (markL n k).take j) (fun _ i _ => n - (intOf i).toNat)
  case atStart => exact ⟨0, xs, Nat.zero_le _, by simp, rfl, HO.out, Below.refl _ _, by simp⟩
  case round =>
    obtain ⟨j, ys, hj, rfl, rfl, hown, hb, ht⟩ := hrel
    have HOW := Lib.hid hown
    have HB := Lib.hid hb
    have HT := Lib.hid ht
    clear hown hb ht
    by_cases hlt : j < n
    · obtain ⟨g, cap', hv, hg, hg2⟩ := ownsRow_some HOW.out (by omega)
      simp only [Value.slice.injEq, true_and] at hv
      obtain ⟨rfl, rfl⟩ := hv
      have hc := HOW.out.cellAt j (by omega)
      have hf := HOW.out.frozenAt j
      have hyl : ys.length = n := by simpa using HOW.out.1
      rw [List.getElem?_eq_getElem (by omega)] at hc
      go_wp2
      go_light
      refine ⟨⟨j + 1, ys.set j (.int .i64 ((k + j : Nat) : Int)), by omega, by go_num, by go_num, (HOW.out.stored j _).1, HB.out.setCell hg _, ?_⟩, by simp [intOf]; omega⟩
      rw [List.take_add_one, List.take_add_one, List.take_set_of_le (Nat.le_refl _), HT.out, markL_get hlt, List.getElem?_set_self (by omega)]
    · obtain rfl : j = n := by omega
      go_wp2
      go_ret
      have hyl : ys.length = j := by simpa using HOW.out.1
      have e : ys = markL j k := by
        have := HT.out
        rwa [List.take_of_length_le (by omega), List.take_of_length_le (by rw [markL_length]; exact Nat.le_refl _)] at this
      exact ⟨rfl, e ▸ HOW.out, HB.out⟩

set_option maxHeartbeats 1000000 in
theorem heldIntS_any (B : Nat) (a : Option Addr) (cap n k : Nat) (w : World) (h : w.ownsRow B 3 1 (.slice a n cap) n (markL n k)) (hn : n ≤ 1099511627776) (hk : k ≤ 1099511627776) :
    Calls Tryd.prog 16 #[.slice a n cap, .int .i64 (k : Int)] w fun e w' => e = .returned (.int .i64 ((k + n : Nat) : Int)) ∧ Below w.heap.size w w' := by
  have HO := Lib.hid h
  clear h
  go_enter Tryd.func16, Tryd.ntmps16
  go_wp2
  go_loopw [1, 5] (fun kk i wr => ∃ (j : Nat), j ≤ n ∧ kk = .int .i64 ((k + j : Nat) : Int) ∧ i = .int .i64 (j : Int) ∧ Below w.heap.size w wr) (fun _ i _ => n - (intOf i).toNat)
  case atStart => exact ⟨0, Nat.zero_le _, by simp, rfl, Below.refl _ _⟩
  case round =>
    obtain ⟨j, hj, rfl, rfl, hb⟩ := hrel
    have HB := Lib.hid hb
    have HOW := Lib.hid (ownsRow_below HO.out hb)
    clear hb
    by_cases hlt : j < n
    · obtain ⟨g, cap', hv, hg, hg2⟩ := ownsRow_some HOW.out (by omega)
      simp only [Value.slice.injEq, true_and] at hv
      obtain ⟨rfl, rfl⟩ := hv
      have hc := HOW.out.cellAt j (by omega)
      rw [markL_get hlt] at hc
      have hne : (((k + j : Nat) : Int) != ((k + j : Nat) : Int)) = false := by simp
      go_wp2
      go_light
      exact ⟨⟨j + 1, by omega, by go_num, by go_num, HB.out⟩, by simp [intOf]; omega⟩
    · obtain rfl : j = n := by omega
      go_wp2
      go_ret
      exact ⟨rfl, HB.out⟩
theorem markIntS_one (B : Nat) (a : Option Addr) (cap n : Nat) (xs : List Value) (w : World) (h : w.ownsRow B 3 1 (.slice a n cap) n xs) (hB : B ≤ w.heap.size) (hn : n ≤ 1099511627776) :
    Calls Tryd.prog 15 #[.slice a n cap, .int .i64 1] w fun e w' => e = .returned (.int .i64 ((n + 1 : Nat) : Int)) ∧ w'.ownsRow B 3 1 (.slice a n cap) n (markL n 1) ∧ Below B w w' := by
  have h1 := markIntS_any B a cap n 1 xs w h hB hn (by omega)
  rw [Nat.add_comm 1 n] at h1
  exact h1
theorem heldIntS_one (B : Nat) (a : Option Addr) (cap n : Nat) (w : World) (h : w.ownsRow B 3 1 (.slice a n cap) n (markL n 1)) (hn : n ≤ 1099511627776) :
    Calls Tryd.prog 16 #[.slice a n cap, .int .i64 1] w fun e w' => e = .returned (.int .i64 ((n + 1 : Nat) : Int)) ∧ Below w.heap.size w w' := by
  have h1 := heldIntS_any B a cap n 1 w h hn (by omega)
  rw [Nat.add_comm 1 n] at h1
  exact h1
end Go.Proofs.YtbdamjhgggnihaaDoor
