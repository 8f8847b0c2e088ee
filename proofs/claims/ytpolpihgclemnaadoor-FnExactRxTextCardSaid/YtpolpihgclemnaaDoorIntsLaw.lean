/-
  The contracts of the laws' own helpers on slices of integers: toIntS copies, eqIntS compares. No condition.
-/
import Derived.Test.YtpolpihgclemnaaDoorInts
import Derived.WalkKit
import Derived.WalkLawsBesides
import Derived.WalkSpells
import Derived.BigQuiet
import Derived.Deep.Light
import Derived.Deep.QuietTactic
import Derived.ProofKit
namespace Go.Proofs.YtpolpihgclemnaaDoor
open Go.RowKit
set_option linter.unusedVariables false
set_option linter.unusedSimpArgs false

theorem infoInt : (Tryd.prog.info? 3).map (fun i => (i.zero, i.size, i.bytes)) = some (some (.int .i64 0), 1, 8) := by kernel_rfl

theorem makeInts (n : Nat) (hn : n ≤ 1099511627776) (u : World) : (Instr.makeSlice 36 (.int .i64 (n : Int)) (.int .i64 (n : Int))).run Tryd.prog u =
      .ok (.slice (some ⟨u.heap.size, 0, none⟩) n n) (u.alloc (.cells (madeCells #[.int .i64 0] n) 3)) := by
  obtain ⟨i0, hi, hz0, hz1, hz2⟩ := info_parts infoInt
  have h := run_make (P := Tryd.prog) u 36 3 i0 (.int .i64 0) Tryd.underlying36 hi hz0 .i64 .i64 (n : Int) (n : Int) (by omega) (Int.le_refl _) (by rw [hz2]; omega) (by omega)
  simpa [hz1, Value.cells] using h

theorem madeCells_get (z : Value) (n j : Nat) (hj : j < n) : (madeCells #[z] n)[j]? = some z := by
  have e : j % 1 = 0 := Nat.mod_one j
  simp [madeCells, hj, e]

/-- what toIntS leaves: a new row that holds l -/
def MadeInts (w : World) (l : List Int) (e : Ending) (w' : World) : Prop :=
  ∃ g, e = .returned (.slice (some ⟨g, 0, none⟩) l.length l.length) ∧ w.heap.size ≤ g ∧ RowI .i64 w' (some ⟨g, 0, none⟩) l ∧ Below w.heap.size w w'

theorem toIntS_any (a : Option Addr) (cap : Nat) (l : List Int) (w : World) (h : RowI .i64 w a l) (hl : l.length ≤ 1099511627776) :
    Calls Tryd.prog 27 #[.slice a l.length cap] w (MadeInts w l) := by
  have hmk := makeInts l.length hl
  have hF := Fill.made w w (Below.refl _ _) (madeCells #[.int .i64 0] l.length) 3 (fun _ => .int .i64 0) (fun j hj => madeCells_get _ _ _ (by simpa [size_madeCells] using hj))
  rw [size_madeCells] at hF
  have HF := Lib.hid hF
  have HR := Lib.hid h
  clear hF h
  go_enter Tryd.func27, Tryd.ntmps27
  go_wp2
  go_loopw [4] (fun i wr => ∃ k : Nat, k ≤ l.length ∧ i = .int .i64 k ∧ Fill w wr w.heap.size l.length (fun j => if j < k then .int .i64 (l.getD j 0) else .int .i64 0)) (fun i _ => l.length - (intOf i).toNat)
  case atStart => exact ⟨0, Nat.zero_le _, rfl, by simpa using HF.out⟩
  case round =>
    obtain ⟨k, hk, rfl, hfill⟩ := hrel
    have HI := Lib.hid hfill
    clear hfill hmk
    by_cases hlt : k < l.length
    · have hR : RowI .i64 wr a l := HR.out.below HI.out.below
      rcases hR with h0 | ⟨b, off, rfl, hb, hc⟩
      · rw [h0] at hlt; exact absurd hlt (Nat.not_lt_zero _)
      · have hc0 := hc k hlt
        clear hc
        have hs0 := HI.out.cell k hlt
        have hf0 := HI.out.free k hlt
        go_wp2
        go_light
        refine ⟨⟨k + 1, by omega, by go_num, ?_⟩, by simp [intOf]; omega⟩
        refine (HI.out.store hlt (.int .i64 l[k])).congr ?_
        intro j hj
        by_cases e : j = k
        · subst e
          simp [hlt]
        · simp only [if_neg e]
          by_cases e1 : j < k
          · rw [if_pos e1, if_pos (by omega)]
          · rw [if_neg e1, if_neg (by omega)]
    · obtain rfl : k = l.length := by omega
      go_wp2
      go_ret
      refine ⟨w.heap.size, rfl, Nat.le_refl _, ?_, HI.out.below⟩
      exact (HI.out.congr (fun j hj => by simp only [if_pos hj])).row

theorem getD_get (l : List Int) (k : Nat) (h : k < l.length) : l.getD k 0 = l[k] := by simp [h]

/-- two slices that hold the same -/
theorem eqIntS_same (a a' : Option Addr) (cap cap' : Nat) (l : List Int) (w : World) (h : RowI .i64 w a l) (h' : RowI .i64 w a' l) (hl : l.length ≤ 1099511627776) :
    Calls Tryd.prog 35 #[.slice a l.length cap, .slice a' l.length cap'] w fun e w' => e = .returned (.bool true) ∧ Below w.heap.size w w' := by
  have hne : ((l.length : Int) != (l.length : Int)) = false := by simp
  have HR := Lib.hid h
  have HR' := Lib.hid h'
  clear h h'
  go_enter Tryd.func35, Tryd.ntmps35
  go_wp2
  go_loopw [5] (fun i wr => ∃ k : Nat, k ≤ l.length ∧ i = .int .i64 k ∧ Below w.heap.size w wr) (fun i _ => l.length - (intOf i).toNat)
  case atStart => exact ⟨0, Nat.zero_le _, rfl, Below.refl _ _⟩
  case round =>
    obtain ⟨k, hk, rfl, hb⟩ := hrel
    have HB := Lib.hid hb
    clear hb
    by_cases hlt : k < l.length
    · have hR : RowI .i64 wr a l := HR.out.below HB.out
      have hR' : RowI .i64 wr a' l := HR'.out.below HB.out
      rcases hR with h0 | ⟨b, off, rfl, hbl, hc⟩
      · rw [h0] at hlt; exact absurd hlt (Nat.not_lt_zero _)
      rcases hR' with h0 | ⟨b', off', rfl, hbl', hc'⟩
      · rw [h0] at hlt; exact absurd hlt (Nat.not_lt_zero _)
      have hc0 := hc k hlt
      have hc0' := hc' k hlt
      rw [getD_get l k hlt] at hc0 hc0'
      clear hc hc'
      have hlt' : (k : Int) < l.length := by omega
      have h0' : (0 : Int) ≤ k := by omega
      have hnn : (l[k] != l[k]) = false := by simp
      go_wp2
      go_quiet (fail)
      go_wp2
      exact ⟨⟨k + 1, by omega, by go_num, Go.below_drewN HB.out _⟩, by simp [intOf]; omega⟩
    · obtain rfl : k = l.length := by omega
      go_wp2
      go_ret
      exact ⟨rfl, HB.out⟩
end Go.Proofs.YtpolpihgclemnaaDoor
