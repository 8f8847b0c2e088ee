/-
  Slices of strings: what a slice that is read holds; the laws' helpers toStringS, eqStringS, szStringS. Conditions: bounds.
-/
import Derived.Test.YtobpecgecopdnaaGreatDoorInts
import Derived.Test.YtobpecgecopdnaaGreatDoorText
import Derived.WalkKit
import Derived.WalkLawsBesides
import Derived.BigQuiet
import Derived.Deep.Light
import Derived.Deep.QuietTactic
import Derived.WalkSmall
import Derived.ProofKit
namespace Go.Proofs.YtobpecgecopdnaaGreatDoor
open Go.RowKit
set_option linter.unusedVariables false
set_option linter.unusedSimpArgs false

/-- a slice of strings that is read -/
def RowS (w : World) (a : Option Addr) (l : List ByteArray) : Prop :=
  l = [] ∨ ∃ b off, a = some ⟨b, off, none⟩ ∧ b < w.heap.size ∧ ∀ i, i < l.length → w.cell? ⟨b, off + i, none⟩ = some (.string (l.getD i .empty))
/-- what a law's frame is told of a slice of strings that came in -/
def IsStrs (w : World) (a : Option Addr) (len cap : Nat) (ss : List ByteArray) : Prop :=
  (a = none ∧ len = 0 ∧ cap = 0 ∧ ss = []) ∨
  ∃ x, a = some x ∧ len ≤ cap ∧ cap ≤ maxLen ∧ ss.length = cap ∧ (∀ i, i < ss.length → w.cell? (x.add i) = some (.string (ss.getD i .empty))) ∧ ∀ s ∈ ss, s.size ≤ maxLen
theorem isStrs_row {w : World} {a : Option Addr} {len cap : Nat} {ss : List ByteArray} (h : IsStrs w a len cap ss) :
    RowS w a (ss.take len) ∧ (ss.take len).length = len ∧ len ≤ maxLen ∧ ∀ s ∈ ss.take len, s.size ≤ maxLen := by
  rcases h with ⟨rfl, rfl, rfl, rfl⟩ | ⟨x, rfl, hl, hm, hz, hc, hw⟩
  · exact ⟨.inl rfl, rfl, Nat.zero_le _, fun n hn => by simp at hn⟩
  · have hlen : (ss.take len).length = len := by rw [List.length_take]; omega
    refine ⟨?_, hlen, by omega, fun n hn => hw n (List.mem_of_mem_take hn)⟩
    by_cases h0 : len = 0
    · left; subst h0; rfl
    · right
      obtain ⟨b, off, spot⟩ := x
      have hc0 := hc 0 (by omega)
      have hspot : spot = none := by simpa [Addr.add] using World.cell?_spot hc0
      subst hspot
      refine ⟨b, off, rfl, cell_lt (by simpa [Addr.add] using hc0), ?_⟩
      intro i hi
      have := hc i (by omega)
      rw [hlen] at hi
      rw [show (⟨b, off + i, none⟩ : Addr) = (⟨b, off, none⟩ : Addr).add i by simp [Addr.add], this]
      congr 2
      simp [List.getD_eq_getElem?_getD, hi]
theorem RowS.below {w w' : World} {a : Option Addr} {l : List ByteArray} (h : RowS w a l) (hb : Below w.heap.size w w') : RowS w' a l := by
  rcases h with h | ⟨b, off, rfl, hlt, hc⟩
  · exact .inl h
  · exact .inr ⟨b, off, rfl, Nat.lt_of_lt_of_le hlt hb.size, fun i hi => by rw [hb.cell (p := ⟨b, off + i, none⟩) hlt]; exact hc i hi⟩
theorem Fill.rowS {w wr : World} {g : Nat} {l : List ByteArray} (h : Fill w wr g l.length (fun j => .string (l.getD j .empty))) : RowS wr (some ⟨g, 0, none⟩) l :=
  .inr ⟨g, 0, rfl, h.hi, fun i hi => by rw [Nat.zero_add]; exact h.cell i hi⟩
theorem getD_getS (l : List ByteArray) (k : Nat) (h : k < l.length) : l.getD k .empty = l[k] := by simp [h]

theorem infoStr : (Tryz.prog.info? 9).map (fun i => (i.zero, i.size, i.bytes)) = some (some (.string .empty), 1, 16) := by kernel_rfl
theorem makeStrs (n : Nat) (hn : n ≤ 1099511627776) (u : World) : (Instr.makeSlice 31 (.int .i64 (n : Int)) (.int .i64 (n : Int))).run Tryz.prog u =
      .ok (.slice (some ⟨u.heap.size, 0, none⟩) n n) (u.alloc (.cells (madeCells #[.string .empty] n) 9)) := by
  obtain ⟨i0, hi, hz0, hz1, hz2⟩ := info_parts infoStr
  have h := run_make (P := Tryz.prog) u 31 9 i0 (.string .empty) Tryz.underlying31 hi hz0 .i64 .i64 (n : Int) (n : Int) (by omega) (Int.le_refl _) (by rw [hz2]; omega) (by omega)
  simpa [hz1, Value.cells] using h
theorem madeStrs_get (z : Value) (n j : Nat) (hj : j < n) : (madeCells #[z] n)[j]? = some z := by
  have e : j % 1 = 0 := Nat.mod_one j
  simp [madeCells, hj, e]
/-- what toStringS leaves: a new row that holds l -/
def MadeStrs (w : World) (l : List ByteArray) (e : Ending) (w' : World) : Prop :=
  ∃ g, e = .returned (.slice (some ⟨g, 0, none⟩) l.length l.length) ∧ w.heap.size ≤ g ∧ RowS w' (some ⟨g, 0, none⟩) l ∧ Below w.heap.size w w'
theorem toStringS_any (a : Option Addr) (cap : Nat) (l : List ByteArray) (w : World) (h : RowS w a l) (hl : l.length ≤ 1048576) :
    Calls Tryz.prog 19 #[.slice a l.length cap] w (MadeStrs w l) := by
  have hmk := makeStrs l.length (by omega)
  have hF := Fill.made w w (Below.refl _ _) (madeCells #[.string .empty] l.length) 9 (fun _ => .string .empty) (fun j hj => madeStrs_get _ _ _ (by simpa [size_madeCells] using hj))
  rw [size_madeCells] at hF
  have HF := Lib.hid hF
  have HR := Lib.hid h
  clear hF h
  go_enter Tryz.func19, Tryz.ntmps19
  go_wp2
  go_loopw [4] (fun i wr => ∃ k : Nat, k ≤ l.length ∧ i = .int .i64 k ∧ Fill w wr w.heap.size l.length (fun j => if j < k then .string (l.getD j .empty) else .string .empty)) (fun i _ => l.length - (intOf i).toNat)
  case atStart => exact ⟨0, Nat.zero_le _, rfl, by simpa using HF.out⟩
  case round =>
    obtain ⟨k, hk, rfl, hfill⟩ := hrel
    have HI := Lib.hid hfill
    clear hfill hmk
    by_cases hlt : k < l.length
    · have hR : RowS wr a l := HR.out.below HI.out.below
      rcases hR with h0 | ⟨b, off, rfl, hb, hc⟩
      · rw [h0] at hlt; exact absurd hlt (Nat.not_lt_zero _)
      · have hc0 := hc k hlt
        rw [getD_getS l k hlt] at hc0
        clear hc
        have hs0 := HI.out.cell k hlt
        have hf0 := HI.out.free k hlt
        go_wp2
        go_light
        refine ⟨⟨k + 1, by omega, by go_num, ?_⟩, by simp [intOf]; omega⟩
        refine (HI.out.store hlt (.string l[k])).congr ?_
        intro j hj
        by_cases e : j = k
        · subst e
          simp [hlt]
        · simp only [if_neg e]
          by_cases e1 : j < k
          · rw [if_pos e1, if_pos (by omega)]
          · rw [if_neg e1, if_neg (by omega)]
    · obtain rfl : k = l.length := by omega
      go_wp2
      go_ret
      refine ⟨w.heap.size, rfl, Nat.le_refl _, ?_, HI.out.below⟩
      exact (HI.out.congr (fun j hj => by simp only [if_pos hj])).rowS

/-- two slices that hold the same -/
theorem eqStringS_same (a a' : Option Addr) (cap cap' : Nat) (l : List ByteArray) (w : World) (h : RowS w a l) (h' : RowS w a' l) (hl : l.length ≤ 1099511627776) :
    Calls Tryz.prog 27 #[.slice a l.length cap, .slice a' l.length cap'] w fun e w' => e = .returned (.bool true) ∧ Below w.heap.size w w' := by
  have hne : ((l.length : Int) != (l.length : Int)) = false := by simp
  have HR := Lib.hid h
  have HR' := Lib.hid h'
  clear h h'
  go_enter Tryz.func27, Tryz.ntmps27
  go_wp2
  go_loopw [5] (fun i wr => ∃ k : Nat, k ≤ l.length ∧ i = .int .i64 k ∧ Below w.heap.size w wr) (fun i _ => l.length - (intOf i).toNat)
  case atStart => exact ⟨0, Nat.zero_le _, rfl, Below.refl _ _⟩
  case round =>
    obtain ⟨k, hk, rfl, hb⟩ := hrel
    have HB := Lib.hid hb
    clear hb
    by_cases hlt : k < l.length
    · have hR : RowS wr a l := HR.out.below HB.out
      have hR' : RowS wr a' l := HR'.out.below HB.out
      rcases hR with h0 | ⟨b, off, rfl, hbl, hc⟩
      · rw [h0] at hlt; exact absurd hlt (Nat.not_lt_zero _)
      rcases hR' with h0 | ⟨b', off', rfl, hbl', hc'⟩
      · rw [h0] at hlt; exact absurd hlt (Nat.not_lt_zero _)
      have hc0 := hc k hlt
      have hc0' := hc' k hlt
      rw [getD_getS l k hlt] at hc0 hc0'
      clear hc hc'
      have hlt' : (k : Int) < l.length := by omega
      have h0' : (0 : Int) ≤ k := by omega
      go_wp2
      go_quiet (fail)
      go_wp2
      exact ⟨⟨k + 1, by omega, by go_num, Go.below_drewN HB.out _⟩, by simp [intOf]; omega⟩
    · obtain rfl : k = l.length := by omega
      go_wp2
      go_ret
      exact ⟨rfl, HB.out⟩

/-- the laws' measure of a slice of strings: where it is not negative, the slice is small -/
theorem szStringS_any (a : Option Addr) (cap : Nat) (l : List ByteArray) (w : World) (h : RowS w a l) (hm : l.length ≤ 9223372036854775807) (hsz : ∀ s ∈ l, s.size ≤ 9223372036854775807) :
    Calls Tryz.prog 16 #[.slice a l.length cap, .int .i64 1048576] w fun e w' => ∃ v : Int, e = .returned (.int .i64 v) ∧ (0 ≤ v → l.length ≤ 1048576 ∧ ∀ s ∈ l, s.size ≤ 1048576) ∧ v ≤ 1048576 ∧ -9223372036854775808 ≤ v ∧ Below w.heap.size w w' := by
  have HR := Lib.hid h
  have HS := Lib.hid hsz
  clear h hsz
  by_cases hbig : 1048576 < l.length
  · have hb' : (1048576 : Int) < l.length := by omega
    go_enter Tryz.func16, Tryz.ntmps16
    go_wp2
    go_ret
    exact ⟨-1, rfl, fun h => absurd h (by omega), by omega, by omega, Below.refl _ _⟩
  · have hb' : (l.length : Int) ≤ 1048576 := by omega
    go_enter Tryz.func16, Tryz.ntmps16
    go_wp2
    go_loopw [1, 5] (fun v i wr => ∃ (k : Nat) (x : Int), k ≤ l.length ∧ i = .int .i64 k ∧ v = .int .i64 x ∧ 0 ≤ x ∧ x ≤ 1048576 ∧ (∀ s ∈ l.take k, s.size ≤ 1048576) ∧ Below w.heap.size w wr) (fun _ i _ => l.length - (intOf i).toNat)
    case atStart => exact ⟨0, 1048576 - l.length, Nat.zero_le _, rfl, rfl, by omega, by omega, fun s hs => by simp at hs, Below.refl _ _⟩
    case round =>
      obtain ⟨k, x, hk, rfl, rfl, hx0, hx1, hsm, hb⟩ := hrel
      have HB := Lib.hid hb
      have HSM := Lib.hid hsm
      clear hb hsm
      by_cases hlt : k < l.length
      · have hR : RowS wr a l := HR.out.below HB.out
        rcases hR with h0 | ⟨b, off, rfl, hbl, hc⟩
        · rw [h0] at hlt; exact absurd hlt (Nat.not_lt_zero _)
        have hc0 := hc k hlt
        rw [getD_getS l k hlt] at hc0
        have hsk := HS.out _ (List.getElem_mem hlt)
        have htk : l.take (k + 1) = l.take k ++ [l[k]] := List.take_succ_eq_append_getElem hlt
        generalize l[k] = s at *
        have HTK := Lib.hid htk
        clear hc htk
        by_cases hneg : x - s.size < 0
        · go_wp2
          go_ret
          exact ⟨-1, rfl, fun h => absurd h (by omega), by omega, by omega, HB.out⟩
        · go_wp2
          refine ⟨⟨k + 1, x - s.size, by omega, by go_num, rfl, by omega, by omega, fun t ht => ?_, HB.out⟩, by simp [intOf]; omega⟩
          rw [HTK.out, List.mem_append] at ht
          rcases ht with ht | ht
          · exact HSM.out t ht
          · simp at ht
            subst ht
            omega
      · obtain rfl : k = l.length := by omega
        go_wp2
        go_ret
        refine ⟨x, rfl, fun _ => ⟨by omega, fun s hs => HSM.out s (by rw [List.take_of_length_le (Nat.le_refl _)]; exact hs)⟩, hx1, by omega, HB.out⟩
end Go.Proofs.YtobpecgecopdnaaGreatDoor
