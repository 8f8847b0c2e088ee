/-
  Slices of strings: what a slice that is read holds; the laws' helpers toStringS, eqStringS, szStringS. Conditions: bounds.
-/
import Derived.Test.YtpolpihgclemnaaDoorInts
import Derived.Test.YtpolpihgclemnaaDoorText
import Derived.WalkKit
import Derived.WalkLawsBesides
import Derived.BigQuiet
import Derived.Deep.Light
import Derived.Deep.QuietTactic
import Derived.WalkSmall
import Derived.ProofKit
namespace Go.Proofs.YtpolpihgclemnaaDoor
open Go.RowKit
set_option linter.unusedVariables false
set_option linter.unusedSimpArgs false

/-- a slice of strings that is read -/
def RowS (w : World) (a : Option Addr) (l : List ByteArray) : Prop :=
  l = [] ∨ ∃ b off, a = some ⟨b, off, none⟩ ∧ b < w.heap.size ∧ ∀ i, i < l.length → w.cell? ⟨b, off + i, none⟩ = some (.string (l.getD i .empty))
/-- what a law's frame is told of a slice of strings that came in -/
def IsStrs (w : World) (a : Option Addr) (len cap : Nat) (ss : List ByteArray) : Prop :=
  (a = none ∧ len = 0 ∧ cap = 0 ∧ ss = []) ∨
  ∃ x, a = some x ∧ len ≤ cap ∧ cap ≤ maxLen ∧ ss.length = cap ∧ (∀ i, i < ss.length → w.cell? (x.add i) = some (.string (ss.getD i .empty))) ∧ ∀ s ∈ ss, s.size ≤ maxLen
theorem isStrs_row {w : World} {a : Option Addr} {len cap : Nat} {ss : List ByteArray} (h : IsStrs w a len cap ss) :
    RowS w a (ss.take len) ∧ (ss.take len).length = len ∧ len ≤ maxLen ∧ ∀ s ∈ ss.take len, s.size ≤ maxLen := by
  rcases h with ⟨rfl, rfl, rfl, rfl⟩ | ⟨x, rfl, hl, hm, hz, hc, hw⟩
  · exact ⟨.inl rfl, rfl, Nat.zero_le _, fun n hn => by simp at hn⟩
  · have hlen : (ss.take len).length = len := by rw [List.length_take]; omega
    refine ⟨?_, hlen, by omega, fun n hn => hw n (List.mem_of_mem_take hn)⟩
    by_cases h0 : len = 0
    · left; subst h0; rfl
    · right
      obtain ⟨b, off, spot⟩ := x
      have hc0 := hc 0 (by omega)
      have hspot : spot = none := by simpa [Addr.add] using World.cell?_spot hc0
      subst hspot
      refine ⟨b, off, rfl, cell_lt (by simpa [Addr.add] using hc0), ?_⟩
      intro i hi
      have := hc i (by omega)
      rw [hlen] at hi
      rw [show (⟨b, off + i, none⟩ : Addr) = (⟨b, off, none⟩ : Addr).add i by simp [Addr.add], this]
      congr 2
      simp [List.getD_eq_getElem?_getD, hi]
theorem RowS.below {w w' : World} {a : Option Addr} {l : List ByteArray} (h : RowS w a l) (hb : Below w.heap.size w w') : RowS w' a l := by
  rcases h with h | ⟨b, off, rfl, hlt, hc⟩
  · exact .inl h
  · exact .inr ⟨b, off, rfl, Nat.lt_of_lt_of_le hlt hb.size, fun i hi => by rw [hb.cell (p := ⟨b, off + i, none⟩) hlt]; exact hc i hi⟩
theorem Fill.rowS {w wr : World} {g : Nat} {l : List ByteArray} (h : Fill w wr g l.length (fun j => .string (l.getD j .empty))) : RowS wr (some ⟨g, 0, none⟩) l :=
  .inr ⟨g, 0, rfl, h.hi, fun i hi => by rw [Nat.zero_add]; exact h.cell i hi⟩
theorem getD_getS (l : List ByteArray) (k : Nat) (h : k < l.length) : l.getD k .empty = l[k] := by simp [h]



end Go.Proofs.YtpolpihgclemnaaDoor
