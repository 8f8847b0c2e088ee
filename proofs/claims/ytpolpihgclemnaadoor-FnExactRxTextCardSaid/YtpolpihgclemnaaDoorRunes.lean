/-
  The contracts of Runes, the reference's and the program's: the code points of a text of at most 1000 bytes in a new row. Conditions: the string is no longer than 2 to the 40; the tables of unicode utf8 stand in memory.
-/
import Derived.Test.YtpolpihgclemnaaDoorNext
import Derived.Test.YtpolpihgclemnaaDoorOwns
import Derived.Test.YtpolpihgclemnaaDoorIntsLaw
import Derived.Test.YtpolpihgclemnaaDoorTabs
import Derived.Deep.DeepMust
import Derived.Lib.IndexAny
import Derived.Lib.OthersKept
namespace Go.Proofs.YtpolpihgclemnaaDoor
open Go.RowKit
open Go.Lib hiding intOf
set_option linter.unusedVariables false
set_option linter.unusedSimpArgs false

/-- the code points of a text of at most 1000 bytes; none of what is no text -/
def textRunes (l : List UInt8) : Option (List Nat) := if 1000 < l.length then none else runes l
def okT (l : List UInt8) : Bool := (textRunes l).isSome
def rl (l : List UInt8) : List Nat := (textRunes l).getD []
def intV (c : Nat) : Value := .int .i64 (c : Int)

/-- what both leave: the code points in a row of the call's own, and whether it is a text -/
def RunesPost (w : World) (l : List UInt8) (e : Ending) (w' : World) : Prop :=
  ∃ v, e = .returned (.tuple #[v, .bool (okT l)]) ∧ w'.ownsRow w.heap.size 3 1 v (rl l).length ((rl l).map intV) ∧ Below w.heap.size w w'

theorem okT_long {l : List UInt8} (h : 1000 < l.length) : okT l = false ∧ rl l = [] := by simp [okT, rl, textRunes, h]
theorem okT_some {l : List UInt8} {r : List Nat} (h : l.length ≤ 1000) (h' : runes l = some r) : okT l = true ∧ rl l = r := by
  have : ¬ 1000 < l.length := by omega
  simp [okT, rl, textRunes, this, h']
theorem okT_none {l : List UInt8} (h' : runes l = none) : okT l = false ∧ rl l = [] := by
  unfold okT rl textRunes
  by_cases h : 1000 < l.length
  · rw [if_pos h]; exact ⟨rfl, rfl⟩
  · rw [if_neg h, h']; exact ⟨rfl, rfl⟩

theorem nx_bound (l : List UInt8) (hne : l ≠ []) : (nx l).2 ≤ l.length ∧ ((nx l).2 ≠ 0 → (nx l).1 ≤ 1114111) := by
  rcases nx_decode l hne with ⟨h, _⟩ | ⟨h, _, h2, _, h5, _⟩
  · rw [h]; simp
  · rw [h]; rw [isPt_iff] at h2; exact ⟨h5, fun _ => by omega⟩

set_option maxRecDepth 10000

theorem below_iter (w : World) (s : ByteArray) (p : Nat) {B : Nat} (hB : B ≤ w.heap.size) : Below B w (w.iter s p) :=
  ((Below.refl B w).alloc hB _)

/-- an owned row of integers reads as its numbers -/
theorem rowI_owns {w : World} {b : Nat} {a : Option Addr} {cap n : Nat} {l : List Nat} (h : w.ownsRow b 3 1 (.slice a n cap) n (l.map intV)) : RowI .i64 w a (l.map Int.ofNat) := by
  have hl : l.length = n := by simpa using h.1
  rcases h.2 with ⟨h1, rfl⟩ | ⟨g, cap', cur, h1, hg, hh, _⟩
  · left; have : l = [] := List.eq_nil_of_length_eq_zero hl; subst this; rfl
  · right
    simp only [Value.slice.injEq, true_and] at h1
    obtain ⟨rfl, rfl⟩ := h1
    refine ⟨g, 0, rfl, (Array.getElem?_eq_some_iff.1 hh).1, fun i hi => ?_⟩
    rw [List.length_map] at hi
    rw [Nat.zero_add, h.cellAt i (by omega), List.getElem?_map, List.getElem?_eq_getElem hi]
    simp [intV, hi]
end Go.Proofs.YtpolpihgclemnaaDoor
