/-
  The contracts of the laws' helpers markText, markStringS and heldStringS on a row of strings that a call owns. Condition: bounds.
-/
import Derived.Test.YtobpecgecopdnaaGreatDoorStrs
import Derived.Test.YtobpecgecopdnaaGreatDoorOwns
import Derived.Test.YtobpecgecopdnaaGreatDoorFill
import Derived.Laws.OwnMore
import Derived.Deep.RegionHeld3
namespace Go.Proofs.YtobpecgecopdnaaGreatDoor
open Go.RowKit
set_option linter.unusedVariables false
set_option linter.unusedSimpArgs false

/-- the laws' mark number k -/
def mkT (k : Nat) : ByteArray := ofL (109 :: dec k)
def DigAt (k0 k : Nat) (o : List UInt8) : Prop := (k = 0 ∧ o = dec k0) ∨ (0 < k ∧ dec k ++ o = dec k0)
theorem digAt_start {k : Nat} (h : 0 < k) : DigAt k k [] := .inr ⟨h, by simp⟩
theorem digAt_step {k0 k d q : Nat} {o : List UInt8} (h : DigAt k0 k o) (hk : 0 < k) (hd : k % 10 = d) (hq : k / 10 = q) : DigAt k0 q (UInt8.ofNat (48 + d) :: o) := by
  rcases h with ⟨h0, _⟩ | ⟨_, h⟩
  · omega
  · by_cases hs : k < 10
    · left
      rw [dec_small hs] at h
      have : d = k := by omega
      subst this
      exact ⟨by omega, by simpa using h⟩
    · right
      rw [dec_big hs, hd, hq] at h
      exact ⟨by omega, by simpa using h⟩
theorem digAt_len {k0 k : Nat} {o : List UInt8} (h : DigAt k0 k o) : o.length ≤ (dec k0).length := by
  rcases h with ⟨_, rfl⟩ | ⟨_, h⟩
  · exact Nat.le_refl _
  · rw [← h, List.length_append]; omega


/-- n strings that count from k on -/
def markSL (n : Nat) (k : Nat) : List Value := (List.range n).map (fun i => .string (mkT (k + i)))
theorem markSL_length (n k : Nat) : (markSL n k).length = n := by simp [markSL]
theorem markSL_get {n k i : Nat} (h : i < n) : (markSL n k)[i]? = some (.string (mkT (k + i))) := by simp [markSL, h]


theorem rowS_owns {w : World} {b : Nat} {a : Option Addr} {cap n : Nat} {L : List ByteArray} (h : w.ownsRow b 9 1 (.slice a n cap) n (L.map Value.string)) : RowS w a L := by
  have hl : L.length = n := by simpa using h.1
  rcases h.2 with ⟨h1, rfl⟩ | ⟨g, cap', cur, h1, hg, hh, _⟩
  · left; exact List.eq_nil_of_length_eq_zero hl
  · right
    simp only [Value.slice.injEq, true_and] at h1
    obtain ⟨rfl, rfl⟩ := h1
    refine ⟨g, 0, rfl, (Array.getElem?_eq_some_iff.1 hh).1, fun i hi => ?_⟩
    rw [Nat.zero_add, h.cellAt i (by omega), List.getElem?_map, List.getElem?_eq_getElem hi, getD_getS L i hi]
    rfl
/-- two owned rows of the same strings -/
theorem eqStringS_owned {B B' : Nat} {a a' : Option Addr} {cap cap' n : Nat} (L : List ByteArray) (w : World) (h : w.ownsRow B 9 1 (.slice a n cap) n (L.map Value.string)) (h' : w.ownsRow B' 9 1 (.slice a' n cap') n (L.map Value.string)) (hl : n ≤ 1099511627776) :
    Calls Tryz.prog 27 #[.slice a n cap, .slice a' n cap'] w fun e w' => e = .returned (.bool true) ∧ Below w.heap.size w w' := by
  have hn : L.length = n := by have := h.1; simpa using this
  have e := eqStringS_same a a' cap cap' L w (rowS_owns h) (rowS_owns h') (by omega)
  rw [hn] at e
  exact e
end Go.Proofs.YtobpecgecopdnaaGreatDoor
