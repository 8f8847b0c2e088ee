/-
  The automaton of the operations that lie in memory: its steps without reading, what it reads, the bounds of a sound one. No condition.
-/
import Derived.Test.YtobpecgecopdnaaDoorNfaRun
import Derived.Test.YtobpecgecopdnaaDoorNfaSound
import Derived.Test.YtobpecgecopdnaaDoorRxHas
namespace Go.Proofs.YtobpecgecopdnaaDoor
open Go.RowKit
set_option linter.unusedVariables false
set_option linter.unusedSimpArgs false

def opAt (V : List OpV) (i : Nat) : OpV := V.getD i (0, 0, 0, false, [])
def sucV (V : List OpV) (L p i : Nat) : List Nat :=
  if (opAt V i).1 = 7 then [(opAt V i).2.1.toNat] else if (opAt V i).1 = 6 then [(opAt V i).2.1.toNat, (opAt V i).2.2.1.toNat] else if ((opAt V i).1 = 4 ∧ p = 0) ∨ ((opAt V i).1 = 5 ∧ p = L) then [i + 1] else []
def tkV (V : List OpV) (R : List Nat) (p i : Nat) : Bool :=
  if (opAt V i).1 = 1 then (opAt V i).2.1 == ((R.getD p 0 : Nat) : Int) else if (opAt V i).1 = 2 then true else if (opAt V i).1 = 3 then rxHas (opAt V i).2.2.2.2 (opAt V i).2.2.2.1 ((R.getD p 0 : Nat) : Int) else false
def rdgV (V : List OpV) (i : Nat) : Bool := decide ((opAt V i).1 < 4)
/-- what is sure of an operation of a sound automaton -/
structure OpBd (n i : Nat) (v : OpV) : Prop where
  lo : 1 ≤ v.1
  hi : v.1 ≤ 8
  fits : v.1 = 8 ↔ i + 1 = n
  jump : v.1 = 7 → 0 ≤ v.2.1 ∧ v.2.1 < n
  split : v.1 = 6 → (0 ≤ v.2.1 ∧ v.2.1 < n) ∧ 0 ≤ v.2.2.1 ∧ v.2.2.1 < n
theorem nfaOk_len {V : List OpV} (h : nfaOk V = true) : 1 ≤ V.length ∧ V.length ≤ 4000 := by
  unfold nfaOk betw at h
  simp at h
  omega
theorem opBd_of {V : List OpV} {n : Nat} (hn : V.length = n) (h : nfaOk V = true) {i : Nat} (hi : i < n) : OpBd n i (opAt V i) := by
  unfold nfaOk at h
  rw [hn, Bool.and_eq_true, List.all_eq_true] at h
  have h1 := h.2 i (List.mem_range.2 hi)
  show OpBd n i (V.getD i (0, 0, 0, false, []))
  generalize V.getD i (0, 0, 0, false, []) = v at *
  obtain ⟨op, a, b, neg, set⟩ := v
  unfold opOk at h1
  simp only [] at h1
  rw [Bool.and_eq_true, Bool.and_eq_true] at h1
  obtain ⟨⟨h2, h3⟩, h4⟩ := h1
  have h5 : 1 ≤ op ∧ op ≤ 8 := by unfold betw at h3; simpa using h3
  refine ⟨h5.1, h5.2, ?_, fun e => ?_, fun e => ?_⟩
  · have h6 : ((op == 8) = ((i : Int) == (n : Int) - 1)) := by simpa using h4
    constructor
    · intro e
      simp only [] at e
      rw [e] at h6
      have : (i : Int) = (n : Int) - 1 := by simpa using h6.symm
      omega
    · intro e
      have : ((i : Int) == (n : Int) - 1) = true := by simp; omega
      rw [this] at h6
      simpa using h6
  · simp only [] at e
    subst e
    simp [betw] at h2
    show 0 ≤ a ∧ a < n
    omega
  · simp only [] at e
    subst e
    simp [betw] at h2
    show (0 ≤ a ∧ a < n) ∧ 0 ≤ b ∧ b < n
    omega
theorem suc_lt {V : List OpV} {n L p i j : Nat} (h : OpBd n i (opAt V i)) (hi : i < n) (hj : j ∈ sucV V L p i) : j < n := by
  unfold sucV at hj
  by_cases e7 : (opAt V i).1 = 7
  · rw [if_pos e7] at hj
    simp at hj
    have := h.jump e7
    omega
  · rw [if_neg e7] at hj
    by_cases e6 : (opAt V i).1 = 6
    · rw [if_pos e6] at hj
      have := h.split e6
      simp at hj
      omega
    · rw [if_neg e6] at hj
      split at hj
      · rename_i h1
        simp at hj
        have h8 : ¬ (opAt V i).1 = 8 := by omega
        have := mt h.fits.2 h8
        omega
      · simp at hj
theorem tk_op {V : List OpV} {R : List Nat} {p i : Nat} (h : tkV V R p i = true) : (opAt V i).1 = 1 ∨ (opAt V i).1 = 2 ∨ (opAt V i).1 = 3 := by
  unfold tkV at h
  by_cases e1 : (opAt V i).1 = 1
  · exact .inl e1
  · by_cases e2 : (opAt V i).1 = 2
    · exact .inr (.inl e2)
    · by_cases e3 : (opAt V i).1 = 3
      · exact .inr (.inr e3)
      · simp [e1, e2, e3] at h
theorem tk_rdg {V : List OpV} {R : List Nat} {p i : Nat} (h : tkV V R p i = true) : rdgV V i = true := by
  unfold rdgV
  have := tk_op h
  simp
  omega
theorem rdg_lt {V : List OpV} {n i : Nat} (h : OpBd n i (opAt V i)) (hi : i < n) (hj : rdgV V i = true) : i + 1 < n := by
  unfold rdgV at hj
  have h1 : (opAt V i).1 < 4 := by simpa using hj
  have h8 : ¬ (opAt V i).1 = 8 := by omega
  have := mt h.fits.2 h8
  omega
section
variable {V : List OpV} {n L : Nat} {R : List Nat}
theorem rch_lt (hb : ∀ i, i < n → OpBd n i (opAt V i)) {p i j : Nat} (hi : i < n) (h : Rch (sucV V L) p i j) : j < n := by
  induction h with
  | refl => exact hi
  | tail _ h2 ih => exact suc_lt (hb _ ih) ih h2
theorem at_lt (hb : ∀ i, i < n → OpBd n i (opAt V i)) (hn : 1 ≤ n) {f p j : Nat} (h : At L (sucV V L) (tkV V R) f p j) : j < n := by
  induction h with
  | start _ => omega
  | eps _ h2 ih => exact suc_lt (hb _ ih) ih h2
  | read _ _ h3 ih => exact rdg_lt (hb _ ih) ih (tk_rdg h3)
end
end Go.Proofs.YtobpecgecopdnaaDoor
