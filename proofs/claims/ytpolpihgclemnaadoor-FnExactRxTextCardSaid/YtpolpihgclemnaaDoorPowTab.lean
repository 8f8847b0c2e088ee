/-
  The table of strconv's Itoa, and Itoa's contract by the numeral. Conditions: an int; the table stands in memory.
-/
import Derived.Test.YtpolpihgclemnaaDoorNumText
import Derived.Test.YtpolpihgclemnaaDoorLaidWorld
import Derived.Lib.LaidTab
import Derived.Lib.SmallJoins
import Derived.Lib.QuietBelow
namespace Go.Proofs.YtpolpihgclemnaaDoor
open Go.RowKit Go.Lib
set_option linter.unusedVariables false
set_option linter.unusedSimpArgs false

/-- the table of the powers of ten stands in memory -/
def PowTab (w : World) : Prop := Lib.TabIs Tryd.prog w "internal/strconv.uint64pow10" .u64 Lib.pow10Tab
theorem PowTab.below {w w' : World} (h : PowTab w) (hb : Below w.heap.size w w') : PowTab w' := Go.Joins.tab_stays (g := 1) (by kernel_rfl) h hb (Nat.le_refl _)
theorem below_of_grow (w : World) (k : Nat) (os : Array Obj) : Below w.heap.size w (Sort.grow (w.drewN k) os) :=
  ⟨rfl, rfl, rfl, by simp [Sort.grow, World.drewN], fun j hj => by simp [Sort.grow, World.drewN, Array.getElem?_append, hj]⟩
theorem itoa_any (n : Int) (w : World) (h0 : -9223372036854775808 ≤ n) (h1 : n ≤ 9223372036854775807) (hT : PowTab w) :
    Calls Tryd.prog 44 #[.int .i64 n] w fun e w' => e = .returned (.string (ofL (numL n))) ∧ Below w.heap.size w w' := by
  refine (Tryd.strconv_Itoa n h0 h1 w hT).mono ?_
  rintro e w' ⟨rfl, k, os, rfl⟩
  rw [itoa_numL]
  exact ⟨rfl, below_of_grow w k os⟩
theorem pow_tab : (Rows.laid_internal_strconv_uint64pow10 : DataW Unit) = Lib.tabData .u64 Lib.pow10Tab := by kernel_rfl
theorem laid_tail {x : String × DataW Unit} {r : List (String × DataW Unit)} {W : World} (h : laidMet Tryd.prog (x :: r) W) : laidMet Tryd.prog r W := by
  obtain ⟨m, d⟩ := x
  obtain ⟨ps, hv, hn, hm⟩ := h
  obtain ⟨g, t, cs, fuel, p, q, h1, h2, h3, h4, hq, rfl⟩ := hv
  exact ⟨q, hq, (List.nodup_append.1 hn).2.1, fun b off hb => hm b off (List.mem_append_right _ hb)⟩
theorem pow_of {a b : String × DataW Unit} {rest : List (String × DataW Unit)} {W : World} (hL : laidMet Tryd.prog (a :: b :: ("internal/strconv.uint64pow10", Rows.laid_internal_strconv_uint64pow10) :: rest) W) : PowTab W := by
  have h := laid_tail (laid_tail hL)
  rw [pow_tab] at h
  exact Lib.tabIs_of_head (g := 1) (t := 95) (e := 89) (n := 20) (by kernel_rfl) (by kernel_rfl) (by kernel_rfl) (by kernel_rfl) (by kernel_rfl) (by kernel_rfl) h
theorem numL_neg (A : Nat) (h : A ≠ 0) : numL (-(A : Int)) = 45 :: dec A := by unfold numL; rw [if_pos (by omega)]; congr 2; omega
theorem numL_pos (A : Nat) : numL (A : Int) = dec A := by unfold numL; rw [if_neg (by omega)]; congr 1
theorem trim_numL (n : Int) : Lib.trimPrefix (numL n) [45] = dec n.natAbs := by
  unfold Lib.trimPrefix numL
  by_cases h : n < 0
  · rw [if_pos h]
    rw [if_pos (by simp [Lib.hasPrefix])]
    rfl
  · rw [if_neg h]
    have hd := dec_all n.natAbs
    have : Lib.hasPrefix (dec n.natAbs) [45] = false := by
      cases e : dec n.natAbs with
      | nil => rfl
      | cons c r =>
        rw [e, List.all_cons, Bool.and_eq_true] at hd
        have h1 := isDig_le hd.1
        have hc : c ≠ 45 := fun h => by rw [h] at h1; exact absurd h1.1 (by decide)
        show ((45 : UInt8) == c && List.isPrefixOf [] r) = false
        rw [beq_eq_false_iff_ne.2 (Ne.symm hc)]; rfl
    rw [this]; rfl
end Go.Proofs.YtpolpihgclemnaaDoor
